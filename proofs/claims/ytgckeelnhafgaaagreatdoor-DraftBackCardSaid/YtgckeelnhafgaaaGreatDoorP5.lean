/-
  Parts of a walk, joined. No condition.
-/
import Derived.Test.YtgckeelnhafgaaaGreatDoorP4
import Derived.Shelf.Strings.Builder1
import Derived.Shelf.Strings.Builder2
import Derived.Shelf.Strings.OnBuilder
import Derived.Shelf.Strings.BuilderF
import Derived.Shelf.Strings.BuilderK
import Derived.Shelf.Strings.Builder2Cap
import Derived.Shelf.Strings.BuilderCap
import Derived.Maps.RangeRun
set_option linter.all false
set_option maxRecDepth 100000
set_option maxHeartbeats 4000000
open Go.Proofs Go.Proofs.YtgckeelnhafgaaaGreatDoor
open Tryz
open Go Go.Eng
variable {P : Program} {ro : Option Nat} {n : Nat} {w0 : World} {Q : Exit → Act → World → Prop} {r : Env} {ds : List Dfr} {m : Mem} {H : SHeap} {ops : Array Oper} {l : List Oper} {d : Nat} {ty : TypeId} {pos : String} {after : Array Edge}
namespace Go.Eng
open Go
def PrOk (a b : List Tx) : Nat → Nat → List (Nat × Nat) → Nat → Nat → Prop
 | i, k, [], n, m => i ≤ n ∧ k ≤ m
 | i, k, p :: l, n, m => i ≤ p.1 ∧ k ≤ p.2 ∧ p.1 < n ∧ p.2 < m ∧ (∃ x, a[p.1]? = some x ∧ b[p.2]? = some x) ∧ PrOk a b (p.1 + 1) (p.2 + 1) l n m
theorem PrOk.le {a b : List Tx} : ∀ {l : List (Nat × Nat)} {i k n m : Nat}, PrOk a b i k l n m → i ≤ n ∧ k ≤ m
 | [], i, k, n, m, h => h
 | p :: l, i, k, n, m, ⟨h1, h2, h3, h4, _, _⟩ => by omega
theorem PrOk.app {a b : List Tx} : ∀ {l l2 : List (Nat × Nat)} {i k n m n2 m2 : Nat}, PrOk a b i k l n m → PrOk a b n m l2 n2 m2 → PrOk a b i k (l ++ l2) n2 m2
 | [], l2, i, k, n, m, n2, m2, h, h2 => by
  cases l2 with
  | nil => exact ⟨Nat.le_trans h.1 h2.1, Nat.le_trans h.2 h2.2⟩
  | cons q l2 => obtain ⟨g1, g2, g3⟩ := h2; exact ⟨Nat.le_trans h.1 g1, Nat.le_trans h.2 g2, g3⟩
 | p :: l, l2, i, k, n, m, n2, m2, ⟨h1, h2, h3, h4, h5, h6⟩, hh => by
  have := hh.le
  exact ⟨h1, h2, by omega, by omega, h5, h6.app hh⟩
theorem PrOk.mono {a b : List Tx} {l : List (Nat × Nat)} {i k n m n2 m2 : Nat} (h : PrOk a b i k l n m) (h1 : n ≤ n2) (h2 : m ≤ m2) : PrOk a b i k l n2 m2 := by
 have := h.app (l2 := []) (n2 := n2) (m2 := m2) ⟨h1, h2⟩
 rwa [List.append_nil] at this
theorem kK : ∀ (a b : List Tx) (i : Nat), i < yA a b → ∃ x, a[i]? = some x ∧ b[i]? = some x
 | [], b, i, h => by simp [yA] at h
 | _ :: _, [], i, h => by simp [yA] at h
 | x :: xs, y :: ys, i, h => by
  rw [yA] at h
  split at h
  ·next e =>
   subst e
   cases i with
   | zero => exact ⟨x, rfl, rfl⟩
   | succ i => simpa using kK xs ys i (by omega)
  ·omega
theorem zCR {a b : List Tx} (f g : Nat) : ∀ (n s : Nat), (∀ i, s ≤ i → i < s + n → ∃ x, a[f + i]? = some x ∧ b[g + i]? = some x) → PrOk a b (f + s) (g + s) ((List.range' s n).map fun i => (f + i, g + i)) (f + s + n) (g + s + n)
 | 0, s, _ => ⟨Nat.le_refl _, Nat.le_refl _⟩
 | n + 1, s, h => by
  rw [List.range'_succ, List.map_cons]
  have ih := zCR (a := a) (b := b) f g n (s + 1) (fun i h1 h2 => h i (by omega) (by omega))
  refine ⟨Nat.le_refl _, Nat.le_refl _, by simp only; omega, by simp only; omega, h s (Nat.le_refl _) (by omega), ?_⟩
  have e1 : f + s + 1 + n = f + s + (n + 1) := by omega
  have e2 : g + s + 1 + n = g + s + (n + 1) := by omega
  have : PrOk a b (f + (s + 1)) (g + (s + 1)) ((List.range' (s + 1) n).map fun i => (f + i, g + i)) (f + (s + 1) + n) (g + (s + 1) + n) := ih
  simpa only [← Nat.add_assoc, e1, e2] using this
theorem zCX {a b : List Tx} : ∀ (xs ys : List Tx) (i k n m : Nat), xs = (a.take n).drop i → ys = (b.take m).drop k → i ≤ n → k ≤ m → n ≤ a.length → m ≤ b.length → PrOk a b i k (midL xs ys i k) n m
 | [], ys, i, k, n, m, _, _, hi, hk, _, _ => ⟨hi, hk⟩
 | x :: xs, ys, i, k, n, m, hx, hy, hi, hk, hn, hm => by
  have hxl := congrArg List.length hx
  rw [List.length_cons, List.length_drop, List.length_take] at hxl
  have hin : i < n := by omega
  have hx1 : xs = (a.take n).drop (i + 1) := by
   rw [← List.drop_drop, ← hx]; rfl
  have hax : a[i]? = some x := by
   have := congrArg (·[0]?) hx
   simp only [List.getElem?_cons_zero, List.getElem?_drop, Nat.add_zero, List.getElem?_take] at this
   rw [if_pos hin] at this; exact this.symm
  rw [midL]
  cases hf : yS x xs (lcs (x :: xs) ys) ys with
  | none =>
   have := zCX xs ys (i + 1) k n m hx1 hy (by omega) hk hn hm
   simp only
   cases hl : midL xs ys (i + 1) k with
   | nil => exact ⟨hi, hk⟩
   | cons p l =>
    rw [hl] at this
    obtain ⟨g1, g2, g3⟩ := this
    exact ⟨by omega, g2, g3⟩
  | some j =>
   obtain ⟨j1, j2, _⟩ := kP hf
   have hyl : ys.length = m - k := by rw [hy, List.length_drop, List.length_take]; omega
   have hbj : b[k + j]? = some x := by
    rw [hy, List.getElem?_drop, List.getElem?_take, if_pos (by omega)] at j2
    exact j2
   have hy1 : ys.drop (j + 1) = (b.take m).drop (k + j + 1) := by rw [hy, List.drop_drop]; congr 1
   exact ⟨Nat.le_refl _, Nat.le_add_right _ _, hin, by simp only; omega, ⟨x, hax, hbj⟩, zCX xs _ (i + 1) (k + j + 1) n m hx1 hy1 (by omega) (by omega) hn hm⟩
theorem zCG (a b : List Tx) : yA a b + wF a b ≤ a.length ∧ yA a b + wF a b ≤ b.length := by
 have h1 := zAe a b
 have h2 := zAe ((a.drop (yA a b)).reverse) ((b.drop (yA a b)).reverse)
 unfold wF
 simp only [List.length_reverse, List.length_drop] at h2
 omega
theorem wL (a b : List Tx) : PrOk a b 0 0 (yE a b) a.length b.length := by
 have h1 := zCG a b
 have r1 := zCR (a := a) (b := b) 0 0 (yA a b) 0 (fun i _ h => by simpa using kK a b i (by omega))
 have r3 := zCR (a := a) (b := b) (a.length - wF a b) (b.length - wF a b) (wF a b) 0 (fun i _ h => by
  obtain ⟨x, g1, g2⟩ := kK ((a.drop (yA a b)).reverse) ((b.drop (yA a b)).reverse) (wF a b - 1 - i) (by unfold wF at h ⊢; omega)
  refine ⟨x, ?_, ?_⟩
  ·rw [List.getElem?_reverse (by rw [List.length_drop]; omega), List.length_drop, List.getElem?_drop] at g1
   rw [← g1]; congr 1; omega
  ·rw [List.getElem?_reverse (by rw [List.length_drop]; omega), List.length_drop, List.getElem?_drop] at g2
   rw [← g2]; congr 1; omega)
 simp only [Nat.zero_add, Nat.add_zero] at r1 r3
 have e1 : (List.range' 0 (yA a b)).map (fun i => (i, i)) = (List.range (yA a b)).map (fun i => (i, i)) := by rw [List.range_eq_range']
 have e3 : (List.range' 0 (wF a b)).map (fun i => (a.length - wF a b + i, b.length - wF a b + i)) = (List.range (wF a b)).map (fun i => (a.length - wF a b + i, b.length - wF a b + i)) := by rw [List.range_eq_range']
 rw [e1] at r1
 rw [e3, show a.length - wF a b + wF a b = a.length by omega, show b.length - wF a b + wF a b = b.length by omega] at r3
 unfold yE
 refine (r1.app ?_).app r3
 split
 ·exact zCX _ _ _ _ _ _ rfl rfl (by omega) (by omega) (by omega) (by omega)
 ·exact ⟨by omega, by omega⟩
structure Cf where
 a : Nat
 z : Nat
 b : Tx
 i : Tx
 f : Tx
def Cf.cs (c : Cf) : List Value := [.int .i64 (c.a : Int), .int .i64 (c.z : Int), str c.b, str c.i, str c.f]
structure Wv where
 out : Tx
 l : List Cf
 p : Nat
 q : Nat
 r : Nat
def jn (l : List Tx) (a z : Nat) : Tx := ((l.take z).drop a).flatten
def sideT (old a c : Tx) : Tx := if c ≠ old ∧ a = old then c else a
def sideC (o : Nat) (old a c : Tx) : List Cf := if c ≠ old ∧ a ≠ old ∧ a ≠ c then [⟨o, o + a.length, old, a, c⟩] else []
def Wv.side (w : Wv) (x y z : List Tx) (n m k : Nat) : Wv :=
 ⟨w.out ++ sideT (jn x w.p n) (jn y w.q m) (jn z w.r k), w.l ++ sideC w.out.length (jn x w.p n) (jn y w.q m) (jn z w.r k), n + 1, m + 1, k + 1⟩
def Wv.add (w : Wv) (t : Tx) : Wv := ⟨w.out ++ t, w.l, w.p, w.q, w.r⟩
def wvGo (x y z : List Tx) (M N : List (Nat × Nat)) : List Tx → Nat → Wv → Wv
 | [], _, w => w.side x y z x.length y.length z.length
 | t :: ts, n, w => match M.lookup n, N.lookup n with
  | some m, some k => wvGo x y z M N ts (n + 1) ((w.side x y z n m k).add t)
  | _, _ => wvGo x y z M N ts (n + 1) w
def weaveL (s t u : Tx) : Wv := wvGo (toks s) (toks t) (toks u) (yE (toks s) (toks t)) (yE (toks s) (toks u)) (toks s) 0 ⟨[], [], 0, 0, 0⟩
end Go.Eng
namespace Go.Eng
open Go
theorem PrOk.low {a b : List Tx} {l : List (Nat × Nat)} {i k i2 k2 n m : Nat} (h : PrOk a b i k l n m) (h1 : i2 ≤ i) (h2 : k2 ≤ k) : PrOk a b i2 k2 l n m := by
 cases l with
 | nil => exact ⟨Nat.le_trans h1 h.1, Nat.le_trans h2 h.2⟩
 | cons p l => obtain ⟨g1, g2, g3⟩ := h; exact ⟨Nat.le_trans h1 g1, Nat.le_trans h2 g2, g3⟩
theorem PrOk.none {a b : List Tx} : ∀ {l : List (Nat × Nat)} {i k n m j : Nat}, PrOk a b i k l n m → j < i → l.lookup j = none
 | [], i, k, n, m, j, _, _ => rfl
 | p :: l, i, k, n, m, j, ⟨h1, h2, h3, h4, h5, h6⟩, hj => by
  obtain ⟨p1, p2⟩ := p
  simp only at *
  have e : (j == p1) = false := by simp; omega
  rw [List.lookup_cons, e]
  exact h6.none (by omega)
theorem PrOk.next {a b : List Tx} {l : List (Nat × Nat)} {i k n m : Nat} (h : PrOk a b i k l n m) (hi : i < n) :
  (l.lookup i = Option.none ∧ PrOk a b (i + 1) k l n m) ∨ (∃ p l2, l.lookup i = some p ∧ k ≤ p ∧ p < m ∧ (∃ x, a[i]? = some x ∧ b[p]? = some x) ∧ PrOk a b (i + 1) (p + 1) l2 n m ∧ ∀ j, i < j → l.lookup j = l2.lookup j) := by
 cases l with
 | nil => exact .inl ⟨rfl, hi, h.2⟩
 | cons p l =>
  obtain ⟨h1, h2, h3, h4, h5, h6⟩ := h
  obtain ⟨p1, p2⟩ := p
  simp only at *
  by_cases e : p1 = i
  ·subst e
   refine .inr ⟨p2, l, by rw [List.lookup_cons]; simp, h2, h4, h5, h6, fun j hj => ?_⟩
   rw [List.lookup_cons, show (j == p1) = false by simp; omega]
  ·refine .inl ⟨?_, by omega, h2, h3, h4, h5, h6⟩
   rw [List.lookup_cons, show (i == p1) = false by simp; omega]
   exact h6.none (by omega)
theorem zKC (l : List Tx) (a : Nat) : jn l a a = [] := by
 unfold jn
 rw [List.drop_of_length_le (by rw [List.length_take]; omega)]; rfl
end Go.Eng
namespace Go.Eng
open Go Go.RowKit
theorem xM {A : List Tx} {i : Nat} {x : Tx} (h : A[i]? = some x) : (strs A)[i]? = some [str x] := by unfold strs; rw [List.getElem?_map, h]; rfl
theorem jP {A B : List Tx} {h : Nat} {x y : Tx} (hx : A[h]? = some x) (hy : B[h]? = some y) : yA (A.drop h) (B.drop h) = if x = y then yA (A.drop (h + 1)) (B.drop (h + 1)) + 1 else 0 := by
 rw [xN hx, xN hy, yA]
theorem zAg {A B : List Tx} {h : Nat} (g : A.length ≤ h ∨ B.length ≤ h) : yA (A.drop h) (B.drop h) = 0 := by
 rcases g with g | g
 ·rw [List.drop_of_length_le g]; rfl
 ·rw [List.drop_of_length_le g]; cases A.drop h <;> rfl
theorem zCQ {A : List Tx} {h t : Nat} (hh : t < A.length - h) : ((A.drop h).reverse)[t]? = A[A.length - 1 - t]? := by
 rw [List.getElem?_reverse (by rw [List.length_drop]; omega), List.length_drop, List.getElem?_drop]
 congr 1; omega
theorem zA5 (A : List Tx) (p q : Nat) : ((strs A).take q).drop p = strs ((A.take q).drop p) := by
 unfold strs
 rw [List.map_drop, List.map_take]
end Go.Eng
namespace ZP
open Go Go.Eng
attribute [local irreducible] WL WC WQ QFun zJ Does Q1 zD zB Go.Addr.add
attribute [local irreducible] midL strs yA mid
theorem zGO {A B : List Tx} {aa ab : Option Addr} {ca cb : Nat} {w0 : World} {m : Mem} {H : SHeap} {Q : Exit → Act → World → Prop} (hA : A.length ≤ 4194304) (hB : B.length ≤ 4194304) (ha : RowR w0 m H 1 aa (strs A)) (hb : RowR w0 m H 1 ab (strs B))
  (hK : WQ 115 w0 Q (.exit 0) [(5, .int .i64 (yA A B : Int)), (0, .slice aa A.length ca), (1, .slice ab B.length cb)] [] m H) :
  WC Tryz.prog none 115 w0 ((yF (Tryz.f67.body.getD .skip)).getD 0 .skip) Q [(5, .int .i64 0), (0, .slice aa A.length ca), (1, .slice ab B.length cb)] [] m H := by
 have hal : (strs A).length = A.length := by simp [strs]
 have hbl : (strs B).length = B.length := by simp [strs]
 refine lpz (fun j r ds m' H' => ∃ h, j = A.length - h ∧ r = [(5, .int .i64 (h : Int)), (0, .slice aa A.length ca), (1, .slice ab B.length cb)] ∧ ds = [] ∧ m = m' ∧ H' = H ∧ (h ≤ A.length ∧ h ≤ B.length) ∧ (yA A B = h + yA (A.drop h) (B.drop h))) (A.length - (0)) ⟨0, rfl, rfl, rfl, rfl, rfl, ⟨by omega, by omega⟩, by simp⟩ ?_
 rintro j r ds m' H' ⟨h, rfl, rfl, rfl, rfl, rfl, hh, hN⟩
 by_cases hlt : h < A.length ∧ h < B.length
 ·obtain ⟨hlA, hlB⟩ := hlt
  obtain ⟨x, hx⟩ : ∃ x, A[h]? = some x := ⟨_, List.getElem?_eq_getElem hlA⟩
  obtain ⟨y, hy⟩ : ∃ y, B[h]? = some y := ⟨_, List.getElem?_eq_getElem hlB⟩
  have hgx := xM hx
  have hgy := xM hy
  have hst := jP hx hy
  generalize hSA : strs A = SA at *
  generalize hSB : strs B = SB at *
  refine WC.rSome ha (by omega) ?_
  rintro a0 rfl
  refine WC.rSome hb (by omega) ?_
  rintro b0 rfl
  by_cases hxy : x = y
  ·rw [if_pos hxy] at hst
   try (refine st ?_; intros)
   refine nxz (A.length - (h + 1)) ⟨h + 1, rfl, rfl, rfl, rfl, rfl, ?_, ?_⟩
   ·exact ⟨by omega, by omega⟩
   ·omega
  ·rw [if_neg hxy] at hst
   rw [show yA A B = h by omega] at hK
   try (refine st ?_; intros)
   exact WQ.weak zsb zpk hK
 ·have hst := zAg (A := A) (B := B) (h := h) (by omega)
  have hl2 : ¬ h < A.length ∨ h < A.length ∧ ¬ h < B.length := by omega
  rw [show yA A B = h by omega] at hK
  rcases hl2 with hl2 | ⟨hl2, hl3⟩
  ·try (refine st ?_; intros)
   exact WQ.weak zsb zpk hK
  ·try (refine st ?_; intros)
   exact WQ.weak zsb zpk hK
theorem zGh {A B : List Tx} {aa ab : Option Addr} {ca cb h : Nat} {w0 : World} {m : Mem} {H : SHeap} {Q : Exit → Act → World → Prop} (hA : A.length ≤ 4194304) (hB : B.length ≤ 4194304) (hh : h ≤ A.length ∧ h ≤ B.length) (ha : RowR w0 m H 1 aa (strs A)) (hb : RowR w0 m H 1 ab (strs B))
  (hK : WQ 115 w0 Q (.exit 2) [(6, .int .i64 (yA ((A.drop h).reverse) ((B.drop h).reverse) : Int)), (5, .int .i64 (h : Int)), (0, .slice aa A.length ca), (1, .slice ab B.length cb)] [] m H) :
  WC Tryz.prog none 115 w0 ((yF (Tryz.f67.body.getD .skip)).getD 1 .skip) Q [(6, .int .i64 0), (5, .int .i64 (h : Int)), (0, .slice aa A.length ca), (1, .slice ab B.length cb)] [] m H := by
 have hal : (strs A).length = A.length := by simp [strs]
 have hbl : (strs B).length = B.length := by simp [strs]
 obtain ⟨RA, hRA⟩ : ∃ RA, RA = (A.drop h).reverse := ⟨_, rfl⟩
 obtain ⟨RB, hRB⟩ : ∃ RB, RB = (B.drop h).reverse := ⟨_, rfl⟩
 have hRAl : RA.length = A.length - h := by rw [hRA]; simp
 have hRBl : RB.length = B.length - h := by rw [hRB]; simp
 have hga : ∀ t x, t < A.length - h → RA[t]? = some x → (strs A)[((A.length : Int) - 1 - (t : Int)).toNat]? = some [str x] := fun t x ht hx => by
  rw [hRA, zCQ ht] at hx
  rw [show ((A.length : Int) - 1 - (t : Int)).toNat = A.length - 1 - t by omega]
  exact xM hx
 have hgb : ∀ t x, t < B.length - h → RB[t]? = some x → (strs B)[((B.length : Int) - 1 - (t : Int)).toNat]? = some [str x] := fun t x ht hx => by
  rw [hRB, zCQ ht] at hx
  rw [show ((B.length : Int) - 1 - (t : Int)).toNat = B.length - 1 - t by omega]
  exact xM hx
 rw [← hRA, ← hRB] at hK
 clear hRA hRB
 refine lpz (fun j r ds m' H' => ∃ t, j = A.length - t ∧ r = [(6, .int .i64 (t : Int)), (5, .int .i64 (h : Int)), (0, .slice aa A.length ca), (1, .slice ab B.length cb)] ∧ ds = [] ∧ m = m' ∧ H' = H ∧ (t ≤ A.length - h ∧ t ≤ B.length - h) ∧ (yA RA RB = t + yA (RA.drop t) (RB.drop t))) (A.length - (0)) ⟨0, rfl, rfl, rfl, rfl, rfl, ⟨by omega, by omega⟩, by simp⟩ ?_
 rintro j r ds m' H' ⟨t, rfl, rfl, rfl, rfl, rfl, ht, hN⟩
 by_cases hlt : t < A.length - h ∧ t < B.length - h
 ·obtain ⟨hlA, hlB⟩ := hlt
  obtain ⟨x, hx⟩ : ∃ x, RA[t]? = some x := ⟨_, List.getElem?_eq_getElem (by omega)⟩
  obtain ⟨y, hy⟩ : ∃ y, RB[t]? = some y := ⟨_, List.getElem?_eq_getElem (by omega)⟩
  have hgx := hga t x hlA hx
  have hgy := hgb t y hlB hy
  have hst := jP hx hy
  clear hga hgb
  generalize hSA : strs A = SA at *
  generalize hSB : strs B = SB at *
  refine WC.rSome ha (by omega) ?_
  rintro a0 rfl
  refine WC.rSome hb (by omega) ?_
  rintro b0 rfl
  by_cases hxy : x = y
  ·rw [if_pos hxy] at hst
   try (refine st ?_; intros)
   refine nxz (A.length - (t + 1)) ⟨t + 1, rfl, rfl, rfl, rfl, rfl, ?_, ?_⟩
   ·exact ⟨by omega, by omega⟩
   ·omega
  ·rw [if_neg hxy] at hst
   rw [show yA RA RB = t by omega] at hK
   try (refine st ?_; intros)
   exact WQ.weak zsb zpk hK
 ·have hst := zAg (A := RA) (B := RB) (h := t) (by omega)
  have hl2 : ¬ t < A.length - h ∨ t < A.length - h ∧ ¬ t < B.length - h := by omega
  rw [show yA RA RB = t by omega] at hK
  rcases hl2 with hl2 | ⟨hl2, hl3⟩
  ·try (refine st ?_; intros)
   exact WQ.weak zsb zpk hK
  ·try (refine st ?_; intros)
   exact WQ.weak zsb zpk hK
end ZP
namespace Go.Eng
open Go Go.RowKit
def yI (a b n : Nat) : List (Nat × Nat) := (List.range n).map fun i => (a + i, b + i)
theorem yX (a b n : Nat) : (yI a b n).length = n := by simp [yI]
theorem jY (a b n : Nat) : yI a b (n + 1) = yI a b n ++ [(a + n, b + n)] := by
 unfold yI; rw [List.range_succ, List.map_append]; rfl
theorem zIE (L : List (Nat × Nat)) : ∀ q ∈ L.map prE, q.length = 2 := by
 intro q hq
 obtain ⟨p, _, rfl⟩ := List.mem_map.1 hq
 rfl
theorem zJU (L : List (Nat × Nat)) : ∀ q ∈ L.map prE, q.all okCell = true := by
 intro q hq
 obtain ⟨p, _, rfl⟩ := List.mem_map.1 hq
 rfl
theorem zKe (A B : List Tx) (k : Nat) : (mid A B k).length ≤ 1024 := by
 unfold mid
 split
 ·rename_i h
  rw [vP]
  have := (uZ A B).1
  omega
 ·simp
theorem zFZ (A B : List Tx) : yE A B = yI 0 0 (yA A B) ++ mid (midA A B) (midB A B) (yA A B) ++ yI (A.length - wF A B) (B.length - wF A B) (wF A B) := by
 unfold yE mid yI
 simp
end Go.Eng
namespace ZP
open Go Go.Eng
attribute [local irreducible] WL WC WQ QFun zJ Does Q1 zD zB Go.Addr.add
attribute [local irreducible] midL strs yA mid yI
theorem kV {A B : List Tx} {aa ab : Option Addr} {ca cb : Nat} {w0 : World} {m : Mem} {H : SHeap} (hA : A.length ≤ 4194304) (hB : B.length ≤ 4194304) (hcA : A.length ≤ ca) (hcB : B.length ≤ cb) (ha : RowR w0 m H 1 aa (strs A)) (hb : RowR w0 m H 1 ab (strs B)) :
  Does Tryz.prog 67 #[.slice aa A.length ca, .slice ab B.length cb] w0 m H (fun v m' H' => m' = m ∧ ∃ a cp, v = .slice a (yE A B).length cp ∧ H' = .row a cp 134 2 ((yE A B).map prE) :: H) := by
 refine Does.of_body func67 rfl ntmps67 rfl ?_
 have hal : (strs A).length = A.length := by simp [strs]
 have hbl : (strs B).length = B.length := by simp [strs]
 rw [zFZ]
 have hht := zCG A B
 have hhl := zAe A B
 have hTd : wF A B = yA ((A.drop (yA A B)).reverse) ((B.drop (yA A B)).reverse) := rfl
 have hmA : midA A B = (A.take (A.length - wF A B)).drop (yA A B) := rfl
 have hmB : midB A B = (B.take (B.length - wF A B)).drop (yA A B) := rfl
 try (refine st ?_; intros)
 refine WC.weak zsb zpk (zGO hA hB ha hb ?_)
 generalize yA A B = h at *
 try (refine st ?_; intros)
 refine WC.weak zsb zpk (zGh hA hB hhl ha hb ?_)
 rw [← hTd]
 clear hTd
 generalize wF A B = t at *
 have hmAl : (midA A B).length = A.length - t - h := by rw [hmA, List.length_drop, List.length_take]; omega
 have hmBl : (midB A B).length = B.length - t - h := by rw [hmB, List.length_drop, List.length_take]; omega
 have hsa := ha.sub (lo := h) (hi := A.length - t) (cap := ca) (by omega) (by omega)
 have hsb := hb.sub (lo := h) (hi := B.length - t) (cap := cb) (by omega) (by omega)
 rw [zA5, ← hmA] at hsa
 rw [zA5, ← hmB] at hsb
 generalize midA A B = MA at *
 generalize midB A B = MB at *
 clear hmA hmB ha hb
 try (refine st ?_; intros)
 refine WC.newRow (T := 134) (sz := 2) ?_
 rw [show ([] : List (List Value)) = (yI 0 0 0).map prE from by unfold yI; rfl]
 refine lpz (fun j r ds m' H' => ∃ (i : Nat) (a : Option Addr) (cp : Nat), j = h - i ∧ r = [(69, .int .i64 (i : Int)), (68, .int .i64 (h : Int)), (7, .slice a i cp), (6, .int .i64 (t : Int)), (5, .int .i64 (h : Int)), (0, .slice aa A.length ca), (1, .slice ab B.length cb)] ∧ ds = [] ∧ m = m' ∧ H' = .row a cp 134 2 ((yI 0 0 i).map prE) :: H ∧ (i ≤ h)) (h - (0)) ⟨0, none, 0, rfl, rfl, rfl, rfl, rfl, by omega⟩ ?_
 rintro j r ds m' H' ⟨i, a, cp, rfl, rfl, rfl, rfl, rfl, hi⟩
 by_cases hlt : i < h
 ·have hdl : ((yI 0 0 i).map prE).length = i := by rw [List.length_map, yX]
  have hds : (yI 0 0 (i + 1)).map prE = (yI 0 0 i).map prE ++ [[.int .i64 (i : Int), .int .i64 (i : Int)]] := by rw [jY, List.map_append]; simp [prE]
  generalize (yI 0 0 i).map prE = LE at *
  refine st ?_; intros; rename_i b9 a2 cp2
  rw [hdl, ← hds]
  refine nxz (h - (i + 1)) ⟨i + 1, a2, cp2, rfl, rfl, rfl, rfl, rfl, ?_⟩
  ·omega
 ·obtain rfl : i = h := by omega
  have hdl : ((yI 0 0 i).map prE).length = i := by rw [List.length_map, yX]
  have hdo := zJU (yI 0 0 i)
  have hd2 := zIE (yI 0 0 i)
  have hml := zKe MA MB i
  have hme : ((mid MA MB i).map prE).length = (mid MA MB i).length := List.length_map _
  generalize hLE : (yI 0 0 i).map prE = LE at *
  try (refine st ?_; intros)
  refine wdw 18 ([]) ?_
  refine cm0 ?_
  refine wa1 16 ?_
  have e1 : subSl aa ca i (A.length - t) 1 = .slice (if ca = i then aa else aa.map (·.add (i * 1))) MA.length (ca - i) := by unfold subSl; rw [hmAl]
  have e2 : subSl ab cb i (B.length - t) 1 = .slice (if cb = i then ab else ab.map (·.add (i * 1))) MB.length (cb - i) := by unfold subSl; rw [hmBl]
  rw [e1, e2]
  refine zA func101 ?_ (hs := zF7 (k0 := i) (by omega) (by omega) (by omega) hsa.more hsb.more)
  rintro v m H9 ⟨rfl, a2, cp2, rfl, rfl⟩
  try (refine st ?_; intros)
  refine waz [] zml ?_
  refine cm0 ?_
  refine wa1 17 ?_
  refine WL.appendR (es := LE) (es' := (mid MA MB i).map prE) (by' := 16) rfl rfl rfl rfl (by (repeat (first | exact Out.here | apply Out.there))) (RowR.row (T := 134) (cap := cp2) zhs) (zJU _) (zIE _) rfl rfl rfl rfl hdl.symm hme.symm (by rw [hdl, hme]; omega) (by omega) rfl ?_
  intro a3 cp3
  try (refine st ?_; intros)
  refine waz [] zml ?_
  refine cm0 ?_
  refine wdz ?_
  rw [hdl, hme]
  obtain ⟨P, hP⟩ : ∃ P, P = yI 0 0 i ++ mid MA MB i := ⟨_, rfl⟩
  have hPl : P.length = i + (mid MA MB i).length := by rw [hP, List.length_append, yX]
  rw [show LE ++ (mid MA MB i).map prE = (P ++ yI (A.length - t) (B.length - t) 0).map prE by rw [← hLE, hP, ← List.map_append, show yI (A.length - t) (B.length - t) 0 = [] from by unfold yI; rfl, List.append_nil], ← hPl, ← hP]
  clear hdo hd2 hLE hsa hsb e1 e2
  try (refine st ?_; intros)
  refine lpz (fun j r ds m' H' => ∃ (c : Nat) (a : Option Addr) (cp : Nat), j = t - c ∧ r = [(9, .int .i64 ((t : Int) - (c : Int))), (7, .slice a (P.length + c) cp), (0, .slice aa A.length ca), (1, .slice ab B.length cb)] ∧ ds = [] ∧ m = m' ∧ H' = .row a cp 134 2 ((P ++ yI (A.length - t) (B.length - t) c).map prE) :: .row a2 cp2 134 2 ((mid MA MB i).map prE) :: H ∧ (c ≤ t)) (t - (0)) ⟨0, a3, cp3, rfl, rfl, rfl, rfl, rfl, by omega⟩ ?_
  rintro j r ds m' H' ⟨c, a, cp, rfl, rfl, rfl, rfl, rfl, hc⟩
  by_cases hlt : c < t
  ·have hdl2 : ((P ++ yI (A.length - t) (B.length - t) c).map prE).length = P.length + c := by rw [List.length_map, List.length_append, yX]
   have hds : (P ++ yI (A.length - t) (B.length - t) (c + 1)).map prE = (P ++ yI (A.length - t) (B.length - t) c).map prE ++ [[.int .i64 ((A.length : Int) - ((t : Int) - (c : Int))), .int .i64 ((B.length : Int) - ((t : Int) - (c : Int)))]] := by
    rw [jY, ← List.append_assoc, List.map_append, List.map_append]
    simp only [List.map_cons, List.map_nil, prE]
    rw [show ((A.length - t + c : Nat) : Int) = (A.length : Int) - ((t : Int) - (c : Int)) by omega, show ((B.length - t + c : Nat) : Int) = (B.length : Int) - ((t : Int) - (c : Int)) by omega]
   generalize (P ++ yI (A.length - t) (B.length - t) c).map prE = LE2 at *
   refine st ?_; intros; rename_i b9 a4 cp4
   rw [hdl2, ← hds, show (t : Int) - (c : Int) - 1 = (t : Int) - ((c + 1 : Nat) : Int) by omega]
   refine nxz (t - (c + 1)) ⟨c + 1, a4, cp4, rfl, rfl, rfl, rfl, rfl, ?_⟩
   ·omega
  ·obtain rfl : c = t := by omega
   try (refine st ?_; intros)
   exact q_fz ⟨rfl, a, cp, by rw [List.length_append, yX], rfl⟩
end ZP
namespace ZP
open Go Go.Shelf Go.Proofs
def kG : Go.Shelf.Ren := ⟨fun | 156 => 69 | 165 => 102 | 166 => 48 | 169 => 51 | 240 => 79 | 241 => 138 | 276 => 114 | 277 => 190 | n => n, fun | 31 => 83 | 9 => 9 | 3 => 3 | 4 => 4 | 0 => 0 | 20 => 20 | 72 => 111 | 76 => 114 | 70 => 108 | 37 => 109 | 75 => 113 | 127 => 157 | 164 => 197 | 5 => 5 | 80 => 52 | n => n, fun | n => n⟩
theorem zCo : Go.Proofs.Lays.n156 Tryz.prog kG := {
 mixed := by kernel_rfl
 f156 := func69.trans (congrArg some (by kernel_rfl))
 f165 := func102.trans (congrArg some (by kernel_rfl))
 f166 := func48.trans (congrArg some (by kernel_rfl))
 f169 := func51.trans (congrArg some (by kernel_rfl))
 f240 := func79.trans (congrArg some (by kernel_rfl))
 f241 := func138.trans (congrArg some (by kernel_rfl))
 f276 := func114.trans (congrArg some (by kernel_rfl))
 f277 := func190.trans (congrArg some (by kernel_rfl))
 t0 := underlying0
 a0 := Tryz.isAgg0
 z0 := Tryz.sizeOf0
 v0 := Tryz.zeroValue0
 t3 := underlying3
 a3 := Tryz.isAgg3
 z3 := Tryz.sizeOf3
 v3 := Tryz.zeroValue3
 t4 := underlying4
 a4 := Tryz.isAgg4
 z4 := Tryz.sizeOf4
 v4 := Tryz.zeroValue4
 t9 := underlying9
 a9 := Tryz.isAgg9
 z9 := Tryz.sizeOf9
 v9 := Tryz.zeroValue9
 t20 := underlying20
 a20 := Tryz.isAgg20
 z20 := Tryz.sizeOf20
 v20 := Tryz.zeroValue20
 t31 := underlying83
 a31 := Tryz.isAgg83
 z31 := Tryz.sizeOf83
 v31 := Tryz.zeroValue83
 t37 := underlying109
 a37 := Tryz.isAgg109
 z37 := Tryz.sizeOf109
 v37 := Tryz.zeroValue109
 t70 := underlying108
 a70 := Tryz.isAgg108
 z70 := Tryz.sizeOf108
 v70 := Tryz.zeroValue108
 t72 := underlying111
 a72 := Tryz.isAgg111
 z72 := Tryz.sizeOf111
 v72 := Tryz.zeroValue111
 t75 := underlying113
 a75 := Tryz.isAgg113
 z75 := Tryz.sizeOf113
 v75 := Tryz.zeroValue113
 t76 := underlying114
 a76 := Tryz.isAgg114
 z76 := Tryz.sizeOf114
 v76 := Tryz.zeroValue114
 t127 := underlying157
 a127 := Tryz.isAgg157
 z127 := Tryz.sizeOf157
 v127 := Tryz.zeroValue157
 t164 := underlying197
 a164 := Tryz.isAgg197
 z164 := Tryz.sizeOf197
 v164 := Tryz.zeroValue197 }
theorem vY : Builder.Extra Tryz.prog kG := {
 sizeBuilder := by kernel_rfl
 liesBuilder := by kernel_rfl
 t5 := underlying5
 a5 := Tryz.isAgg5
 z5 := Tryz.sizeOf5
 v5 := Tryz.zeroValue5
 infoByte := by kernel_rfl
 cellsByte := by kernel_rfl
 sizeByte := by kernel_rfl
 neB5 := by decide }
open Go.RowKit in
theorem vX (a : Option Addr) (c : Nat) (sep : ByteArray) (w : World) :
  Calls Tryz.prog 69 #[.slice a 0 c, .string sep] w fun e w' => e = .returned (.string ⟨#[]⟩) ∧ w' = w := Any.strings_Join_none zCo vY a c sep w
open Go.RowKit in
theorem jI (bk o c : Nat) (xs : List ByteArray) (sep : ByteArray) (w : World) (hcells : ∀ (j : Nat) x, xs[j]? = some x → w.cell? ⟨bk, o + j, none⟩ = some (.string x)) (hbk : bk < w.heap.size) (hN : xs.length ≤ 140737488355328) (hcap : xs.length ≤ c) (hlen : (Lib.join (xs.map (·.data.toList)) sep.data.toList).length ≤ 140737488355328) :
  Calls Tryz.prog 69 #[.slice (some ⟨bk, o, none⟩) xs.length c, .string sep] w fun e w' => e = .returned (.string ⟨(Lib.join (xs.map (·.data.toList)) sep.data.toList).toArray⟩) ∧ Below w.heap.size w w' := Any.strings_Join zCo vY bk o c xs sep w hcells hbk hN hcap hlen
end ZP
namespace Go.Eng
open Go Go.RowKit
theorem zH4 : ∀ xs : List Tx, Lib.join xs [] = xs.flatten
 | [] => rfl
 | x :: r => by
  rw [Lib.join_cons]
  unfold Lib.joinTail
  simp
theorem zBf (xs : List Tx) : (strs xs).flatten = xs.map str := by
 unfold strs
 induction xs with
 | nil => rfl
 | cons x xs ih => simp [ih]
theorem zAQ (l : List Tx) (a z : Nat) : (jn l a z).length ≤ l.flatten.length := by
 unfold jn
 have h : l = l.take a ++ ((l.drop a).take (z - a) ++ (l.drop a).drop (z - a)) := by rw [List.take_append_drop, List.take_append_drop]
 have h2 : (l.take z).drop a = (l.drop a).take (z - a) := by rw [List.drop_take]
 rw [h2]
 conv => rhs; rw [h]
 simp only [List.flatten_append, List.length_append]
 omega
end Go.Eng
namespace ZP
open Go Go.Eng
attribute [local irreducible] WL WC WQ QFun zJ Does Q1 zD zB Go.Addr.add
theorem yC {l : List Tx} {a : Option Addr} {cap lo hi : Nat} {w0 : World} {m : Mem} {H : SHeap} (hm : Item.row a cap 9 1 (strs l) ∈ H) (hb : lo ≤ hi ∧ hi ≤ l.length) (hl : l.length ≤ 4194304) (hf : l.flatten.length ≤ 4194304) :
  Does Tryz.prog 69 #[subSl a cap lo hi 1, str []] w0 m H (Gives (str (jn l lo hi)) m H) := by
 unfold subSl
 by_cases hlh : lo = hi
 ·subst hlh
  rw [Nat.sub_self, zKC]
  exact Does.ofSame fun w _ => vX _ _ ⟨([] : List UInt8).toArray⟩ w
 ·refine Does.ofBelow fun w hw => ?_
  have hsl : (strs l).length = l.length := by simp [strs]
  have hrr := RowR.row (w0 := w0) (m := m) hm
  obtain ⟨a0, rfl⟩ := hrr.some hw (by rw [hsl]; omega)
  have hr := (hrr w hw).2
  obtain ⟨arr, fz, h1, h2, h3, h4, _⟩ := hw.own _ hm
  obtain ⟨xs, hxs⟩ : ∃ xs, xs = (l.take hi).drop lo := ⟨_, rfl⟩
  have hxl : xs.length = hi - lo := by rw [hxs, List.length_drop, List.length_take]; omega
  have hx : (xs.map fun x => (⟨x.toArray⟩ : ByteArray)).map (·.data.toList) = xs := by rw [List.map_map]; simp [Function.comp_def]
  have hcl : l.length ≤ cap := by rw [← hsl]; exact h4
  have hjn : Lib.join xs [] = jn l lo hi := by rw [zH4, hxs]; rfl
  have hxb := zAQ l lo hi
  have key := jI a0.block (a0.off + lo) (cap - lo) (xs.map fun x => ⟨x.toArray⟩) ⟨([] : List UInt8).toArray⟩ w (by
   intro k x hj
   rw [List.getElem?_map] at hj
   cases hq : xs[k]? with
   | none => rw [hq] at hj; cases hj
   | some y =>
    rw [hq] at hj
    simp only [Option.map_some, Option.some.injEq] at hj
    subst hj
    have hql : l[lo + k]? = some y := by
     have hk := (List.getElem?_eq_some_iff.1 hq).1
     rw [hxs, List.getElem?_drop, List.getElem?_take, if_pos (by omega)] at hq
     exact hq
    have e1 : (strs l).flatten[lo + k]? = some (str y) := by
     rw [zBf, List.getElem?_map, hql]; rfl
    have := hr (lo + k) _ e1
    rw [w9 (by rw [h1])] at this
    rw [show a0.off + lo + k = a0.off + (lo + k) by omega]
    exact this) (Array.getElem?_eq_some_iff.1 h2).1 (by rw [List.length_map]; omega) (by rw [List.length_map]; omega) (by rw [hx]; show (Lib.join xs []).length ≤ _; rw [hjn]; omega)
  rw [hx, List.length_map, hxl] at key
  have ea : (if cap = lo then some a0 else (some a0).map (·.add (lo * 1))) = some ⟨a0.block, a0.off + lo, none⟩ := by
   rw [if_neg (by omega), Option.map_some, w9 (by rw [h1]), Nat.mul_one]
  rw [ea]
  have e2 : (⟨([] : List UInt8).toArray⟩ : ByteArray).data.toList = [] := rfl
  rw [e2, hjn] at key
  exact key
end ZP
namespace Go.Eng
open Go Go.RowKit
def Kept (a : Option Addr) (cap : Nat) (e : TypeId) (s : List UInt8) (i : Item) : Prop :=
 (s = [] ∧ i = .row a cap e 1 (bCs s)) ∨
 (s ≠ [] ∧ ∃ (a0 : Addr) (arr : Array Value) (fz : Nat × Nat), a = some a0 ∧ a0 = ⟨a0.block, 0, none⟩ ∧ s.length ≤ arr.size ∧ (∀ (j : Nat) (x : UInt8), s[j]? = some x → arr[j]? = some (.int .u8 x.toNat)) ∧ i = .blk a0.block (.cells arr e fz))
section
variable {t : TypeId}
theorem zEj {w : World} {a0 : Addr} {k : Nat} {arr : Array Value} {T : TypeId} {fz : Nat × Nat} (h : w.heap[a0.block]? = some (.cells arr T fz)) : ∃ fz', (w.freeze a0 k).heap[a0.block]? = some (.cells arr T fz') := by
 unfold World.freeze
 split
 ·exact ⟨fz, h⟩
 ·rw [Array.getElem?_modify, if_pos rfl, h]
  exact ⟨_, rfl⟩
theorem WL.strBlk {pt it e : TypeId} {x y : Operand} {a0 : Addr} {s : List UInt8} {arr : Array Value} {fz : Nat × Nat} {H1 : SHeap} (hx : r.ev x = some (.pointer (some a0))) (hy : r.ev y = some (.int .i64 (s.length : Int))) (ho : Out (.blk a0.block (.cells arr e fz)) H H1)
  (hp : P.underlying pt = some (.pointer e)) (hc : Nat.beq (P.cellsOf e) 1 = true) (hl : s.length ≤ 9223372036854775807) (hd : Nat.blt d n = true) (h0 : s ≠ []) (h1 : a0 = ⟨a0.block, 0, none⟩) (hsz : s.length ≤ arr.size) (harr : ∀ (j : Nat) (x : UInt8), s[j]? = some x → arr[j]? = some (.int .u8 x.toNat))
  (h : ∀ fz', WL P ro n w0 ops Q l ((d, str s) :: r) ds m (.blk a0.block (.cells arr e fz') :: H1)) : WL P ro n w0 ops Q (⟨some d, .call ⟨.builtin .unsafeString, #[x, y], #[pt, it]⟩, ty, pos, after, none⟩ :: l) r ds m H := by
 refine .gen (fun v' m' H' => v' = str s ∧ m' = m ∧ ∃ fz', H' = .blk a0.block (.cells arr e fz') :: H1) hd (fun _ h => by cases h) (fun tmps w hok hs => ?_) (by rintro _ _ _ ⟨rfl, rfl, fz', rfl⟩; exact h fz')
 have hs1 := hs.perm ho.perm
 have h2 : w.heap[a0.block]? = some (.cells arr e fz) := hs1.own _ List.mem_cons_self
 have hus := Lib.run_unsafeString_row (P := P) w pt it ty e hp (Nat.eq_of_beq_eq_true hc) a0.block arr.size (by simp [World.shape?, h2]) s h0 (by omega) hl (by
  intro j x hx
  have := harr j x (by simpa using hx)
  rw [w9 rfl]
  simp [World.cell?, h2, this])
 rw [← h1] at hus
 have hblk := (Array.getElem?_eq_some_iff.1 h2).1
 have hz : (w.freeze a0 s.length).heap.size = w.heap.size := by unfold World.freeze; split <;> simp
 have hoth : ∀ b, b ≠ a0.block → (w.freeze a0 s.length).heap[b]? = w.heap[b]? := by
  intro b hb
  unfold World.freeze
  split
  ·rfl
  ·simp only [Array.getElem?_modify]
   rw [if_neg (fun h => hb h.symm)]
 obtain ⟨fz', ho'⟩ := zEj (k := s.length) h2
 have hos : (w.freeze a0 s.length).os = w.os := by unfold World.freeze; split <;> rfl
 have hot : (w.freeze a0 s.length).tape = w.tape := by unfold World.freeze; split <;> rfl
 have hoo : (w.freeze a0 s.length).output = w.output := by unfold World.freeze; split <;> rfl
 have hs2 := hs1.turn (j := .blk a0.block (.cells arr e fz')) hos hot hoo (Nat.le_of_eq hz.symm) (fun b _ hb => hoth b (by simpa [Item.foot] using hb)) ho' (fun b hb => .inl (by simpa [Item.foot] using hb)) (by simp [Item.foot])
 refine ⟨str s, m, _, w.freeze a0 s.length, ?_, hs2, rfl, rfl, fz', rfl⟩
 simp only [execOp, resolve, Go.invoke, Go.builtin, Sem.run_bind, Sem.run_pure, Result.andThen_ok, List.map_toArray, List.map_cons, List.map_nil, hok.ev hx, hok.ev hy]
 simp [hus]
theorem WL.strKeep {pt it e : TypeId} {x y : Operand} {a : Option Addr} {cap : Nat} {s : List UInt8} {H1 : SHeap} (hx : r.ev x = some (.pointer a)) (hy : r.ev y = some (.int .i64 (s.length : Int))) (ho : Out (.row a cap e 1 (bCs s)) H H1)
  (hp : P.underlying pt = some (.pointer e)) (hc : Nat.beq (P.cellsOf e) 1 = true) (hl : s.length ≤ 9223372036854775807) (hd : Nat.blt d n = true)
  (h : ∀ i, Kept a cap e s i → WL P ro n w0 ops Q l ((d, str s) :: r) ds m (i :: H1)) : WL P ro n w0 ops Q (⟨some d, .call ⟨.builtin .unsafeString, #[x, y], #[pt, it]⟩, ty, pos, after, none⟩ :: l) r ds m H := by
 by_cases h0 : s = []
 ·subst h0
  refine .gen (fun v' m' H' => v' = str [] ∧ m' = m ∧ H' = .row a cap e 1 (bCs []) :: H1) hd (fun _ h => by cases h) (fun tmps w hok hs => ?_) (by rintro _ _ _ ⟨rfl, rfl, rfl⟩; exact h _ (.inl ⟨rfl, rfl⟩))
  have hs1 := hs.perm ho.perm
  refine ⟨str [], m, _, w, ?_, hs1, rfl, rfl, rfl⟩
  have h1 := Lib.run_unsafeString_none (P := P) w pt it ty a
  simp only [execOp, resolve, Go.invoke, Go.builtin, Sem.run_bind, Sem.run_pure, Result.andThen_ok, List.map_toArray, List.map_cons, List.map_nil, hok.ev hx, hok.ev hy]
  simp only [List.length_nil] at h1 ⊢
  simp [h1]
  rfl
 ·intro tmps w hok hs
  have hpos : 0 < s.length := List.length_pos_iff.2 h0
  have hs1 := hs.perm ho.perm
  obtain ⟨a0, rfl⟩ := zA1 hs1 List.mem_cons_self (by rw [zS]; exact hpos)
  obtain ⟨arr, fz, h1, h2, h3, h4, h5, h6, h7, h8⟩ := hs1.own _ List.mem_cons_self
  have hcells := zBy (w0 := w0) (m := m) (H := .row (some a0) cap e 1 (bCs s) :: H1) (a := a0) (cap := cap) (T := e) (s := s) List.mem_cons_self w hs1
  rw [zS] at h4
  have hblk := (Array.getElem?_eq_some_iff.1 h2).1
  have hsb : Sat w0 m (.blk a0.block (.cells arr _ fz) :: H1) w := hs1.turn (j := .blk a0.block (.cells arr _ fz)) rfl rfl rfl (Nat.le_refl _) (fun _ _ _ => rfl) h2 (fun b hb => .inl (by simpa [Item.foot] using hb)) (by simp [Item.foot])
  have harr : ∀ (j : Nat) (x : UInt8), s[j]? = some x → arr[j]? = some (.int .u8 x.toNat) := by
   intro j x hx
   have := hcells j (.int .u8 x.toNat) (by simp [hx])
   rw [w9 (by rw [h1])] at this
   simp only [World.cell?] at this
   rw [h2] at this
   rw [h1] at this
   simpa using this
  exact WL.strBlk (s := s) (arr := arr) hx hy .here hp hc hl hd h0 h1 (by rw [h3]; omega) harr (fun fz' => h _ (.inr ⟨h0, a0, arr, fz', rfl, h1, by rw [h3]; omega, harr, rfl⟩)) tmps w hok hsb
end
end Go.Eng
namespace ZP
open Go Go.Eng
attribute [local irreducible] WL WC WQ QFun zJ Does Q1 zD zB Go.Addr.add
theorem zBq : Extern.find Tryz.f114 = some Extern.AbiNoEscape.same := by kernel_rfl
theorem qQ {b cap : Nat} {ao a : Option Addr} {t : List UInt8} (hao : ao = none ∨ ao = some ⟨b, 0, none⟩) (w0 : World) (m : Mem) (H : SHeap) :
  Does Tryz.prog 79 #[.pp b] w0 m (.bl b [.pointer ao, .slice a t.length cap] 111 :: .row a cap 5 1 (bCs t) :: H) (fun v m' H' => m' = m ∧ H' = .bl b [.pp b, .slice a t.length cap] 111 :: .row a cap 5 1 (bCs t) :: H) := by
 refine Does.of_body func79 rfl ntmps79 rfl ?_
 rcases hao with rfl | rfl
 ·try (refine st ?_; intros)
  refine WL.toUnsafe rfl zhs (by exact Nat.succ_pos _) rfl rfl (by kernel_rfl) rfl ?_
  try (refine st ?_; intros)
  refine WL.extern (vs := [.pp b]) func114 rfl rfl (by kernel_rfl) zBq rfl (fun _ => rfl) rfl ?_
  try (refine st ?_; intros)
  refine WL.fromUnsafe rfl zhs rfl rfl (by kernel_rfl) (by kernel_rfl) rfl ?_
  try (refine st ?_; intros)
  exact q_nz ⟨rfl, rfl⟩
 ·try (refine st ?_; intros)
  refine WL.neqSameP (j := Tryz.prog.types[111]) rfl rfl rfl (by kernel_rfl) rfl ?_
  try (refine st ?_; intros)
  exact q_nz ⟨rfl, rfl⟩
def Bldr (b : Nat) (t : List UInt8) (H : SHeap) (H' : SHeap) : Prop :=
 ∃ (ao a : Option Addr) (cap : Nat), (ao = none ∨ ao = some ⟨b, 0, none⟩) ∧ (a = none ∨ 0 < cap) ∧ H' = .bl b [.pointer ao, .slice a t.length cap] 111 :: .row a cap 5 1 (bCs t) :: H
def FitsB (t s : List UInt8) : Prop := t.length + s.length ≤ 140737488355328
theorem zM {b cap : Nat} {ao a : Option Addr} {t s : List UInt8} (hao : ao = none ∨ ao = some ⟨b, 0, none⟩) (hc : a = none ∨ 0 < cap) (hl : FitsB t s) (w0 : World) (m : Mem) (H : SHeap) :
  Does Tryz.prog 48 #[.pp b, str s] w0 m (.bl b [.pointer ao, .slice a t.length cap] 111 :: .row a cap 5 1 (bCs t) :: H) (fun v m' H' => m' = m ∧ v = .tuple #[.int .i64 (s.length : Int), .nilIface] ∧ Bldr b (t ++ s) H H') := by
 refine Does.of_body func48 rfl ntmps48 rfl ?_
 have hbl := zS t
 have e : bCs t ++ (s.map fun b => [Value.int .u8 (b.toNat : Int)]) = bCs (t ++ s) := by simp [bCs]
 try (refine st ?_; intros)
 refine zA func79 ?_ (hs := qQ hao _ _ _)
 rintro v m H1 ⟨rfl, rfl⟩
 try (refine st ?_; intros)
 refine WL.appendS2 (s := s) rfl rfl rfl rfl (by (repeat (first | exact Out.here | apply Out.there))) rfl rfl rfl rfl hbl.symm (by rw [hbl]; exact hl) rfl ?_
 intro a2 cap2 hc2
 rw [e, hbl, ← List.length_append]
 try (refine st ?_; intros)
 exact q_fz ⟨rfl, rfl, some ⟨b, 0, none⟩, a2, cap2, .inr rfl, hc2 hc, rfl⟩
theorem zIU {b cap : Nat} {ao a : Option Addr} {t : List UInt8} (w0 : World) (m : Mem) (H : SHeap) :
  Does Tryz.prog 70 #[.pp b] w0 m (.bl b [.pointer ao, .slice a t.length cap] 111 :: H) (Gives (.int .i64 (t.length : Int)) m (.bl b [.pointer ao, .slice a t.length cap] 111 :: H)) := by
 refine Does.of_body func70 rfl ntmps70 rfl ?_
 try (refine st ?_; intros)
 exact q_fz zgm
namespace ZD13a
theorem zal {G G' : Prop} (next : G') (h : Bx G' → G := by intro zzn; (first | (refine iSD rfl ?_; refine WL.sliceData rfl (by assumption) rfl ?_)); (repeat revert zzf); exact zzn.out) : G := h ⟨next⟩
end ZD13a
open ZD13a in
theorem zBm {b cap : Nat} {ao a : Option Addr} {t : List UInt8} (hc : a = none ∨ 0 < cap) (hl : t.length ≤ 140737488355328) (w0 : World) (m : Mem) (H : SHeap) :
  Does Tryz.prog 51 #[.pp b] w0 m (.bl b [.pointer ao, .slice a t.length cap] 111 :: .row a cap 5 1 (bCs t) :: H) (fun v m' H' => v = str t ∧ m' = m ∧ ∃ i, Kept a cap 5 t i ∧ H' = .bl b [.pointer ao, .slice a t.length cap] 111 :: i :: H) := by
 refine Does.of_body func51 rfl ntmps51 rfl ?_
 have hbl := zS t
 try (refine stg ?_; intros)
 refine wdw 11 ([.bl b [.pointer ao, .slice a t.length cap] 111]) ?_
 refine cmg ?_
 refine wa1 10 ?_
 refine WL.strKeep (s := t) rfl rfl (by (repeat (first | exact Out.here | apply Out.there))) rfl (by kernel_rfl) (by omega) rfl ?_
 intro i hk
 try (refine stg ?_; intros)
 refine waz [] zml ?_
 refine wdz ?_
 try (refine stg ?_; intros)
 exact q_fz ⟨rfl, rfl, i, hk, rfl⟩
open ZD13a in
theorem zG1 {b cap : Nat} {ao a : Option Addr} {t : List UInt8} (hc : a = none ∨ 0 < cap) (hl : t.length ≤ 140737488355328) {i : Eng.Item} (hk : Kept a cap 5 t i) (w0 : World) (m : Mem) (H : SHeap) :
  Does Tryz.prog 51 #[.pp b] w0 m (.bl b [.pointer ao, .slice a t.length cap] 111 :: i :: H) (fun v m' H' => v = str t ∧ m' = m ∧ ∃ i2, Kept a cap 5 t i2 ∧ H' = .bl b [.pointer ao, .slice a t.length cap] 111 :: i2 :: H) := by
 rcases hk with ⟨ht, rfl⟩ | ⟨ht, a0, arr, fz, rfl, h1, hsz, harr, rfl⟩
 ·exact zBm hc hl w0 m H
 ·refine Does.of_body func51 rfl ntmps51 rfl ?_
  try (refine stg ?_; intros)
  refine wdw 11 ([.bl b [.pointer ao, .slice (some a0) t.length cap] 111]) ?_
  refine cmg ?_
  refine wa1 10 ?_
  refine WL.strBlk (s := t) rfl rfl (by (repeat (first | exact Out.here | apply Out.there))) rfl (by kernel_rfl) (by omega) rfl ht h1 hsz harr ?_
  intro fz'
  try (refine stg ?_; intros)
  refine waz [] zml ?_
  refine wdz ?_
  try (refine stg ?_; intros)
  exact q_fz ⟨rfl, rfl, _, .inr ⟨ht, a0, arr, fz', rfl, h1, hsz, harr, rfl⟩, rfl⟩
end ZP
namespace Go.Eng
open Go Go.RowKit
theorem Does.gives_memD {P : Program} {w0 : World} {m : Mem} {H : SHeap} {f : FuncId} {args : Array Value} {v : Value} {i : Item} (hm : i ∈ H) (h : ∀ H1, Does P f args w0 m (i :: H1) (Gives v m (i :: H1))) : Does P f args w0 m H (Gives v m H) := by
 intro w hs
 obtain ⟨H1, hp⟩ := hs.at_ hm
 refine (h H1 w (hs.perm hp)).mono ?_
 rintro e w' ⟨v', m', H', he, ⟨rfl, rfl, rfl⟩, hs'⟩
 exact ⟨_, _, _, he, ⟨rfl, rfl, rfl⟩, hs'.perm hp.symm⟩
def cfs (l : List Cf) : List (List Value) := l.map Cf.cs
theorem zAq (l : List Cf) : (cfs l).length = l.length := List.length_map _
end Go.Eng
namespace ZP
open Go Go.Eng
attribute [local irreducible] WL WC WQ QFun zJ Does Q1 zD zB Go.Addr.add
theorem zF3 {b cap : Nat} {ao a : Option Addr} {t : List UInt8} {w0 : World} {m : Mem} {H : SHeap} (hm : Eng.Item.bl b [.pointer ao, .slice a t.length cap] 111 ∈ H) :
  Does Tryz.prog 70 #[.pp b] w0 m H (Gives (.int .i64 (t.length : Int)) m H) := Does.gives_memD hm fun H1 => zIU w0 m H1
attribute [local irreducible] jn strs bCs cfs
namespace ZD14a
theorem zal {G G' : Prop} (next : G') (h : Bx G' → G := by intro zzn; (first | (refine WL.append1 (by':=64) rfl rfl rfl rfl (by (repeat (first | exact Out.here | apply Out.there))) zhs (by exact rfl) (by exact rfl) (by exact rfl) (by exact rfl) (by exact rfl) (by exact rfl) (by first | exact rfl | omega) (by first | omega | (simp; omega)) (by decide) (by exact rfl) ?_; intro zzf zzf) | (refine WL.indexAddrA rfl rfl (by exact znz) rfl rfl (by omega) rfl rfl ?_)); (repeat revert zzf); exact zzn.out) : G := h ⟨next⟩
end ZD14a
open ZD14a in
theorem zFk {X Y Z : List Tx} {w : Wv} {bx by_ bz bat bl bb cx cy cz cl cb n k1 k2 : Nat} {ax ay az al ao ab : Option Addr} {w0 : World} {m : Mem} {H : SHeap}
  (hX : X.length ≤ 4194304 ∧ X.flatten.length ≤ 4194304 ∧ X.length ≤ cx) (hY : Y.length ≤ 4194304 ∧ Y.flatten.length ≤ 4194304 ∧ Y.length ≤ cy) (hZ : Z.length ≤ 4194304 ∧ Z.flatten.length ≤ 4194304 ∧ Z.length ≤ cz)
  (hn : w.p ≤ n ∧ n ≤ X.length) (hk1 : w.q ≤ k1 ∧ k1 ≤ Y.length) (hk2 : w.r ≤ k2 ∧ k2 ≤ Z.length) (ho : w.out.length ≤ 1099511627776) (hL : w.l.length ≤ 4194304) (hao : ao = none ∨ ao = some ⟨bb, 0, none⟩) (hab : ab = none ∨ 0 < cb) :
  Does Tryz.prog 68 #[.int .i64 (n : Int), .int .i64 (k1 : Int), .int .i64 (k2 : Int), .pp bx, .pp bat, .pp by_, .pp bz, .pp bl, .pp bb] w0 m
   ([.bl bx [.slice ax X.length cx] 83, .row ax cx 9 1 (strs X), .bl by_ [.slice ay Y.length cy] 83, .row ay cy 9 1 (strs Y), .bl bz [.slice az Z.length cz] 83, .row az cz 9 1 (strs Z), .bl bat [.int .i64 (w.p : Int), .int .i64 (w.q : Int), .int .i64 (w.r : Int)] 135, .bl bl [.slice al w.l.length cl] 33, .row al cl 138 5 (cfs w.l), .bl bb [.pointer ao, .slice ab w.out.length cb] 111, .row ab cb 5 1 (bCs w.out)] ++ H)
   (fun _ m' H' => m' = m ∧ ∃ (al2 : Option Addr) (cl2 : Nat) (ao2 ab2 : Option Addr) (cb2 : Nat), (ao2 = none ∨ ao2 = some ⟨bb, 0, none⟩) ∧ (ab2 = none ∨ 0 < cb2) ∧
    H' = [.bl bx [.slice ax X.length cx] 83, .row ax cx 9 1 (strs X), .bl by_ [.slice ay Y.length cy] 83, .row ay cy 9 1 (strs Y), .bl bz [.slice az Z.length cz] 83, .row az cz 9 1 (strs Z), .bl bat [.int .i64 ((w.side X Y Z n k1 k2).p : Int), .int .i64 ((w.side X Y Z n k1 k2).q : Int), .int .i64 ((w.side X Y Z n k1 k2).r : Int)] 135, .bl bl [.slice al2 (w.side X Y Z n k1 k2).l.length cl2] 33, .row al2 cl2 138 5 (cfs (w.side X Y Z n k1 k2).l),
     .bl bb [.pointer ao2, .slice ab2 (w.side X Y Z n k1 k2).out.length cb2] 111, .row ab2 cb2 5 1 (bCs (w.side X Y Z n k1 k2).out)] ++ H) := by
 refine Does.of_body func68 rfl ntmps68 rfl ?_
 simp only [List.cons_append, List.nil_append]
 have hja := zAQ X w.p n
 have hjb := zAQ Y w.q k1
 have hjc := zAQ Z w.r k2
 try (refine stg ?_; intros)
 refine wdw 18 ([.bl bx [.slice ax X.length cx] 83, .row ax cx 9 1 (strs X), .bl by_ [.slice ay Y.length cy] 83, .row ay cy 9 1 (strs Y), .bl bz [.slice az Z.length cz] 83, .row az cz 9 1 (strs Z), .bl bat [.int .i64 (w.p : Int), .int .i64 (w.q : Int), .int .i64 (w.r : Int)] 135]) ?_
 refine cmg ?_
 refine wc1 5 ?_ (hwl := by intro zm zF zle; refine zA func69 ?_ (hs := yC (l := X) zhs hn (by omega) (by omega)); rintro _ _ _ ⟨rfl, rfl, rfl⟩; exact sqg)
 refine wc1 11 ?_ (hwl := by intro zm zF zle; refine zA func69 ?_ (hs := yC (l := Y) zhs hk1 (by omega) (by omega)); rintro _ _ _ ⟨rfl, rfl, rfl⟩; exact sqg)
 refine wc1 17 ?_ (hwl := by intro zm zF zle; refine zA func69 ?_ (hs := yC (l := Z) zhs hk2 (by omega) (by omega)); rintro _ _ _ ⟨rfl, rfl, rfl⟩; exact sqg)
 refine wdz ?_
 have hn1 : (n : Int) + 1 = ((n + 1 : Nat) : Int) := by omega
 have hk11 : (k1 : Int) + 1 = ((k1 + 1 : Nat) : Int) := by omega
 have hk21 : (k2 : Int) + 1 = ((k2 + 1 : Nat) : Int) := by omega
 have hcf := zAq w.l
 have hside : w.side X Y Z n k1 k2 = ⟨w.out ++ sideT (jn X w.p n) (jn Y w.q k1) (jn Z w.r k2), w.l ++ sideC w.out.length (jn X w.p n) (jn Y w.q k1) (jn Z w.r k2), n + 1, k1 + 1, k2 + 1⟩ := rfl
 generalize jn X w.p n = tO at *
 generalize jn Y w.q k1 = tA at *
 generalize jn Z w.r k2 = tC at *
 by_cases h1 : tC = tO
 ·have hW : w.side X Y Z n k1 k2 = ⟨w.out ++ tA, w.l, n + 1, k1 + 1, k2 + 1⟩ := by rw [hside, show sideT tO tA tC = tA from if_neg (fun g => g.1 h1), show sideC w.out.length tO tA tC = [] from if_neg (fun g => g.1 h1), List.append_nil]
  try (refine stg ?_; intros)
  refine WL.heap (H' := .bl bb [.pointer ao, .slice ab w.out.length cb] 111 :: .row ab cb 5 1 (bCs w.out) :: ([.bl bx [.slice ax X.length cx] 83, .row ax cx 9 1 (strs X), .bl by_ [.slice ay Y.length cy] 83, .row ay cy 9 1 (strs Y), .bl bz [.slice az Z.length cz] 83, .row az cz 9 1 (strs Z), .bl bat [.int .i64 ((n : Int) + 1), .int .i64 ((k1 : Int) + 1), .int .i64 ((k2 : Int) + 1)] 135, .bl bl [.slice al w.l.length cl] 33, .row al cl 138 5 (cfs w.l)] ++ H)) zpk ?_
  refine zA func48 ?_ (hs := zM hao hab (by unfold FitsB; omega) _ _ _)
  rintro v m9 H9 ⟨rfl, rfl, ao2, ab2, cb2, hao2, hab2, rfl⟩
  try (refine stg ?_; intros)
  rw [hW, hn1, hk11, hk21]
  exact q_nz ⟨rfl, al, cl, ao2, ab2, cb2, hao2, hab2, rfl⟩
 by_cases h2 : tA = tO
 ·have hW : w.side X Y Z n k1 k2 = ⟨w.out ++ tC, w.l, n + 1, k1 + 1, k2 + 1⟩ := by rw [hside, show sideT tO tA tC = tC from if_pos ⟨h1, h2⟩, show sideC w.out.length tO tA tC = [] from if_neg (fun g => g.2.1 h2), List.append_nil]
  try (refine stg ?_; intros)
  refine WL.heap (H' := .bl bb [.pointer ao, .slice ab w.out.length cb] 111 :: .row ab cb 5 1 (bCs w.out) :: ([.bl bx [.slice ax X.length cx] 83, .row ax cx 9 1 (strs X), .bl by_ [.slice ay Y.length cy] 83, .row ay cy 9 1 (strs Y), .bl bz [.slice az Z.length cz] 83, .row az cz 9 1 (strs Z), .bl bat [.int .i64 ((n : Int) + 1), .int .i64 ((k1 : Int) + 1), .int .i64 ((k2 : Int) + 1)] 135, .bl bl [.slice al w.l.length cl] 33, .row al cl 138 5 (cfs w.l)] ++ H)) zpk ?_
  refine zA func48 ?_ (hs := zM hao hab (by unfold FitsB; omega) _ _ _)
  rintro v m9 H9 ⟨rfl, rfl, ao2, ab2, cb2, hao2, hab2, rfl⟩
  try (refine stg ?_; intros)
  rw [hW, hn1, hk11, hk21]
  exact q_nz ⟨rfl, al, cl, ao2, ab2, cb2, hao2, hab2, rfl⟩
 by_cases h3 : tA = tC
 ·have hW : w.side X Y Z n k1 k2 = ⟨w.out ++ tA, w.l, n + 1, k1 + 1, k2 + 1⟩ := by rw [hside, show sideT tO tA tC = tA from if_neg (fun g => h2 g.2), show sideC w.out.length tO tA tC = [] from if_neg (fun g => g.2.2 h3), List.append_nil]
  try (refine stg ?_; intros)
  refine WL.heap (H' := .bl bb [.pointer ao, .slice ab w.out.length cb] 111 :: .row ab cb 5 1 (bCs w.out) :: ([.bl bx [.slice ax X.length cx] 83, .row ax cx 9 1 (strs X), .bl by_ [.slice ay Y.length cy] 83, .row ay cy 9 1 (strs Y), .bl bz [.slice az Z.length cz] 83, .row az cz 9 1 (strs Z), .bl bat [.int .i64 ((n : Int) + 1), .int .i64 ((k1 : Int) + 1), .int .i64 ((k2 : Int) + 1)] 135, .bl bl [.slice al w.l.length cl] 33, .row al cl 138 5 (cfs w.l)] ++ H)) zpk ?_
  refine zA func48 ?_ (hs := zM hao hab (by unfold FitsB; omega) _ _ _)
  rintro v m9 H9 ⟨rfl, rfl, ao2, ab2, cb2, hao2, hab2, rfl⟩
  try (refine stg ?_; intros)
  rw [hW, hn1, hk11, hk21]
  exact q_nz ⟨rfl, al, cl, ao2, ab2, cb2, hao2, hab2, rfl⟩
 ·have hW : w.side X Y Z n k1 k2 = ⟨w.out ++ tA, w.l ++ [⟨w.out.length, w.out.length + tA.length, tO, tA, tC⟩], n + 1, k1 + 1, k2 + 1⟩ := by rw [hside, show sideT tO tA tC = tA from if_neg (fun g => h2 g.2), show sideC w.out.length tO tA tC = [⟨w.out.length, w.out.length + tA.length, tO, tA, tC⟩] from if_pos ⟨h1, h2, h3⟩]
  try (refine stg ?_; intros)
  refine wdw 13 ([.bl bx [.slice ax X.length cx] 83, .row ax cx 9 1 (strs X), .bl by_ [.slice ay Y.length cy] 83, .row ay cy 9 1 (strs Y), .bl bz [.slice az Z.length cz] 83, .row az cz 9 1 (strs Z), .bl bat [.int .i64 ((n : Int) + 1), .int .i64 ((k1 : Int) + 1), .int .i64 ((k2 : Int) + 1)] 135, .bl bl [.slice al w.l.length cl] 33, .bl bb [.pointer ao, .slice ab w.out.length cb] 111]) ?_
  refine cmg ?_
  refine wc1 1 ?_ (hwl := by intro zm zF zle; refine zA func70 ?_ (hs := zF3 zhs); rintro _ _ _ ⟨rfl, rfl, rfl⟩; exact sqg)
  refine wc1 2 ?_ (hwl := by intro zm zF zle; refine zA func70 ?_ (hs := zF3 zhs); rintro _ _ _ ⟨rfl, rfl, rfl⟩; exact sqg)
  refine cmg ?_
  refine wa1 11 ?_
  refine stg ?_; intros; rename_i b9
  refine waz [.bl b9 [.int .i64 (w.out.length : Int), .int .i64 ((w.out.length : Int) + (tA.length : Int)), str tO, str tA, str tC] 138] zml ?_
  refine cmg ?_
  refine wa1 12 ?_
  refine stg ?_; intros; rename_i al2 cl2
  rw [hcf]
  refine waz [] zml ?_
  refine wdz ?_
  have hll : w.l.length + 1 = (w.l ++ [(⟨w.out.length, w.out.length + tA.length, tO, tA, tC⟩ : Cf)]).length := by simp
  have hlc : cfs w.l ++ [[.int .i64 (w.out.length : Int), .int .i64 ((w.out.length : Int) + (tA.length : Int)), str tO, str tA, str tC]] = cfs (w.l ++ [⟨w.out.length, w.out.length + tA.length, tO, tA, tC⟩]) := by
   unfold cfs
   rw [List.map_append]
   simp [Cf.cs]
  try (refine stg ?_; intros)
  refine WL.heap (H' := .bl bb [.pointer ao, .slice ab w.out.length cb] 111 :: .row ab cb 5 1 (bCs w.out) :: ([.bl bx [.slice ax X.length cx] 83, .row ax cx 9 1 (strs X), .bl by_ [.slice ay Y.length cy] 83, .row ay cy 9 1 (strs Y), .bl bz [.slice az Z.length cz] 83, .row az cz 9 1 (strs Z), .bl bat [.int .i64 ((n : Int) + 1), .int .i64 ((k1 : Int) + 1), .int .i64 ((k2 : Int) + 1)] 135, .bl bl [.slice al2 (w.l.length + 1) cl2] 33, .row al2 cl2 138 5 (cfs w.l ++ [[.int .i64 (w.out.length : Int), .int .i64 ((w.out.length : Int) + (tA.length : Int)), str tO, str tA, str tC]])] ++ H)) zpk ?_
  refine zA func48 ?_ (hs := zM hao hab (by unfold FitsB; omega) _ _ _)
  rintro v m9 H9 ⟨rfl, rfl, ao2, ab2, cb2, hao2, hab2, rfl⟩
  try (refine stg ?_; intros)
  rw [hW, hn1, hk11, hk21, hll, hlc]
  exact q_nz ⟨rfl, al2, cl2, ao2, ab2, cb2, hao2, hab2, rfl⟩
end ZP
namespace Go.Eng
open Go Go.RowKit
def kv (M : List (Nat × Nat)) : List (Int × Value) := M.map fun p => ((p.1 : Int), .int .i64 (p.2 : Int))
theorem vF (n : Nat) : ∀ M : List (Nat × Nat), (kv M).lookup (n : Int) = (M.lookup n).map fun k => .int .i64 (k : Int)
 | [] => rfl
 | (a, b) :: M => by
  show List.lookup (n : Int) (((a : Int), Value.int .i64 (b : Int)) :: kv M) = _
  rw [List.lookup_cons, List.lookup_cons]
  by_cases h : n = a
  ·subst h; simp
  ·rw [show ((n : Int) == (a : Int)) = false by simp; omega, show (n == a) = false by simp; exact h]
   exact vF n M
theorem PrOk.fresh {a b : List Tx} : ∀ {M A B : List (Nat × Nat)} {p : Nat × Nat} {i k n m : Nat}, PrOk a b i k M n m → M = A ++ p :: B → A.lookup p.1 = Option.none
 | M, [], B, p, i, k, n, m, h, e => rfl
 | M, q :: A, B, p, i, k, n, m, h, e => by
  subst e
  obtain ⟨h1, h2, h3, h4, h5, h6⟩ := h
  obtain ⟨q1, q2⟩ := q
  have hlt : ∀ {A B : List (Nat × Nat)} {p : Nat × Nat} {i k : Nat}, PrOk a b i k (A ++ p :: B) n m → i ≤ p.1 := by
   intro A
   induction A with
   | nil => intro B p i k h; exact h.1
   | cons r A ih => intro B p i k h; obtain ⟨g1, _, _, _, _, g6⟩ := h; have := ih g6; omega
  have hl := hlt h6
  simp only at hl
  rw [List.lookup_cons, show (p.1 == q1) = false by simp; omega]
  exact PrOk.fresh h6 rfl
end Go.Eng
namespace ZP
open Go Go.Eng
attribute [local irreducible] WL WC WQ QFun zJ Does Q1 zD zB Go.Addr.add
attribute [local irreducible] kv mapO
namespace ZD15a
theorem zal {G G' : Prop} (next : G') (h : Bx G' → G := by intro zzn; (first | (refine WL.indexAddrA rfl rfl (by exact znz) rfl rfl (by omega) rfl rfl ?_)); (repeat revert zzf); exact zzn.out) : G := h ⟨next⟩
end ZD15a
open ZD15a in
theorem zJC {X Y : List Tx} {M : List (Nat × Nat)} {a : Option Addr} {cp bm bm2 bx by_ bz : Nat} {w0 : World} {m : Mem} {H : SHeap} {Q : Exit → Act → World → Prop} (hM : PrOk X Y 0 0 M X.length Y.length) (hl : M.length ≤ 4194304) (hX : X.length ≤ 4194304 ∧ Y.length ≤ 4194304)
  (hK : WQ 116 w0 Q (.exit 0) [(12, .map (some bm)), (9, .pp bx), (10, .pp by_), (11, .pp bz), (13, .map (some bm2))] [] m (.blk bm (mapO .i64 (kv M)) :: H)) :
  WC Tryz.prog none 116 w0 ((yF (Tryz.f33.body.getD .skip)).getD 0 .skip) Q [(45, .int .i64 0), (44, .int .i64 (M.length : Int)), (43, .slice a M.length cp), (12, .map (some bm)), (9, .pp bx), (10, .pp by_), (11, .pp bz), (13, .map (some bm2))] [] m
   (.blk bm (mapO .i64 []) :: .row a cp 134 2 (M.map prE) :: H) := by
 have hml : (M.map prE).length = M.length := List.length_map _
 rw [show ([] : List (Int × Value)) = kv (M.take 0) from by unfold kv; rfl]
 refine lpz (fun j r ds m' H' => ∃ i, j = M.length - i ∧ r = [(45, .int .i64 (i : Int)), (44, .int .i64 (M.length : Int)), (43, .slice a M.length cp), (12, .map (some bm)), (9, .pp bx), (10, .pp by_), (11, .pp bz), (13, .map (some bm2))] ∧ ds = [] ∧ m = m' ∧ H' = .blk bm (mapO .i64 (kv (M.take i))) :: .row a cp 134 2 (M.map prE) :: H ∧ (i ≤ M.length)) (M.length - (0)) ⟨0, rfl, rfl, rfl, rfl, rfl, by omega⟩ ?_
 rintro j r ds m' H' ⟨i, rfl, rfl, rfl, rfl, rfl, hi⟩
 by_cases hlt : i < M.length
 ·obtain ⟨p, hp⟩ : ∃ p, M[i]? = some p := ⟨_, List.getElem?_eq_getElem hlt⟩
  have hgp : (M.map prE)[i]? = some [.int .i64 (p.1 : Int), .int .i64 (p.2 : Int)] := by rw [List.getElem?_map, hp]; rfl
  have hnew : (kv (M.take i)).lookup (p.1 : Int) = none := by
   rw [vF, hM.fresh (A := M.take i) (p := p) (B := M.drop (i + 1)) (by
    obtain ⟨h1, h2⟩ := List.getElem?_eq_some_iff.1 hp
    conv => lhs; rw [← List.take_append_drop i M, List.drop_eq_getElem_cons h1, h2])]
   rfl
  have hsnoc : kv (M.take i) ++ [((p.1 : Int), Value.int .i64 (p.2 : Int))] = kv (M.take (i + 1)) := by
   unfold kv
   rw [List.take_succ, hp]; simp
  generalize M.map prE = ME at *
  generalize kv (M.take i) = K at *
  refine WC.rowSome zhs (by omega) ?_
  rintro a0 rfl
  refine stg ?_; intros; rename_i bp
  refine WL.mapNew (q := .i64) (q' := .i64) rfl rfl rfl rfl rfl (by repeat (first | exact Repl.here | apply Repl.there)) hnew ?_
  rw [hsnoc]
  try (refine stg ?_; intros)
  refine nxz (M.length - (i + 1)) ⟨i + 1, rfl, rfl, rfl, rfl, rfl, ?_⟩
  ·omega
 ·rw [List.take_of_length_le (by omega)]
  try (refine stg ?_; intros)
  exact WQ.weak zsb zpk hK
open ZD15a in
theorem zGZ {X Y : List Tx} {M : List (Nat × Nat)} {a : Option Addr} {cp bm bm2 bx by_ bz : Nat} {w0 : World} {m : Mem} {H : SHeap} {Q : Exit → Act → World → Prop} (hM : PrOk X Y 0 0 M X.length Y.length) (hl : M.length ≤ 4194304) (hX : X.length ≤ 4194304 ∧ Y.length ≤ 4194304)
  (hK : WQ 116 w0 Q (.exit 2) [(13, .map (some bm)), (9, .pp bx), (10, .pp by_), (11, .pp bz), (12, .map (some bm2))] [] m (.blk bm (mapO .i64 (kv M)) :: H)) :
  WC Tryz.prog none 116 w0 ((yF (Tryz.f33.body.getD .skip)).getD 1 .skip) Q [(59, .int .i64 0), (58, .int .i64 (M.length : Int)), (57, .slice a M.length cp), (13, .map (some bm)), (9, .pp bx), (10, .pp by_), (11, .pp bz), (12, .map (some bm2))] [] m
   (.blk bm (mapO .i64 []) :: .row a cp 134 2 (M.map prE) :: H) := by
 have hml : (M.map prE).length = M.length := List.length_map _
 rw [show ([] : List (Int × Value)) = kv (M.take 0) from by unfold kv; rfl]
 refine lpz (fun j r ds m' H' => ∃ i, j = M.length - i ∧ r = [(59, .int .i64 (i : Int)), (58, .int .i64 (M.length : Int)), (57, .slice a M.length cp), (13, .map (some bm)), (9, .pp bx), (10, .pp by_), (11, .pp bz), (12, .map (some bm2))] ∧ ds = [] ∧ m = m' ∧ H' = .blk bm (mapO .i64 (kv (M.take i))) :: .row a cp 134 2 (M.map prE) :: H ∧ (i ≤ M.length)) (M.length - (0)) ⟨0, rfl, rfl, rfl, rfl, rfl, by omega⟩ ?_
 rintro j r ds m' H' ⟨i, rfl, rfl, rfl, rfl, rfl, hi⟩
 by_cases hlt : i < M.length
 ·obtain ⟨p, hp⟩ : ∃ p, M[i]? = some p := ⟨_, List.getElem?_eq_getElem hlt⟩
  have hgp : (M.map prE)[i]? = some [.int .i64 (p.1 : Int), .int .i64 (p.2 : Int)] := by rw [List.getElem?_map, hp]; rfl
  have hnew : (kv (M.take i)).lookup (p.1 : Int) = none := by
   rw [vF, hM.fresh (A := M.take i) (p := p) (B := M.drop (i + 1)) (by
    obtain ⟨h1, h2⟩ := List.getElem?_eq_some_iff.1 hp
    conv => lhs; rw [← List.take_append_drop i M, List.drop_eq_getElem_cons h1, h2])]
   rfl
  have hsnoc : kv (M.take i) ++ [((p.1 : Int), Value.int .i64 (p.2 : Int))] = kv (M.take (i + 1)) := by
   unfold kv
   rw [List.take_succ, hp]; simp
  generalize M.map prE = ME at *
  generalize kv (M.take i) = K at *
  refine WC.rowSome zhs (by omega) ?_
  rintro a0 rfl
  refine stg ?_; intros; rename_i bp
  refine WL.mapNew (q := .i64) (q' := .i64) rfl rfl rfl rfl rfl (by repeat (first | exact Repl.here | apply Repl.there)) hnew ?_
  rw [hsnoc]
  try (refine stg ?_; intros)
  refine nxz (M.length - (i + 1)) ⟨i + 1, rfl, rfl, rfl, rfl, rfl, ?_⟩
  ·omega
 ·rw [List.take_of_length_le (by omega)]
  try (refine stg ?_; intros)
  exact WQ.weak zsb zpk hK
end ZP
namespace Go.Eng
open Go Go.RowKit
def MSt (X Y : List Tx) (M : List (Nat × Nat)) (i k : Nat) : Prop := ∃ l2, PrOk X Y i k l2 X.length Y.length ∧ ∀ j, i ≤ j → M.lookup j = l2.lookup j
theorem MSt.start {X Y : List Tx} : MSt X Y (yE X Y) 0 0 := ⟨_, wL X Y, fun _ _ => rfl⟩
theorem MSt.le {X Y : List Tx} {M : List (Nat × Nat)} {i k : Nat} (h : MSt X Y M i k) : k ≤ Y.length := by
 obtain ⟨l2, h1, _⟩ := h
 exact h1.le.2
theorem MSt.next {X Y : List Tx} {M : List (Nat × Nat)} {i k : Nat} (h : MSt X Y M i k) (hi : i < X.length) :
  MSt X Y M (i + 1) k ∧ (M.lookup i = none ∨ ∃ p, M.lookup i = some p ∧ k ≤ p ∧ p < Y.length ∧ (∃ x, X[i]? = some x ∧ Y[p]? = some x) ∧ MSt X Y M (i + 1) (p + 1)) := by
 obtain ⟨l2, h1, h2⟩ := h
 rcases h1.next hi with ⟨g1, g2⟩ | ⟨p, l3, g1, g2, g3, g4, g5, g6⟩
 ·exact ⟨⟨l2, g2, fun j hj => h2 j (by omega)⟩, .inl (by rw [h2 i (Nat.le_refl _)]; exact g1)⟩
 ·have e : ∀ j, i + 1 ≤ j → M.lookup j = l3.lookup j := fun j hj => by rw [h2 j (by omega)]; exact g6 j (by omega)
  exact ⟨⟨l3, g5.low (Nat.le_refl _) (by omega), e⟩, .inr ⟨p, by rw [h2 i (Nat.le_refl _)]; exact g1, g2, g3, g4, l3, g5, e⟩⟩
theorem zDl (o a c : Tx) : (sideT o a c).length ≤ max a.length c.length := by
 unfold sideT
 split
 ·omega
 ·omega
theorem zA3 (n : Nat) (o a c : Tx) : (sideC n o a c).length ≤ 1 := by
 unfold sideC
 split <;> simp
theorem qX {l : List Tx} {x : Tx} (h : x ∈ l) : x.length ≤ l.flatten.length := by
 induction l with
 | nil => cases h
 | cons y l ih =>
  rw [List.flatten_cons, List.length_append]
  rcases List.mem_cons.1 h with rfl | h
  ·omega
  ·have := ih h; omega
theorem zAd {x y z : List Tx} {M N : List (Nat × Nat)} {t : Tx} {ts : List Tx} {n : Nat} {w : Wv} (h : M.lookup n = none ∨ N.lookup n = none) : wvGo x y z M N (t :: ts) n w = wvGo x y z M N ts (n + 1) w := by
 rw [wvGo]
 rcases h with h | h
 ·rw [h]
 ·rw [h]
  cases M.lookup n <;> rfl
theorem zEh {x y z : List Tx} {M N : List (Nat × Nat)} {t : Tx} {ts : List Tx} {n p q : Nat} {w : Wv} (h1 : M.lookup n = some p) (h2 : N.lookup n = some q) : wvGo x y z M N (t :: ts) n w = wvGo x y z M N ts (n + 1) ((w.side x y z n p q).add t) := by
 rw [wvGo, h1, h2]
end Go.Eng
namespace ZP
open Go Go.Eng
attribute [local irreducible] WL WC WQ QFun zJ Does Q1 zD zB Go.Addr.add
attribute [local irreducible] kv mapO jn strs bCs cfs sideT sideC
theorem zGr {X Y Z : List Tx} {M N : List (Nat × Nat)} {bx by_ bz bat bl bb bm bm2 cx cy cz : Nat} {ax ay az : Option Addr} {w0 : World} {m : Mem} {H : SHeap} {Q : Exit → Act → World → Prop} {F : Wv}
  (hX : X.length ≤ 65536 ∧ X.flatten.length ≤ 65536 ∧ X.length ≤ cx) (hY : Y.length ≤ 65536 ∧ Y.flatten.length ≤ 65536 ∧ Y.length ≤ cy) (hZ : Z.length ≤ 65536 ∧ Z.flatten.length ≤ 65536 ∧ Z.length ≤ cz) (hM : MSt X Y M 0 0) (hN : MSt X Z N 0 0) (hF : wvGo X Y Z M N X 0 ⟨[], [], 0, 0, 0⟩ = F)
  (hK : ∀ (w : Wv) (al : Option Addr) (cl : Nat) (ao ab : Option Addr) (cb : Nat), w.side X Y Z X.length Y.length Z.length = F → w.p ≤ X.length → w.q ≤ Y.length → w.r ≤ Z.length → w.out.length ≤ 8589934592 → w.l.length ≤ 65536 → (ao = none ∨ ao = some ⟨bb, 0, none⟩) → (ab = none ∨ 0 < cb) →
   WQ 116 w0 Q (.exit 4) [(9, .pp bx), (10, .pp by_), (11, .pp bz), (18, .pp bb), (19, .pp bl), (21, .func (.func 68) #[] [.pp bx, .pp bat, .pp by_, .pp bz, .pp bl, .pp bb].toArray)] [] m (.bl bx [.slice ax X.length cx] 83 :: .row ax cx 9 1 (strs X) :: .bl by_ [.slice ay Y.length cy] 83 :: .row ay cy 9 1 (strs Y) :: .bl bz [.slice az Z.length cz] 83 :: .row az cz 9 1 (strs Z) :: .bl bat [.int .i64 (w.p : Int), .int .i64 (w.q : Int), .int .i64 (w.r : Int)] 135 :: .bl bl [.slice al w.l.length cl] 33 :: .row al cl 138 5 (cfs w.l) :: .bl bb [.pointer ao, .slice ab w.out.length cb] 111 :: .row ab cb 5 1 (bCs w.out) :: H)) :
  WC Tryz.prog none 116 w0 ((yF (Tryz.f33.body.getD .skip)).getD 2 .skip) Q [(72, .int .i64 0), (71, .int .i64 (X.length : Int)), (70, .slice ax X.length cx), (12, .map (some bm)), (13, .map (some bm2)), (9, .pp bx), (10, .pp by_), (11, .pp bz), (18, .pp bb), (19, .pp bl), (21, .func (.func 68) #[] [.pp bx, .pp bat, .pp by_, .pp bz, .pp bl, .pp bb].toArray)] [] m
   (.bl bx [.slice ax X.length cx] 83 :: .row ax cx 9 1 (strs X) :: .bl by_ [.slice ay Y.length cy] 83 :: .row ay cy 9 1 (strs Y) :: .bl bz [.slice az Z.length cz] 83 :: .row az cz 9 1 (strs Z) :: .bl bat [.int .i64 0, .int .i64 0, .int .i64 0] 135 :: .bl bl [.slice none 0 0] 33 :: .row none 0 138 5 (cfs []) :: .bl bb [.pointer none, .slice none 0 0] 111 :: .row none 0 5 1 (bCs []) :: .blk bm (mapO .i64 (kv M)) :: .blk bm2 (mapO .i64 (kv N)) :: H) := by
 have hXs : (strs X).length = X.length := by simp [strs]
 refine lpz (fun j r ds m' H' => ∃ (i : Nat) (w : Wv) (al : Option Addr) (cl : Nat) (ao : Option Addr) (ab : Option Addr) (cb : Nat), j = X.length - i ∧ r = [(72, .int .i64 (i : Int)), (71, .int .i64 (X.length : Int)), (70, .slice ax X.length cx), (12, .map (some bm)), (13, .map (some bm2)), (9, .pp bx), (10, .pp by_), (11, .pp bz), (18, .pp bb), (19, .pp bl), (21, .func (.func 68) #[] [.pp bx, .pp bat, .pp by_, .pp bz, .pp bl, .pp bb].toArray)] ∧ ds = [] ∧ m = m' ∧ H' = .bl bx [.slice ax X.length cx] 83 :: .row ax cx 9 1 (strs X) :: .bl by_ [.slice ay Y.length cy] 83 :: .row ay cy 9 1 (strs Y) :: .bl bz [.slice az Z.length cz] 83 :: .row az cz 9 1 (strs Z) :: .bl bat [.int .i64 (w.p : Int), .int .i64 (w.q : Int), .int .i64 (w.r : Int)] 135 :: .bl bl [.slice al w.l.length cl] 33 :: .row al cl 138 5 (cfs w.l) :: .bl bb [.pointer ao, .slice ab w.out.length cb] 111 :: .row ab cb 5 1 (bCs w.out) :: .blk bm (mapO .i64 (kv M)) :: .blk bm2 (mapO .i64 (kv N)) :: H ∧ (i ≤ X.length) ∧ (wvGo X Y Z M N (X.drop i) i w = F) ∧ (MSt X Y M i w.q) ∧ (MSt X Z N i w.r) ∧ (w.p ≤ i) ∧ (w.out.length ≤ i * 131072) ∧ (w.l.length ≤ i) ∧ (ao = none ∨ ao = some ⟨bb, 0, none⟩) ∧ (ab = none ∨ 0 < cb)) (X.length - (0)) ⟨0, ⟨[], [], 0, 0, 0⟩, none, 0, none, none, 0, rfl, rfl, rfl, rfl, rfl, by omega, hF, hM, hN, Nat.le_refl _, Nat.zero_le _, Nat.zero_le _, .inl rfl, .inl rfl⟩ ?_
 rintro j r ds m' H' ⟨i, w, al, cl, ao, ab, cb, rfl, rfl, rfl, rfl, rfl, hi, hgo, hM, hN, hp, hout, hL, hao, hab⟩
 by_cases hlt : i < X.length
 ·obtain ⟨t, ht⟩ : ∃ t, X[i]? = some t := ⟨_, List.getElem?_eq_getElem hlt⟩
  have hgt := xM ht
  have htl : t.length ≤ 65536 := by have := qX (List.mem_of_getElem? ht); omega
  rw [xN ht] at hgo
  obtain ⟨hM1, hM2⟩ := hM.next hlt
  obtain ⟨hN1, hN2⟩ := hN.next hlt
  have hkM := vF i M
  have hkN := vF i N
  generalize hKM : kv M = KM at *
  generalize hKN : kv N = KN at *
  generalize hSX : strs X = SX at *
  refine WC.rowSome (a := ax) (es := SX) zhs (by omega) ?_
  rintro a0 rfl
  rcases hM2 with hM2 | ⟨p, hM2, hqp, hpY, ⟨x, hx1, hx2⟩, hM3⟩
  ·rw [hM2] at hkM
   rw [zAd (.inl hM2)] at hgo
   rcases hN2 with hN2 | ⟨q, hN2, _⟩
   all_goals
    rw [hN2] at hkN
    try (refine st ?_; intros)
    refine WL.lookOk (q := .i64) (q' := .i64) (z := .int .i64 0) rfl rfl zhs rfl rfl (xG rfl) rfl ?_
    rw [hkM]
    simp only [Option.map_none, Option.map_some, Option.getD_none, Option.getD_some, Option.isSome_none, Option.isSome_some]
    try (refine st ?_; intros)
    refine WL.lookOk (q := .i64) (q' := .i64) (z := .int .i64 0) rfl rfl zhs rfl rfl (xG rfl) rfl ?_
    rw [hkN]
    simp only [Option.map_none, Option.map_some, Option.getD_none, Option.getD_some, Option.isSome_none, Option.isSome_some]
    try (refine st ?_; intros)
    subst hKM hKN hSX
    refine nxz (X.length - (i + 1)) ⟨i + 1, w, al, cl, ao, ab, cb, rfl, rfl, rfl, rfl, rfl, ?_, ?_, ?_, ?_, ?_, ?_, ?_, ?_, ?_⟩
    ·omega
    ·exact hgo
    ·exact hM1
    ·exact hN1
    ·omega
    ·exact Nat.le_trans hout (Nat.mul_le_mul_right _ (Nat.le_succ i))
    ·omega
    ·exact hao
    ·exact hab
  ·rw [hM2] at hkM
   rcases hN2 with hN2 | ⟨q, hN2, hrq, hqZ, ⟨y, hy1, hy2⟩, hN3⟩
   ·rw [zAd (.inr hN2)] at hgo
    rw [hN2] at hkN
    try (refine st ?_; intros)
    refine WL.lookOk (q := .i64) (q' := .i64) (z := .int .i64 0) rfl rfl zhs rfl rfl (xG rfl) rfl ?_
    rw [hkM]
    simp only [Option.map_none, Option.map_some, Option.getD_none, Option.getD_some, Option.isSome_none, Option.isSome_some]
    try (refine st ?_; intros)
    refine WL.lookOk (q := .i64) (q' := .i64) (z := .int .i64 0) rfl rfl zhs rfl rfl (xG rfl) rfl ?_
    rw [hkN]
    simp only [Option.map_none, Option.map_some, Option.getD_none, Option.getD_some, Option.isSome_none, Option.isSome_some]
    try (refine st ?_; intros)
    subst hKM hKN hSX
    refine nxz (X.length - (i + 1)) ⟨i + 1, w, al, cl, ao, ab, cb, rfl, rfl, rfl, rfl, rfl, ?_, ?_, ?_, ?_, ?_, ?_, ?_, ?_, ?_⟩
    ·omega
    ·exact hgo
    ·exact hM1
    ·exact hN1
    ·omega
    ·exact Nat.le_trans hout (Nat.mul_le_mul_right _ (Nat.le_succ i))
    ·omega
    ·exact hao
    ·exact hab
   ·rw [zEh hM2 hN2] at hgo
    rw [hN2] at hkN
    try (refine st ?_; intros)
    refine WL.lookOk (q := .i64) (q' := .i64) (z := .int .i64 0) rfl rfl zhs rfl rfl (xG rfl) rfl ?_
    rw [hkM]
    simp only [Option.map_none, Option.map_some, Option.getD_none, Option.getD_some, Option.isSome_none, Option.isSome_some]
    try (refine st ?_; intros)
    refine WL.lookOk (q := .i64) (q' := .i64) (z := .int .i64 0) rfl rfl zhs rfl rfl (xG rfl) rfl ?_
    rw [hkN]
    simp only [Option.map_none, Option.map_some, Option.getD_none, Option.getD_some, Option.isSome_none, Option.isSome_some]
    try (refine st ?_; intros)
    have hout2 : w.out.length ≤ 8589934592 := Nat.le_trans hout (Nat.le_trans (Nat.mul_le_mul_right _ (Nat.le_of_lt (Nat.lt_of_lt_of_le hlt hX.1))) (by decide))
    have hsl : (w.side X Y Z i p q).out.length ≤ w.out.length + 65536 := by
     show (w.out ++ sideT (jn X w.p i) (jn Y w.q p) (jn Z w.r q)).length ≤ _
     have h1 := zDl (jn X w.p i) (jn Y w.q p) (jn Z w.r q)
     have h2 := zAQ Y w.q p
     have h3 := zAQ Z w.r q
     rw [List.length_append]; omega
    have hcl : (w.side X Y Z i p q).l.length ≤ w.l.length + 1 := by
     show (w.l ++ sideC w.out.length (jn X w.p i) (jn Y w.q p) (jn Z w.r q)).length ≤ _
     have h1 := zA3 w.out.length (jn X w.p i) (jn Y w.q p) (jn Z w.r q)
     rw [List.length_append]; omega
    have hsp : (w.side X Y Z i p q).p = i + 1 ∧ (w.side X Y Z i p q).q = p + 1 ∧ (w.side X Y Z i p q).r = q + 1 := ⟨rfl, rfl, rfl⟩
    subst hKM hKN hSX
    refine WL.heap (H' := [.bl bx [.slice (some a0) X.length cx] 83, .row (some a0) cx 9 1 (strs X), .bl by_ [.slice ay Y.length cy] 83, .row ay cy 9 1 (strs Y), .bl bz [.slice az Z.length cz] 83, .row az cz 9 1 (strs Z), .bl bat [.int .i64 (w.p : Int), .int .i64 (w.q : Int), .int .i64 (w.r : Int)] 135, .bl bl [.slice al w.l.length cl] 33, .row al cl 138 5 (cfs w.l), .bl bb [.pointer ao, .slice ab w.out.length cb] 111, .row ab cb 5 1 (bCs w.out)] ++ (.blk bm (mapO .i64 (kv M)) :: .blk bm2 (mapO .i64 (kv N)) :: H)) zpk ?_
    refine WL.callV rfl func68 rfl rfl (by exact rfl) (by exact rfl) (zFk (X := X) (Y := Y) (Z := Z) (w := w) (n := i) (k1 := p) (k2 := q) ⟨by omega, by omega, hX.2.2⟩ ⟨by omega, by omega, hY.2.2⟩ ⟨by omega, by omega, hZ.2.2⟩ ⟨hp, by omega⟩ ⟨hqp, by omega⟩ ⟨hrq, by omega⟩ (by omega) (by omega) hao hab) ?_
    rintro v m9 H9 ⟨rfl, al2, cl2, ao2, ab2, cb2, hao2, hab2, rfl⟩
    obtain ⟨h1, h2, h3⟩ := hsp
    obtain ⟨w2, hw2⟩ : ∃ w2, w2 = w.side X Y Z i p q := ⟨_, rfl⟩
    rw [← hw2] at hsl hcl h1 h2 h3 hgo ⊢
    clear hw2
    simp only [List.cons_append, List.nil_append]
    try (refine st ?_; intros)
    refine WL.heap (H' := .bl bb [.pointer ao2, .slice ab2 w2.out.length cb2] 111 :: .row ab2 cb2 5 1 (bCs w2.out) :: (.bl bx [.slice (some a0) X.length cx] 83 :: .row (some a0) cx 9 1 (strs X) :: .bl by_ [.slice ay Y.length cy] 83 :: .row ay cy 9 1 (strs Y) :: .bl bz [.slice az Z.length cz] 83 :: .row az cz 9 1 (strs Z) :: .bl bat [.int .i64 (w2.p : Int), .int .i64 (w2.q : Int), .int .i64 (w2.r : Int)] 135 :: .bl bl [.slice al2 w2.l.length cl2] 33 :: .row al2 cl2 138 5 (cfs w2.l) :: .blk bm (mapO .i64 (kv M)) :: .blk bm2 (mapO .i64 (kv N)) :: H)) zpk ?_
    refine zA func48 ?_ (hs := zM hao2 hab2 (by unfold FitsB; omega) _ _ _)
    rintro v m9 H9 ⟨rfl, rfl, ao3, ab3, cb3, hao3, hab3, rfl⟩
    obtain ⟨w3, hw3⟩ : ∃ w3, w3 = w2.add t := ⟨_, rfl⟩
    have e1 : w3.out = w2.out ++ t := by rw [hw3]; rfl
    have e2 : w3.l = w2.l := by rw [hw3]; rfl
    have e3 : w3.p = w2.p := by rw [hw3]; rfl
    have e4 : w3.q = w2.q := by rw [hw3]; rfl
    have e5 : w3.r = w2.r := by rw [hw3]; rfl
    have e6 : w3.out.length = w2.out.length + t.length := by rw [e1, List.length_append]
    rw [← hw3] at hgo
    rw [← e1, ← e2, ← e3, ← e4, ← e5]
    try (refine st ?_; intros)
    refine nxz (X.length - (i + 1)) ⟨i + 1, w3, al2, cl2, ao3, ab3, cb3, rfl, rfl, rfl, rfl, rfl, ?_, ?_, ?_, ?_, ?_, ?_, ?_, ?_, ?_⟩
    ·omega
    ·exact hgo
    ·rw [e4, h2]; exact hM3
    ·rw [e5, h3]; exact hN3
    ·omega
    ·rw [Nat.succ_mul]
     generalize i * 131072 = I at *
     omega
    ·rw [e2]; omega
    ·exact hao3
    ·exact hab3
 ·rw [List.drop_of_length_le (by omega)] at hgo
  have hfin := hK w al cl ao ab cb hgo (by omega) hM.le hN.le (Nat.le_trans hout (Nat.le_trans (Nat.mul_le_mul_right _ (by omega : i ≤ 65536)) (by decide))) (by omega) hao hab
  try (refine st ?_; intros)
  exact WQ.weak zsb zpk hfin
end ZP
namespace Go.Eng
open Go
theorem PrOk.len {a b : List Tx} : ∀ {l : List (Nat × Nat)} {i k n m : Nat}, PrOk a b i k l n m → l.length ≤ n - i
 | [], _, _, _, _, _ => Nat.zero_le _
 | p :: l, i, k, n, m, ⟨h1, h2, h3, h4, _, h6⟩ => by
  have := PrOk.len h6
  rw [List.length_cons]; omega
end Go.Eng
namespace ZP
open Go Go.Eng
attribute [local irreducible] WL WC WQ QFun zJ Does Q1 zD zB Go.Addr.add
def wres (s t u : Tx) : Tx × List Cf × Nat := if Long [s, t, u] then ([], [], 3) else if 65536 < (weaveL s t u).out.length then ([], [], 3) else ((weaveL s t u).out, (weaveL s t u).l, 0)
theorem zBN {s t u : Tx} (h : Long [s, t, u] ∨ 65536 < (weaveL s t u).out.length) : wres s t u = ([], [], 3) := by
 unfold wres
 rcases h with h | h
 ·rw [if_pos h]
 ·rw [if_pos h]; exact ite_self _
theorem zE8 {s t u : Tx} (h1 : ¬ Long [s, t, u]) (h2 : ¬ 65536 < (weaveL s t u).out.length) : wres s t u = ((weaveL s t u).out, (weaveL s t u).l, 0) := by
 unfold wres
 rw [if_neg h1, if_neg h2]
def WeaveP (s t u : Tx) (m : Mem) (H : SHeap) (v : Value) (m' : Mem) (H' : SHeap) : Prop :=
 m.le m' ∧ ∃ al cl, v = .tuple #[str (wres s t u).1, .slice al (wres s t u).2.1.length cl, .int .i64 ((wres s t u).2.2 : Int)] ∧ H' = .row al cl 138 5 (cfs (wres s t u).2.1) :: H
attribute [local irreducible] kv mapO jn strs sideT sideC weaveL wvGo yE toks
namespace ZD17a
theorem zal {G G' : Prop} (next : G') (h : Bx G' → G := by intro zzn; (first | (refine WL.makeMap .i64 rfl ?_; intro zzf)); (repeat revert zzf); exact zzn.out) : G := h ⟨next⟩
end ZD17a
open ZD17a in
theorem zEg (s t u : Tx) (w0 : World) (m : Mem) (H : SHeap) : Does Tryz.prog 33 #[str s, str t, str u] w0 m H (WeaveP s t u m H) := by
 refine Does.of_body func33 rfl ntmps33 rfl ?_
 by_cases hlong : Long [s, t, u]
 ·have hw := zBN (.inl hlong)
  refine WC.newRow (T := 138) (sz := 5) ?_
  refine stg ?_; intros; rename_i b3
  refine zA func40 ?_ (hs := uB (L := [s, t, u]) (by simp) (yZ (T := 9) (fz := (0, 0)) (L := [str s, str t, str u]) zhs (by unfold strs; rfl) (by simp [strs])))
  rintro v m H9 ⟨rfl, rfl, rfl⟩
  rw [zE hlong]
  try (refine stg ?_; intros)
  exact q_fz (H0 := .row none 0 138 5 [] :: H) ⟨Mem.le.refl _, none, 0, by rw [hw], by rw [hw]; rfl⟩
 ·have hls : s.length ≤ 65536 := Nat.le_of_not_lt fun h => hlong ⟨s, by simp, h⟩
  have hlt : t.length ≤ 65536 := Nat.le_of_not_lt fun h => hlong ⟨t, by simp, h⟩
  have hlu : u.length ≤ 65536 := Nat.le_of_not_lt fun h => hlong ⟨u, by simp, h⟩
  refine stg ?_; intros; rename_i b3
  refine zA func40 ?_ (hs := uB (L := [s, t, u]) (by simp) (yZ (T := 9) (fz := (0, 0)) (L := [str s, str t, str u]) zhs (by unfold strs; rfl) (by simp [strs])))
  rintro v m H9 ⟨rfl, rfl, rfl⟩
  rw [zH hlong]
  try (refine stg ?_; intros)
  refine zA func46 ?_ (hs := uX s (by omega) _ _ _)
  rintro v m1 H1 ⟨hle1, ax, cx, rfl, rfl⟩
  try (refine stg ?_; intros)
  refine zA func46 ?_ (hs := uX t (by omega) _ _ _)
  rintro v m2 H1 ⟨hle2, ay, cy, rfl, rfl⟩
  try (refine stg ?_; intros)
  refine zA func46 ?_ (hs := uX u (by omega) _ _ _)
  rintro v m3 H1 ⟨hle3, az, cz, rfl, rfl⟩
  have hXl := zP s
  have hYl := zP t
  have hZl := zP u
  have hXf := congrArg List.length (yR s)
  have hYf := congrArg List.length (yR t)
  have hZf := congrArg List.length (yR u)
  have hW : wvGo (toks s) (toks t) (toks u) (yE (toks s) (toks t)) (yE (toks s) (toks u)) (toks s) 0 ⟨[], [], 0, 0, 0⟩ = weaveL s t u := by unfold weaveL; rfl
  generalize toks s = X at *
  generalize toks t = Y at *
  generalize toks u = Z at *
  refine WL.rowCap (a := ax) (cap := cx) (T := 9) (sz := 1) (es := strs X) zhs ?_
  intro hcx
  refine WL.rowCap (a := ay) (cap := cy) (T := 9) (sz := 1) (es := strs Y) zhs ?_
  intro hcy
  refine WL.rowCap (a := az) (cap := cz) (T := 9) (sz := 1) (es := strs Z) zhs ?_
  intro hcz
  rw [zY] at hcx hcy hcz
  refine stg ?_; intros; rename_i bx by_ bz bm bm2
  refine zA func67 ?_ (hs := kV (A := X) (B := Y) (by omega) (by omega) hcx hcy (RowR.row (T := 9) (cap := cx) zhs) (RowR.row (T := 9) (cap := cy) zhs))
  rintro v m9 H9 ⟨rfl, a1, c1, rfl, rfl⟩
  have hM := wL X Y
  have hMl := hM.len
  try (refine stg ?_; intros)
  refine WC.weak zsb zpk (zJC (bm := bm) (bm2 := bm2) (bx := bx) (by_ := by_) (bz := bz) (H := .bl bx [.slice ax X.length cx] 83 :: .row ax cx 9 1 (strs X) :: .bl by_ [.slice ay Y.length cy] 83 :: .row ay cy 9 1 (strs Y) :: .bl bz [.slice az Z.length cz] 83 :: .row az cz 9 1 (strs Z) :: .blk bm2 (mapO .i64 []) :: H) hM (by omega) ⟨by omega, by omega⟩ ?_)
  try (refine stg ?_; intros)
  refine zA func67 ?_ (hs := kV (A := X) (B := Z) (by omega) (by omega) hcx hcz (RowR.row (T := 9) (cap := cx) zhs) (RowR.row (T := 9) (cap := cz) zhs))
  rintro v m9 H9 ⟨rfl, a2, c2, rfl, rfl⟩
  have hN := wL X Z
  have hNl := hN.len
  try (refine stg ?_; intros)
  refine WC.weak zsb zpk (zGZ (bm := bm2) (bm2 := bm) (bx := bx) (by_ := by_) (bz := bz) (H := .bl bx [.slice ax X.length cx] 83 :: .row ax cx 9 1 (strs X) :: .bl by_ [.slice ay Y.length cy] 83 :: .row ay cy 9 1 (strs Y) :: .bl bz [.slice az Z.length cz] 83 :: .row az cz 9 1 (strs Z) :: .blk bm (mapO .i64 (kv (yE X Y))) :: H) hN (by omega) ⟨by omega, by omega⟩ ?_)
  refine stg ?_; intros; rename_i bb bl bat
  refine WC.newRow (T := 138) (sz := 5) ?_
  refine WC.newRow (T := 5) (sz := 1) ?_
  refine WC.weak zsb zpk (zGr (X := X) (Y := Y) (Z := Z) (M := yE X Y) (N := yE X Z) (F := weaveL s t u) (bx := bx) (by_ := by_) (bz := bz) (bat := bat) (bl := bl) (bb := bb) (bm := bm) (bm2 := bm2) (H := H) ⟨by omega, by omega, hcx⟩ ⟨by omega, by omega, hcy⟩ ⟨by omega, by omega, hcz⟩ MSt.start MSt.start hW ?_)
  intro w al cl ao ab cb hF hp hq hr hout hL hao hab
  have hFl : (w.side X Y Z X.length Y.length Z.length).out.length ≤ w.out.length + 65536 := by
   show (w.out ++ sideT (jn X w.p X.length) (jn Y w.q Y.length) (jn Z w.r Z.length)).length ≤ _
   have h1 := zDl (jn X w.p X.length) (jn Y w.q Y.length) (jn Z w.r Z.length)
   have h2 := zAQ Y w.q Y.length
   have h3 := zAQ Z w.r Z.length
   rw [List.length_append]; omega
  rw [hF] at hFl
  try (refine stg ?_; intros)
  refine WL.heap (H' := [.bl bx [.slice ax X.length cx] 83, .row ax cx 9 1 (strs X), .bl by_ [.slice ay Y.length cy] 83, .row ay cy 9 1 (strs Y), .bl bz [.slice az Z.length cz] 83, .row az cz 9 1 (strs Z), .bl bat [.int .i64 (w.p : Int), .int .i64 (w.q : Int), .int .i64 (w.r : Int)] 135, .bl bl [.slice al w.l.length cl] 33, .row al cl 138 5 (cfs w.l), .bl bb [.pointer ao, .slice ab w.out.length cb] 111, .row ab cb 5 1 (bCs w.out)] ++ H) zpk ?_
  refine WL.callV rfl func68 rfl rfl (by exact rfl) (by exact rfl) (zFk (X := X) (Y := Y) (Z := Z) (w := w) (n := X.length) (k1 := Y.length) (k2 := Z.length) ⟨by omega, by omega, hcx⟩ ⟨by omega, by omega, hcy⟩ ⟨by omega, by omega, hcz⟩ ⟨hp, by omega⟩ ⟨hq, by omega⟩ ⟨hr, by omega⟩ (by omega) (by omega) hao hab) ?_
  rintro v m4 H9 ⟨rfl, al2, cl2, ao2, ab2, cb2, hao2, hab2, rfl⟩
  rw [hF]
  simp only [List.cons_append, List.nil_append]
  generalize hG : weaveL s t u = G at *
  try (refine stg ?_; intros)
  refine WL.heap (H' := .bl bb [.pointer ao2, .slice ab2 G.out.length cb2] 111 :: .row ab2 cb2 5 1 (bCs G.out) :: .bl bl [.slice al2 G.l.length cl2] 33 :: .row al2 cl2 138 5 (cfs G.l) :: H) zpk ?_
  refine zA func51 ?_ (hs := zBm hab2 (by omega) _ _ _)
  rintro v m5 H9 ⟨rfl, rfl, it, hk, rfl⟩
  refine stg ?_; intros; rename_i b8
  refine zA func40 ?_ (hs := uB (L := [G.out]) (by simp) (yZ (T := 9) (fz := (0, 0)) (L := [str G.out]) zhs (by unfold strs; rfl) (by simp [strs])))
  rintro v m6 H9 ⟨rfl, rfl, rfl⟩
  by_cases hbig : 65536 < G.out.length
  ·have hw := zBN (s := s) (t := t) (u := u) (.inr (by rw [hG]; exact hbig))
   rw [zE (show Long [G.out] from ⟨G.out, by simp, hbig⟩)]
   refine WL.newRow (T := 138) (sz := 5) ?_
   try (refine stg ?_; intros)
   exact q_fz (H0 := .row none 0 138 5 [] :: H) ⟨hle1.trans (hle2.trans hle3), none, 0, by rw [hw], by rw [hw]; rfl⟩
  ·have hw := zE8 (s := s) (t := t) (u := u) hlong (by rw [hG]; exact hbig)
   rw [hG] at hw
   rw [zH (show ¬ Long [G.out] from by rintro ⟨x, hx, hx2⟩; rw [List.mem_singleton] at hx; subst hx; exact hbig hx2)]
   try (refine stg ?_; intros)
   refine wdw 3 ([.bl bl [.slice al2 G.l.length cl2] 33]) ?_
   refine cmg ?_
   refine wa1 0 ?_
   refine WL.heap (H' := .bl bb [.pointer ao2, .slice ab2 G.out.length cb2] 111 :: it :: .bl bl [.slice al2 G.l.length cl2] 33 :: .row al2 cl2 138 5 (cfs G.l) :: H) zpk ?_
   refine zA func51 ?_ (hs := zG1 hab2 (by omega) hk _ _ _)
   rintro v m7 H9 ⟨rfl, rfl, it2, hk2, rfl⟩
   try (refine stg ?_; intros)
   refine waz [] zml ?_
   refine cmg ?_
   refine wdz ?_
   try (refine stg ?_; intros)
   exact q_fz (H0 := .row al2 cl2 138 5 (cfs G.l) :: H) ⟨hle1.trans (hle2.trans hle3), al2, cl2, by rw [hw], by rw [hw]⟩
end ZP
namespace Go.Eng
open Go Go.RowKit
section
variable {t : TypeId} {x y : Operand}
theorem uC {kt : TypeId} {k : ByteArray} {e : Bool} {w : World} (hk : P.underlying kt = some .string) : (Instr.checkKey e 10000 kt (.string k)).run P w = .ok () w := by
 have key : ∀ j, (Instr.checkKey e (j + 1) kt (.string k)).run P w = .ok () w := by
  intro j
  rw [Instr.checkKey]
  simp [run_underlying hk]
 exact key 9999
theorem WL.mapFirst {kt et : TypeId} {b : Nat} {k : ByteArray} {v : Value} {u : Operand} {H' : SHeap} (hx : r.ev x = some (.map (some b))) (hy : r.ev y = some (.string k)) (hv : r.ev u = some v)
  (hu : P.underlying t = some (.map kt et)) (hk : P.underlying kt = some .string) (hr : Repl (.blk b (.map #[] 0)) (.blk b (.map #[⟨.string k, v, 0⟩] 1)) H H')
  (h : WL P ro n w0 ops Q l r ds m H') :
  WL P ro n w0 ops Q (⟨none, .insert t x y u, ty, pos, after, none⟩ :: l) r ds m H :=
 .act (fun m' H'' => m' = m ∧ H'' = H') rfl (fun _ h => by cases h)
  (fun tmps w ho hs => ⟨m, H', w.putObj b (.map #[⟨.string k, v, 0⟩] 1), by
   have hb : w.heap[b]? = some (.map #[] 0) := hs.own _ hr.mem
   have h1 : (getObj b).run P w = .ok (.map #[] 0) w := by simp [getObj, Sem.run, hb]
   have h3 : ∀ o, (setObj b o).run P w = .ok () (w.putObj b o) := fun o => by simp [setObj, Sem.run, hb, World.putObj]
   have h2 : (Instr.mapUpdate t (.map (some b)) (.string k) v).run P w = .ok () (w.putObj b (.map #[⟨.string k, v, 0⟩] 1)) := by
    simp only [Instr.mapUpdate, Sem.run_bind, run_underlying hu, Result.andThen_ok, h1]
    simp only [Sem.run_bind, Sem.run_pure, Result.andThen_ok, uC hk, Instr.findKey, run_underlying hk]
    rw [show Instr.findNow .string (.string k) (#[] : Array MapEntry).toList 0 = some none from rfl]
    simp only [Sem.run_pure, Result.andThen_ok]
    rw [h3]; rfl
   simp only [execOp, ho.ev hx, ho.ev hy, ho.ev hv, h2, Sem.run_bind, Result.andThen_ok]
   try rfl, hs.replObj hr, rfl, rfl⟩)
  (by rintro _ _ ⟨rfl, rfl⟩; exact h)
end
end Go.Eng
namespace ZP
open Go Go.Eng
attribute [local irreducible] WL WC WQ QFun zJ Does Q1 zD zB Go.Addr.add
namespace ZD18a
theorem zal {G G' : Prop} (next : G') (h : Bx G' → G := by intro zzn; (first | (refine WL.makeMap .i64 rfl ?_; intro zzf)); (repeat revert zzf); exact zzn.out) : G := h ⟨next⟩
end ZD18a
open ZD18a in
theorem zKw (s : Tx) (hs : s.length ≤ 65536) (w0 : World) (m : Mem) (H : SHeap) : Does Tryz.prog 21 #[str s] w0 m H (fun v m' H' => m' = m ∧ ∃ (b bm : Nat) (a : Option Addr) (c : Nat), v = .tuple #[.pp b, .int .i64 0] ∧ H' = .bl b [.slice a 1 c, .map (some bm)] 90 :: H) := by
 refine Does.of_body func21 rfl ntmps21 rfl ?_
 refine stg ?_; intros; rename_i b3
 refine zA func40 ?_ (hs := uB (L := [s]) (by simp) (yZ (T := 9) (fz := (0, 0)) (L := [str s]) zhs rfl (by simp [strs])))
 rintro v m H9 ⟨rfl, rfl, rfl⟩
 rw [zH (show ¬ Long [s] from by rintro ⟨x, hx, hx2⟩; rw [List.mem_singleton] at hx; subst hx; omega)]
 refine stg ?_; intros; rename_i bd bm
 refine WL.mapFirst rfl rfl rfl rfl rfl (by repeat (first | exact Repl.here | apply Repl.there)) ?_
 refine stg ?_; intros; rename_i bh
 exact q_fz ⟨rfl, bh, bm, some ⟨bd, 0, none⟩, 1, rfl, rfl⟩
open ZD18a in
theorem zH3 {b n c : Nat} {a : Option Addr} {mp : Value} (w0 : World) (m : Mem) (H : SHeap) : Does Tryz.prog 19 #[.pp b] w0 m (.bl b [.slice a n c, mp] 90 :: H) (Gives (.int .i64 (n : Int)) m (.bl b [.slice a n c, mp] 90 :: H)) := by
 refine Does.of_body func19 rfl ntmps19 rfl ?_
 try (refine stg ?_; intros)
 exact q_fz zgm
end ZP
namespace Go.Eng
open Go
theorem zIY : toks [97, 32, 98, 32, 99] = [[97], [32], [98], [32], [99]] := by decide +kernel
theorem zJq : toks [97, 32, 120, 32, 99] = [[97], [32], [120], [32], [99]] := by decide +kernel
theorem zJz : toks [97, 32, 98, 32, 100] = [[97], [32], [98], [32], [100]] := by decide +kernel
theorem zIi : yE [[97], [32], [98], [32], [99]] [[97], [32], [120], [32], [99]] = [(0, 0), (1, 1), (3, 3), (4, 4)] := by
 have h1 : yA [[97], [32], [98], [32], [99]] [[97], [32], [120], [32], [99]] = 2 := by decide +kernel
 have h2 : wF [[97], [32], [98], [32], [99]] [[97], [32], [120], [32], [99]] = 2 := by decide +kernel
 have h3 : midA [[97], [32], [98], [32], [99]] [[97], [32], [120], [32], [99]] = [[98]] := by decide +kernel
 have h4 : midB [[97], [32], [98], [32], [99]] [[97], [32], [120], [32], [99]] = [[120]] := by decide +kernel
 unfold yE
 rw [h1, h2, h3, h4]
 simp [midL, yS]
 decide
theorem zIx : yE [[97], [32], [98], [32], [99]] [[97], [32], [98], [32], [100]] = [(0, 0), (1, 1), (2, 2), (3, 3)] := by
 have h1 : yA [[97], [32], [98], [32], [99]] [[97], [32], [98], [32], [100]] = 4 := by decide +kernel
 have h2 : wF [[97], [32], [98], [32], [99]] [[97], [32], [98], [32], [100]] = 0 := by decide +kernel
 have h3 : midA [[97], [32], [98], [32], [99]] [[97], [32], [98], [32], [100]] = [[99]] := by decide +kernel
 have h4 : midB [[97], [32], [98], [32], [99]] [[97], [32], [98], [32], [100]] = [[100]] := by decide +kernel
 unfold yE
 rw [h1, h2, h3, h4]
 simp [midL, yS]
 decide
theorem zFg : (weaveL [97, 32, 98, 32, 99] [97, 32, 120, 32, 99] [97, 32, 98, 32, 100]).out = [97, 32, 120, 32, 100] ∧ (weaveL [97, 32, 98, 32, 99] [97, 32, 120, 32, 99] [97, 32, 98, 32, 100]).l = [] := by
 unfold weaveL
 rw [zIY, zJq, zJz, zIi, zIx]
 decide +kernel
end Go.Eng
namespace ZP
open Go Go.Eng
attribute [local irreducible] WL WC WQ QFun zJ Does Q1 zD zB Go.Addr.add
def Tells (v : Value) (m : Mem) (H : SHeap) : Value → Mem → SHeap → Prop := fun u m' H' => m.le m' ∧ u = v ∧ H' = H
theorem Tells.mk {v u : Value} {m m' : Mem} {H : SHeap} (hm : m.le m') (h : u = v) : Tells v m H u m' H := ⟨hm, h, rfl⟩
theorem zAC : wres [97, 32, 98, 32, 99] [97, 32, 120, 32, 99] [97, 32, 98, 32, 100] = ([97, 32, 120, 32, 100], [], 0) := by
 obtain ⟨h1, h2⟩ := zFg
 rw [zE8 (by rintro ⟨x, hx, hx2⟩; simp only [List.mem_cons, List.not_mem_nil, or_false] at hx; rcases hx with rfl | rfl | rfl <;> simp at hx2) (by rw [h1]; decide), h1, h2]
attribute [local irreducible] wres
theorem zAc (w0 : World) (m : Mem) (H : SHeap) : Does Tryz.prog 7 #[] w0 m H (Tells (.bool true) m H) := by
 refine Does.of_body func7 rfl ntmps7 rfl ?_
 try (refine st ?_; intros)
 refine zA func33 ?_ (hs := zEg [97, 32, 98, 32, 99] [97, 32, 120, 32, 99] [97, 32, 98, 32, 100] _ _ _)
 rintro v m1 H1 ⟨hle, al, cl, rfl, rfl⟩
 rw [show (wres [97, 32, 98, 32, 99] [97, 32, 120, 32, 99] [97, 32, 98, 32, 100]).1 = [97, 32, 120, 32, 100] by rw [zAC], show (wres [97, 32, 98, 32, 99] [97, 32, 120, 32, 99] [97, 32, 98, 32, 100]).2.1 = [] by rw [zAC], show (((wres [97, 32, 98, 32, 99] [97, 32, 120, 32, 99] [97, 32, 98, 32, 100]).2.2 : Nat) : Int) = 0 by rw [zAC]; rfl, List.length_nil]
 try (refine st ?_; intros)
 refine zA func21 ?_ (hs := zKw [97] (by decide) _ _ _)
 rintro v m2 H2 ⟨rfl, b, bm, a, c, rfl, rfl⟩
 try (refine st ?_; intros)
 refine zA func19 ?_ (hs := zH3 _ _ _)
 rintro v m3 H3 ⟨rfl, rfl, rfl⟩
 try (refine st ?_; intros)
 exact q_fz (Tells.mk hle (congrArg Value.bool (show dcd (((1 : Nat) : Int) = 1) = true from zE rfl)))
end ZP
namespace Go.Eng
open Go Go.RowKit
abbrev EntT := Nat × List UInt8 × Value
def mapTE (es : List EntT) : List MapEntry := es.map fun e => ⟨.string ⟨e.2.1.toArray⟩, e.2.2, e.1⟩
def mapT (es : List EntT) (c : Nat) : Obj := .map (mapTE es).toArray c
def getT : List EntT → List UInt8 → Option Value
 | [], _ => none
 | e :: es, k => if k = e.2.1 then some e.2.2 else getT es k
def setT : List EntT → List UInt8 → Value → List EntT
 | [], _, _ => []
 | e :: es, k, v => if k = e.2.1 then (e.1, e.2.1, v) :: es else e :: setT es k v
def eraseT : List EntT → List UInt8 → List EntT
 | [], _ => []
 | e :: es, k => if k = e.2.1 then es else e :: eraseT es k
theorem zDJ (es : List EntT) : (mapTE es).length = es.length := List.length_map _
theorem zCs (x : ByteArray) : (x == x) = true := by
 obtain ⟨d⟩ := x
 show (d == d) = true
 simp
theorem zDx (a b : List UInt8) : ((⟨a.toArray⟩ : ByteArray) == ⟨b.toArray⟩) = decide (a = b) := by
 by_cases h : a = b
 ·subst h; rw [zCs, decide_eq_true rfl]
 ·rw [decide_eq_false h]
  show (a.toArray == b.toArray) = false
  simp [h]
theorem jR {k : List UInt8} : ∀ (es : List EntT) (i : Nat), getT es k = none → Instr.findNow .string (.string ⟨k.toArray⟩) (mapTE es) i = some none
 | [], i, _ => rfl
 | e :: es, i, h => by
  rw [getT] at h
  split at h
  ·cases h
  ·next hk =>
   have hs : Instr.sameNow .string (.string ⟨k.toArray⟩) (.string ⟨e.2.1.toArray⟩) = some false := by
    show some _ = _
    rw [zDx, decide_eq_false hk]
   show (match Instr.sameNow .string (.string ⟨k.toArray⟩) (.string ⟨e.2.1.toArray⟩) with
    | some true => some (some (i, e.2.2)) | some false => Instr.findNow .string (.string ⟨k.toArray⟩) (mapTE es) (i + 1) | none => none) = _
   rw [hs]
   exact jR es (i + 1) h
theorem zDC {α β : Type} (f : α → β) : ∀ (l : List α) (j : Nat), (l.map f).eraseIdx j = (l.eraseIdx j).map f
 | [], j => by cases j <;> rfl
 | a :: l, 0 => rfl
 | a :: l, j + 1 => by
  show f a :: (l.map f).eraseIdx j = f a :: (l.eraseIdx j).map f
  rw [zDC f l j]
theorem qU {k : List UInt8} : ∀ (es : List EntT), getT es k = none → eraseT es k = es
 | [], _ => rfl
 | e :: es, h => by
  rw [getT] at h
  split at h
  ·cases h
  ·next hk => rw [eraseT, if_neg hk, qU es h]
theorem jQ {k : List UInt8} {z : Value} : ∀ (es : List EntT) (i : Nat), getT es k = some z → ∃ j, Instr.findNow .string (.string ⟨k.toArray⟩) (mapTE es) i = some (some (i + j, z)) ∧ (∃ e, es[j]? = some e ∧ e.2.1 = k) ∧
  (∀ v, setT es k v = es.modify j fun e => (e.1, e.2.1, v)) ∧ eraseT es k = es.eraseIdx j
 | [], i, h => by cases h
 | e :: es, i, h => by
  rw [getT] at h
  split at h
  ·next hk =>
   cases h
   refine ⟨0, ?_, ⟨e, rfl, hk.symm⟩, fun v => ?_, ?_⟩
   ·show (match Instr.sameNow .string (.string ⟨k.toArray⟩) (.string ⟨e.2.1.toArray⟩) with
     | some true => some (some (i, e.2.2)) | some false => Instr.findNow .string (.string ⟨k.toArray⟩) (mapTE es) (i + 1) | none => none) = _
    rw [show Instr.sameNow .string (.string ⟨k.toArray⟩) (.string ⟨e.2.1.toArray⟩) = some true by show some _ = _; rw [zDx, decide_eq_true hk]]
    rfl
   ·rw [setT, if_pos hk]; rfl
   ·rw [eraseT, if_pos hk]; rfl
  ·next hk =>
   obtain ⟨j, h1, ⟨x, h2, h3⟩, h4, h5⟩ := jQ es (i + 1) h
   refine ⟨j + 1, ?_, ⟨x, by simpa using h2, h3⟩, fun v => ?_, ?_⟩
   ·show (match Instr.sameNow .string (.string ⟨k.toArray⟩) (.string ⟨e.2.1.toArray⟩) with
     | some true => some (some (i, e.2.2)) | some false => Instr.findNow .string (.string ⟨k.toArray⟩) (mapTE es) (i + 1) | none => none) = _
    rw [show Instr.sameNow .string (.string ⟨k.toArray⟩) (.string ⟨e.2.1.toArray⟩) = some false by show some _ = _; rw [zDx, decide_eq_false hk]]
    rw [show i + (j + 1) = i + 1 + j by omega]
    exact h1
   ·rw [setT, if_neg hk, h4]; simp
   ·rw [eraseT, if_neg hk, h5]; simp
section
variable {t : TypeId} {x y : Operand}
theorem WL.makeMapT (hd : Nat.blt d n = true) (h : ∀ b, WL P ro n w0 ops Q l ((d, .map (some b)) :: r) ds m (.blk b (mapT [] 0) :: H)) :
  WL P ro n w0 ops Q (⟨some d, .makeMap t none, ty, pos, after, none⟩ :: l) r ds m H :=
 .gen (fun v m' H' => ∃ b, v = .map (some b) ∧ m' = m ∧ H' = .blk b (mapT [] 0) :: H) hd (fun _ h => by cases h)
  (fun tmps w ho hs => ⟨_, m, _, w.alloc (mapT [] 0), by
   simp only [execOp, Instr.makeMap, Option.map_none, Sem.run_bind, Sem.run_pure, run_newObj_alloc, Result.andThen_ok]
   rfl, hs.alloc _, w.heap.size, rfl, rfl, rfl⟩)
  (by rintro _ _ _ ⟨b, rfl, rfl, rfl⟩; exact h b)
theorem zEs {kt et : TypeId} {b : Nat} {k : List UInt8} {z : Value} {es : List EntT} {c : Nat} {ok : Bool} {w : World} (hb : w.heap[b]? = some (mapT es c))
  (hu : P.underlying t = some (.map kt et)) (hk : P.underlying kt = some .string) (hz : ∀ w, (zeroValue et).run P w = .ok z w) :
  (Instr.lookup t (.map (some b)) (.string ⟨k.toArray⟩) ok).run P w = .ok (if ok then .tuple #[(getT es k).getD z, .bool (getT es k).isSome] else (getT es k).getD z) w := by
 have h1 : (getObj b).run P w = .ok (mapT es c) w := by simp [getObj, Sem.run, hb, mapT]
 simp only [Instr.lookup, Sem.run_bind, run_underlying hu, Result.andThen_ok, h1]
 simp only [mapT, Sem.run_bind, Sem.run_pure, Result.andThen_ok, uC hk, Instr.findKey, run_underlying hk]
 cases hl : getT es k with
 | none =>
  rw [jR es 0 hl]
  cases ok <;> simp [hz, Result.andThen]
 | some v =>
  obtain ⟨j, hj, _⟩ := jQ es 0 hl
  rw [hj]
  cases ok <;> simp [Result.andThen]
theorem WL.lookT {kt et : TypeId} {b c : Nat} {k : List UInt8} {z : Value} {es : List EntT} (hx : r.ev x = some (.map (some b))) (hy : r.ev y = some (str k)) (hm : Item.blk b (mapT es c) ∈ H)
  (hu : P.underlying t = some (.map kt et)) (hk : P.underlying kt = some .string) (hz : ∀ w, (zeroValue et).run P w = .ok z w) (hd : Nat.blt d n = true)
  (h : WL P ro n w0 ops Q l ((d, .tuple #[(getT es k).getD z, .bool (getT es k).isSome]) :: r) ds m H) :
  WL P ro n w0 ops Q (⟨some d, .lookup t x y true, ty, pos, after, none⟩ :: l) r ds m H :=
 .gen (fun v m' H' => v = .tuple #[(getT es k).getD z, .bool (getT es k).isSome] ∧ m' = m ∧ H' = H) hd (fun _ h => by cases h)
  (fun tmps w ho hs => ⟨_, m, H, w, by
   have h2 := zEs (P := P) (t := t) (k := k) (ok := true) (hs.own _ hm) hu hk hz
   simp only [if_true] at h2
   simp only [execOp, ho.ev hx, ho.ev hy, Sem.run_bind, h2, Result.andThen_ok, Sem.run_pure], hs, rfl, rfl, rfl⟩)
  (by rintro _ _ _ ⟨rfl, rfl, rfl⟩; exact h)
theorem WL.lookT1 {kt et : TypeId} {b c : Nat} {k : List UInt8} {z : Value} {es : List EntT} (hx : r.ev x = some (.map (some b))) (hy : r.ev y = some (str k)) (hm : Item.blk b (mapT es c) ∈ H)
  (hu : P.underlying t = some (.map kt et)) (hk : P.underlying kt = some .string) (hz : ∀ w, (zeroValue et).run P w = .ok z w) (hd : Nat.blt d n = true)
  (h : WL P ro n w0 ops Q l ((d, (getT es k).getD z) :: r) ds m H) :
  WL P ro n w0 ops Q (⟨some d, .lookup t x y false, ty, pos, after, none⟩ :: l) r ds m H :=
 .gen (fun v m' H' => v = (getT es k).getD z ∧ m' = m ∧ H' = H) hd (fun _ h => by cases h)
  (fun tmps w ho hs => ⟨_, m, H, w, by
   have h2 := zEs (P := P) (t := t) (k := k) (ok := false) (hs.own _ hm) hu hk hz
   simp only [Bool.false_eq_true, if_false] at h2
   simp only [execOp, ho.ev hx, ho.ev hy, Sem.run_bind, h2, Result.andThen_ok, Sem.run_pure], hs, rfl, rfl, rfl⟩)
  (by rintro _ _ _ ⟨rfl, rfl, rfl⟩; exact h)
def putM (es : List EntT) (c : Nat) (k : List UInt8) (v : Value) : List EntT := if (getT es k).isSome then setT es k v else es ++ [(c, k, v)]
def putC (es : List EntT) (c : Nat) (k : List UInt8) : Nat := if (getT es k).isSome then c else c + 1
theorem zFW {kt et : TypeId} {b c : Nat} {k : List UInt8} {v : Value} {es : List EntT} {w : World} (hb : w.heap[b]? = some (mapT es c)) (hu : P.underlying t = some (.map kt et)) (hk : P.underlying kt = some .string) :
  (Instr.mapUpdate t (.map (some b)) (.string ⟨k.toArray⟩) v).run P w = .ok () (w.putObj b (mapT (putM es c k v) (putC es c k))) := by
 have h1 : (getObj b).run P w = .ok (mapT es c) w := by simp [getObj, Sem.run, hb, mapT]
 have h3 : ∀ o, (setObj b o).run P w = .ok () (w.putObj b o) := fun o => by simp [setObj, Sem.run, hb, World.putObj, mapT]
 simp only [Instr.mapUpdate, Sem.run_bind, run_underlying hu, Result.andThen_ok, h1]
 simp only [mapT, Sem.run_bind, Sem.run_pure, Result.andThen_ok, uC hk, Instr.findKey, run_underlying hk]
 cases hl : getT es k with
 | none =>
  rw [jR es 0 hl]
  simp only [Sem.run_pure, Result.andThen_ok]
  rw [h3, show putM es c k v = es ++ [(c, k, v)] by unfold putM; rw [hl]; rfl, show putC es c k = c + 1 by unfold putC; rw [hl]; rfl]
  congr 2
  simp [mapTE]
 | some z =>
  obtain ⟨j, hj, ⟨e, he, hek⟩, hset, _⟩ := jQ es 0 hl
  rw [hj]
  have hkey : (((mapTE es).toArray[0 + j]?).map (·.key)).getD (Value.string ⟨k.toArray⟩) = .string ⟨k.toArray⟩ := by
   rw [Nat.zero_add]
   simp [mapTE, he, hek]
  have hbits : ∀ q : ByteArray, Instr.sameBits 10000 (.string q) (.string q) = true := fun q => zCs q
  simp only [Sem.run_pure, Result.andThen_ok, Sem.run_bind, hkey, Instr.keyThatStays, hbits, if_true]
  rw [h3, show putM es c k v = setT es k v by unfold putM; rw [hl]; rfl, show putC es c k = c by unfold putC; rw [hl]; rfl, hset v]
  congr 2
  show Obj.map _ c = Obj.map _ c
  congr 1
  rw [Nat.zero_add]
  apply Array.ext'
  rw [Array.toList_modify]
  show (mapTE es).modify j _ = mapTE _
  apply List.ext_getElem?
  intro q
  rw [List.getElem?_modify]
  unfold mapTE
  rw [List.getElem?_map, List.getElem?_map, List.getElem?_modify]
  by_cases hq : j = q
  ·subst hq
   rw [he]
   simp [hek]
  ·simp [hq]
theorem WL.putT {kt et : TypeId} {b c : Nat} {k : List UInt8} {v : Value} {es : List EntT} {u : Operand} {H' : SHeap} (hx : r.ev x = some (.map (some b))) (hy : r.ev y = some (str k)) (hv : r.ev u = some v)
  (hu : P.underlying t = some (.map kt et)) (hk : P.underlying kt = some .string) (hr : Repl (.blk b (mapT es c)) (.blk b (mapT (putM es c k v) (putC es c k))) H H') (h : WL P ro n w0 ops Q l r ds m H') :
  WL P ro n w0 ops Q (⟨none, .insert t x y u, ty, pos, after, none⟩ :: l) r ds m H :=
 .act (fun m' H'' => m' = m ∧ H'' = H') rfl (fun _ h => by cases h)
  (fun tmps w ho hs => ⟨m, H', w.putObj b (mapT (putM es c k v) (putC es c k)), by
   have h2 := zFW (P := P) (t := t) (k := k) (v := v) (hs.own _ hr.mem) hu hk
   simp only [execOp, ho.ev hx, ho.ev hy, ho.ev hv, h2, Sem.run_bind, Result.andThen_ok]
   try rfl, hs.replObj hr, rfl, rfl⟩)
  (by rintro _ _ ⟨rfl, rfl⟩; exact h)
theorem WL.lenMapT {kt et : TypeId} {b c : Nat} {es : List EntT} (hx : r.ev x = some (.map (some b))) (hm : Item.blk b (mapT es c) ∈ H) (hu : P.underlying t = some (.map kt et)) (hd : Nat.blt d n = true)
  (h : WL P ro n w0 ops Q l ((d, .int .i64 (es.length : Int)) :: r) ds m H) :
  WL P ro n w0 ops Q (⟨some d, .call ⟨.builtin .len, #[x], #[t]⟩, ty, pos, after, none⟩ :: l) r ds m H :=
 .gen (fun v m' H' => v = .int .i64 (es.length : Int) ∧ m' = m ∧ H' = H) hd (fun _ h => by cases h)
  (fun tmps w ho hs => ⟨_, m, H, w, by
   have hb : w.heap[b]? = some (mapT es c) := hs.own _ hm
   have h1 : (getObj b).run P w = .ok (mapT es c) w := by simp [getObj, Sem.run, hb, mapT]
   simp only [execOp, resolve, invoke, builtin, Builtin.len_, Sem.run_bind, Sem.run_pure, Result.andThen_ok, List.map_toArray, List.map_cons, List.map_nil, ho.ev hx]
   show (Sem.run P ((underlying t).bind _) w).andThen _ = _
   rw [Sem.run_bind', run_underlying hu, Result.andThen_ok]
   show (Sem.run P ((getObj b).bind _) w).andThen _ = _
   rw [Sem.run_bind', h1, Result.andThen_ok]
   show Result.ok (Next.value (goInt (mapTE es).toArray.size)) w = _
   rw [List.size_toArray, zDJ]; rfl, hs, rfl, rfl, rfl⟩)
  (by rintro _ _ _ ⟨rfl, rfl, rfl⟩; exact h)
theorem WL.actV {dst : Option Nat} {op : Op} (K : Mem → SHeap → Prop) (hdst : dst = none) (hnd : ∀ c, op ≠ .defer c)
  (hrun : ∀ tmps w, r.ok n tmps → Sat w0 m H w → ∃ v m' H' w', (execOp (Act.mk tmps (marks ds)).eval ⟨dst, op, ty, pos, after, none⟩).run P w = .ok (.value v) w' ∧ Sat w0 m' H' w' ∧ K m' H')
  (h : ∀ m' H', K m' H' → WL P ro n w0 ops Q l r ds m' H') : WL P ro n w0 ops Q (⟨dst, op, ty, pos, after, none⟩ :: l) r ds m H := by
 subst hdst
 intro tmps w ho hs
 obtain ⟨v, m', H', w', hr, hs', hK⟩ := hrun tmps w ho hs
 unfold wpListIn
 simp only [Region.wanted, if_true]
 refine ⟨fun f _ => jA ro f, ?_⟩
 rw [w6 (FW ro).round _ _ hnd, hr]
 exact h m' H' hK _ w' ho hs'
theorem WL.deleteT {kt et kt2 : TypeId} {b c : Nat} {k : List UInt8} {es : List EntT} {H' : SHeap} (hx : r.ev x = some (.map (some b))) (hy : r.ev y = some (str k)) (hu : P.underlying t = some (.map kt et)) (hk : P.underlying kt = some .string)
  (hr : Repl (.blk b (mapT es c)) (.blk b (mapT (eraseT es k) c)) H H') (h : WL P ro n w0 ops Q l r ds m H') :
  WL P ro n w0 ops Q (⟨none, .call ⟨.builtin .delete, #[x, y], #[t, kt2]⟩, ty, pos, after, none⟩ :: l) r ds m H :=
 .actV (fun m' H'' => m' = m ∧ H'' = H') rfl (fun _ h => by cases h)
  (fun tmps w ho hs => ⟨.tuple #[], m, H', w.putObj b (mapT (eraseT es k) c), by
   have hb : w.heap[b]? = some (mapT es c) := hs.own _ hr.mem
   have h1 : (getObj b).run P w = .ok (mapT es c) w := by simp [getObj, Sem.run, hb, mapT]
   have h3 : ∀ o, (setObj b o).run P w = .ok () (w.putObj b o) := fun o => by simp [setObj, Sem.run, hb, World.putObj, mapT]
   have h2 : ∀ q, (Builtin.delete_ #[t, kt2] q #[.map (some b), .string ⟨k.toArray⟩]).run P w = .ok (.tuple #[]) (w.putObj b (mapT (eraseT es k) c)) := fun q => by
    simp only [Builtin.delete_, List.getElem?_toArray, List.getElem?_cons_zero, List.getElem?_cons_succ, Sem.run_bind, run_underlying hu, Result.andThen_ok, h1]
    simp only [mapT, Sem.run_bind, Sem.run_pure, Result.andThen_ok, uC hk, Instr.findKey, run_underlying hk]
    cases hl : getT es k with
    | none =>
     rw [jR es 0 hl]
     simp only [Sem.run_bind, h3, Sem.run_pure, Result.andThen_ok]
     rw [qU es hl]
    | some z =>
     obtain ⟨j, hj, ⟨e, he, hek⟩, _, hera⟩ := jQ es 0 hl
     rw [hj]
     simp only [Sem.run_bind, h3, Sem.run_pure, Result.andThen_ok]
     rw [hera]
     simp only [Nat.zero_add]
     congr 2
     show Obj.map _ c = Obj.map _ c
     congr 1
     apply Array.ext'
     rw [Array.toList_eraseIdxIfInBounds]
     exact zDC _ es j
   simp only [execOp, resolve, invoke, builtin, Sem.run_bind, Sem.run_pure, Result.andThen_ok, List.map_toArray, List.map_cons, List.map_nil, ho.ev hx, ho.ev hy]
   first
    | (rw [h2]; rfl)
    | (simp only [h2, Result.andThen_ok]; try rfl), hs.replObj hr, rfl, rfl⟩)
  (by rintro _ _ ⟨rfl, rfl⟩; exact h)
end
end Go.Eng
namespace Go.Eng
open Go Go.RowKit
theorem Repl.same {i : Item} : ∀ {H : SHeap}, i ∈ H → Repl i i H H
 | j :: H, h => by
  rcases List.mem_cons.1 h with h | h
  ·subst h; exact Repl.here
  ·exact Repl.there (Repl.same h)
section
variable {t : TypeId} {x y : Operand}
theorem WL.look1 {q q' : IntKind} {kt et : TypeId} {b : Nat} {k : Int} {z : Value} {kvs : List (Int × Value)} (hx : r.ev x = some (.map (some b))) (hy : r.ev y = some (.int q k)) (hm : Item.blk b (mapO q kvs) ∈ H)
  (hu : P.underlying t = some (.map kt et)) (hk : P.underlying kt = some (.int q')) (hz : ∀ w, (zeroValue et).run P w = .ok z w) (hd : Nat.blt d n = true)
  (h : WL P ro n w0 ops Q l ((d, (kvs.lookup k).getD z) :: r) ds m H) :
  WL P ro n w0 ops Q (⟨some d, .lookup t x y false, ty, pos, after, none⟩ :: l) r ds m H :=
 .gen (fun v m' H' => v = (kvs.lookup k).getD z ∧ m' = m ∧ H' = H) hd (fun _ h => by cases h)
  (fun tmps w ho hs => ⟨_, m, H, w, by
   have hb : w.heap[b]? = some (mapO q kvs) := hs.own _ hm
   have h1 : (getObj b).run P w = .ok (mapO q kvs) w := by simp [getObj, Sem.run, hb, mapO]
   have h2 : (Instr.lookup t (.map (some b)) (.int q k) false).run P w = .ok ((kvs.lookup k).getD z) w := by
    simp only [Instr.lookup, Sem.run_bind, run_underlying hu, Result.andThen_ok, h1]
    simp only [mapO, Sem.run_bind, Sem.run_pure, Result.andThen_ok, vU hk, Instr.findKey, run_underlying hk]
    cases hl : kvs.lookup k with
    | none =>
     rw [jE q q' k kvs 0 0 hl]
     simp [hz, Result.andThen]
    | some v =>
     obtain ⟨j, hj⟩ := zBr q q' k v kvs 0 0 hl
     rw [hj]
     simp [Result.andThen]
   simp only [execOp, ho.ev hx, ho.ev hy, Sem.run_bind, h2, Result.andThen_ok, Sem.run_pure], hs, rfl, rfl, rfl⟩)
  (by rintro _ _ _ ⟨rfl, rfl, rfl⟩; exact h)
theorem zHq (q q' : IntKind) (k : Int) (z : Value) : ∀ (l : List (Int × Value)) (i n : Nat), l.lookup k = some z → ∃ j, Instr.findNow (.int q') (.int q k) (mapE q n l) i = some (some (i + j, z)) ∧ (mapE q n l)[j]? = some ⟨.int q k, z, n + j⟩
 | [], i, n, h => by cases h
 | (a, v) :: l, i, n, h => by
  rw [List.lookup_cons] at h
  cases hb : k == a with
  | true =>
   rw [hb] at h
   cases h
   have e : k = a := by simpa using hb
   subst e
   exact ⟨0, by simp only [mapE, Instr.findNow, Instr.sameNow, if_true, hb]; rfl, rfl⟩
  | false =>
   rw [hb] at h
   obtain ⟨j, hj, hj2⟩ := zHq q q' k z l (i + 1) (n + 1) h
   refine ⟨j + 1, ?_, ?_⟩
   ·simp only [mapE, Instr.findNow, Instr.sameNow, if_true, hb]
    rw [show i + (j + 1) = i + 1 + j by omega]
    exact hj
   ·rw [show n + (j + 1) = n + 1 + j by omega]
    simpa [mapE] using hj2
theorem zEO {q q' : IntKind} {kt et : TypeId} {b : Nat} {k : Int} {v : Value} {kvs : List (Int × Value)} {w : World} (hb : w.heap[b]? = some (mapO q kvs)) (hu : P.underlying t = some (.map kt et)) (hk : P.underlying kt = some (.int q'))
  (hl : kvs.lookup k = some v) : (Instr.mapUpdate t (.map (some b)) (.int q k) v).run P w = .ok () (w.putObj b (mapO q kvs)) := by
 have h1 : (getObj b).run P w = .ok (mapO q kvs) w := by simp [getObj, Sem.run, hb, mapO]
 have h3 : ∀ o, (setObj b o).run P w = .ok () (w.putObj b o) := fun o => by simp [setObj, Sem.run, hb, mapO, World.putObj]
 obtain ⟨j, hj, hj2⟩ := zHq q q' k v kvs 0 0 hl
 simp only [Instr.mapUpdate, Sem.run_bind, run_underlying hu, Result.andThen_ok, h1]
 simp only [mapO, Sem.run_bind, Sem.run_pure, Result.andThen_ok, vU hk, Instr.findKey, run_underlying hk]
 rw [hj]
 have hkey : (((mapE q 0 kvs).toArray[0 + j]?).map (·.key)).getD (Value.int q k) = .int q k := by
  rw [Nat.zero_add]
  simp [hj2]
 have hbits : Instr.sameBits 10000 (Value.int q k) (Value.int q k) = true := by
  rw [Instr.sameBits]
  simp
 simp only [Sem.run_pure, Result.andThen_ok, Sem.run_bind, hkey, Instr.keyThatStays, hbits, if_true, h3]
 congr 2
 show Obj.map _ _ = Obj.map _ _
 congr 1
 rw [Nat.zero_add]
 apply Array.ext'
 rw [Array.toList_modify]
 show (mapE q 0 kvs).modify j _ = mapE q 0 kvs
 apply List.ext_getElem?
 intro p
 rw [List.getElem?_modify]
 by_cases hp : j = p
 ·subst hp
  rw [hj2]
  simp
 ·simp [hp]
theorem WL.mapSame {q q' : IntKind} {kt et : TypeId} {b : Nat} {k : Int} {v : Value} {u : Operand} {kvs : List (Int × Value)} (hx : r.ev x = some (.map (some b))) (hy : r.ev y = some (.int q k)) (hv : r.ev u = some v)
  (hm : Item.blk b (mapO q kvs) ∈ H) (hu : P.underlying t = some (.map kt et)) (hk : P.underlying kt = some (.int q')) (hl : kvs.lookup k = some v)
  (h : WL P ro n w0 ops Q l r ds m H) :
  WL P ro n w0 ops Q (⟨none, .mapUpdate t x y u, ty, pos, after, none⟩ :: l) r ds m H :=
 .act (fun m' H'' => m' = m ∧ H'' = H) rfl (fun _ h => by cases h)
  (fun tmps w ho hs => ⟨m, H, w.putObj b (mapO q kvs), by
   have h2 := zEO (P := P) (t := t) (hs.own _ hm) hu hk hl
   simp only [execOp, ho.ev hx, ho.ev hy, ho.ev hv, h2, Sem.run_bind, Result.andThen_ok]
   try rfl, by
   exact hs.replObj (Repl.same hm), rfl, rfl⟩)
  (by rintro _ _ ⟨rfl, rfl⟩; exact h)
theorem WL.mapOne {q q' : IntKind} {kt et : TypeId} {b : Nat} {k : Int} {v : Value} {u : Operand} {kvs : List (Int × Value)} {H' : SHeap} (hx : r.ev x = some (.map (some b))) (hy : r.ev y = some (.int q k)) (hv : r.ev u = some v)
  (hu : P.underlying t = some (.map kt et)) (hk : P.underlying kt = some (.int q')) (hr : Repl (.blk b (mapO q kvs)) (.blk b (mapO q (kvs ++ [(k, v)]))) H H') (hl : kvs.lookup k = none)
  (h : WL P ro n w0 ops Q l r ds m H') :
  WL P ro n w0 ops Q (⟨none, .insert t x y u, ty, pos, after, none⟩ :: l) r ds m H :=
 .act (fun m' H'' => m' = m ∧ H'' = H') rfl (fun _ h => by cases h)
  (fun tmps w ho hs => ⟨m, H', w.putObj b (mapO q (kvs ++ [(k, v)])), by
   have hb : w.heap[b]? = some (mapO q kvs) := hs.own _ hr.mem
   have h1 : (getObj b).run P w = .ok (mapO q kvs) w := by simp [getObj, Sem.run, hb, mapO]
   have h3 : ∀ o, (setObj b o).run P w = .ok () (w.putObj b o) := fun o => by simp [setObj, Sem.run, hb, mapO, World.putObj]
   have e1 : Obj.map ((mapE q 0 kvs).toArray.push ⟨.int q k, v, kvs.length⟩) (kvs.length + 1) = mapO q (kvs ++ [(k, v)]) := by
    unfold mapO
    rw [zBh, Nat.zero_add]
    simp
   have h2 : (Instr.mapUpdate t (.map (some b)) (.int q k) v).run P w = .ok () (w.putObj b (mapO q (kvs ++ [(k, v)]))) := by
    simp only [Instr.mapUpdate, Sem.run_bind, run_underlying hu, Result.andThen_ok, h1]
    simp only [mapO, Sem.run_bind, Sem.run_pure, Result.andThen_ok, vU hk, Instr.findKey, run_underlying hk]
    rw [jE q q' k kvs 0 0 hl]
    simp only [Sem.run_pure, Result.andThen_ok]
    rw [e1, h3]; rfl
   simp only [execOp, ho.ev hx, ho.ev hy, ho.ev hv, h2, Sem.run_bind, Result.andThen_ok]
   try rfl, hs.replObj hr, rfl, rfl⟩)
  (by rintro _ _ ⟨rfl, rfl⟩; exact h)
theorem WL.putU {kt et : TypeId} {b c : Nat} {k : List UInt8} {v : Value} {es : List EntT} {u : Operand} {H' : SHeap} (hx : r.ev x = some (.map (some b))) (hy : r.ev y = some (str k)) (hv : r.ev u = some v)
  (hu : P.underlying t = some (.map kt et)) (hk : P.underlying kt = some .string) (hr : Repl (.blk b (mapT es c)) (.blk b (mapT (putM es c k v) (putC es c k))) H H') (h : WL P ro n w0 ops Q l r ds m H') :
  WL P ro n w0 ops Q (⟨none, .mapUpdate t x y u, ty, pos, after, none⟩ :: l) r ds m H :=
 .act (fun m' H'' => m' = m ∧ H'' = H') rfl (fun _ h => by cases h)
  (fun tmps w ho hs => ⟨m, H', w.putObj b (mapT (putM es c k v) (putC es c k)), by
   have h2 := zFW (P := P) (t := t) (k := k) (v := v) (hs.own _ hr.mem) hu hk
   simp only [execOp, ho.ev hx, ho.ev hy, ho.ev hv, h2, Sem.run_bind, Result.andThen_ok]
   try rfl, hs.replObj hr, rfl, rfl⟩)
  (by rintro _ _ ⟨rfl, rfl⟩; exact h)
end
end Go.Eng
namespace Go.Eng
open Go Go.RowKit
theorem Repl.exists {i j : Item} : ∀ {H : SHeap}, i ∈ H → ∃ H', Repl i j H H'
 | k :: H, h => by
  rcases List.mem_cons.1 h with h | h
  ·subst h; exact ⟨_, Repl.here⟩
  ·obtain ⟨H', h'⟩ := Repl.exists h
   exact ⟨_, Repl.there h'⟩
theorem zD8 {es : List EntT} {e : MapEntry} (h : e ∈ mapTE es) : ∃ x ∈ es, e = ⟨.string ⟨x.2.1.toArray⟩, x.2.2, x.1⟩ := by
 obtain ⟨x, hx, rfl⟩ := List.mem_map.1 h
 exact ⟨x, hx, rfl⟩
section
variable {t : TypeId} {x y : Operand}
theorem WL.rangeT {kt et : TypeId} {b c : Nat} {es : List EntT} (hx : r.ev x = some (.map (some b))) (hm : Item.blk b (mapT es c) ∈ H) (hu : P.underlying t = some (.map kt et)) (hd : Nat.blt d n = true)
  (h : ∀ bi, WL P ro n w0 ops Q l ((d, .pointer (some ⟨bi, 0, none⟩)) :: r) ds m (.blk bi (.mapIter (some b) c #[] c) :: H)) :
  WL P ro n w0 ops Q (⟨some d, .range t x, ty, pos, after, none⟩ :: l) r ds m H :=
 .gen (fun v m' H' => ∃ bi, v = .pointer (some ⟨bi, 0, none⟩) ∧ m' = m ∧ H' = .blk bi (.mapIter (some b) c #[] c) :: H) hd (fun _ h => by cases h)
  (fun tmps w ho hs => ⟨_, m, _, w.alloc (.mapIter (some b) c #[] c), by
   have hb : w.heap[b]? = some (mapT es c) := hs.own _ hm
   have h1 : (getObj b).run P w = .ok (mapT es c) w := by simp [getObj, Sem.run, hb, mapT]
   simp only [execOp, Instr.range, ho.ev hx, Sem.run_bind, run_underlying hu, Result.andThen_ok, h1]
   simp only [mapT, Sem.run_bind, Sem.run_pure, run_newObj_alloc, Result.andThen_ok], hs.alloc _, w.heap.size, rfl, rfl, rfl⟩)
  (by rintro _ _ _ ⟨b, rfl, rfl, rfl⟩; exact h b)
theorem WL.nextT {b br since c c0 : Nat} {seen : Array Nat} {es : List EntT} (hx : r.ev x = some (.pointer (some ⟨br, 0, none⟩))) (hi : Item.blk br (.mapIter (some b) since seen c0) ∈ H) (hm : Item.blk b (mapT es c) ∈ H)
  (hold : ∀ e ∈ es, e.1 < since) (hsc : since ≤ c0) (hd : Nat.blt d n = true)
  (h0 : (∀ e ∈ es, e.1 ∈ seen.toList) → WL P ro n w0 ops Q l ((d, .tuple #[.bool false]) :: r) ds m H)
  (h1 : ∀ e ∈ es, e.1 ∉ seen.toList → ∀ H', Repl (.blk br (.mapIter (some b) since seen c0)) (.blk br (.mapIter (some b) since (seen.push e.1) c)) H H' →
   WL P ro n w0 ops Q l ((d, .tuple #[.bool true, str e.2.1, e.2.2]) :: r) ds m H') :
  WL P ro n w0 ops Q (⟨some d, .next x false, ty, pos, after, none⟩ :: l) r ds m H := by
 refine .gen (fun v m' H' => m' = m ∧ ((v = .tuple #[.bool false] ∧ H' = H ∧ ∀ e ∈ es, e.1 ∈ seen.toList) ∨
  ∃ e ∈ es, e.1 ∉ seen.toList ∧ v = .tuple #[.bool true, str e.2.1, e.2.2] ∧ Repl (.blk br (.mapIter (some b) since seen c0)) (.blk br (.mapIter (some b) since (seen.push e.1) c)) H H')) hd (fun _ h => by cases h) ?_ ?_
 ·intro tmps w ho hs
  have hr : w.heap[br]? = some (.mapIter (some b) since seen c0) := hs.own _ hi
  have hb : w.heap[b]? = some (.map (mapTE es).toArray c) := hs.own _ hm
  have hrun := run_next_at (P := P) w ty br b since c0 seen (mapTE es).toArray c hr hb (fun e he => by
   obtain ⟨x, hx, rfl⟩ := zD8 (by simpa using he)
   exact hold x hx) hsc
  have hex : (execOp (Act.mk tmps (marks ds)).eval ⟨some d, .next x false, ty, pos, after, none⟩).run P w = ((Instr.next (.pointer (some ⟨br, 0, none⟩)) false ty).run P w).andThen fun v w => .ok (.value v) w := by
   simp only [execOp, ho.ev hx, Sem.run_bind]
   rfl
  rcases hrun with ⟨hz, hrun⟩ | ⟨e, he, w1, hw1, hrun⟩
  ·refine ⟨_, m, H, w, ?_, hs, rfl, .inl ⟨rfl, rfl, fun e he => ?_⟩⟩
   ·rw [hex, hrun]; rfl
   ·have hz' : leftOf (mapTE es).toArray seen = #[] := Array.eq_empty_of_size_eq_zero hz
    unfold leftOf at hz'
    rw [Array.filter_eq_empty_iff] at hz'
    have := hz' (⟨.string ⟨e.2.1.toArray⟩, e.2.2, e.1⟩ : MapEntry) (by
     rw [List.mem_toArray]
     exact List.mem_map.2 ⟨e, he, rfl⟩)
    simpa using this
  ·unfold leftOf at he
   have he' : e ∈ (mapTE es).toArray ∧ seen.contains e.born = false := by simpa using he
   obtain ⟨x, hx, rfl⟩ := zD8 (by simpa using he'.1)
   obtain ⟨H', hR⟩ := Repl.exists (j := .blk br (.mapIter (some b) since (seen.push x.1) c)) hi
   have hs1 : Sat w0 m H w1 := by
    rcases hw1 with rfl | rfl
    ·exact hs
    ·exact hs.drew
   refine ⟨_, m, H', w1.putObj br (.mapIter (some b) since (seen.push x.1) c), ?_, hs1.replObj hR, rfl, .inr ⟨x, hx, ?_, rfl, hR⟩⟩
   ·rw [hex, hrun]; rfl
   ·have := he'.2
    simpa using this
 ·rintro v m' H' ⟨rfl, ⟨rfl, rfl, hall⟩ | ⟨e, he, hne, rfl, hR⟩⟩
  ·exact h0 hall
  ·exact h1 e he hne H' hR
theorem WL.entryT {b br since c c0 : Nat} {seen : Array Nat} {es : List EntT} {e : EntT} (hx : r.ev x = some (.pointer (some ⟨br, 0, none⟩))) (hi : Item.blk br (.mapIter (some b) since (seen.push e.1) c) ∈ H) (hm : Item.blk b (mapT es c) ∈ H)
  (he : e ∈ es) (hn : (es.map (·.1)).Nodup) (hd : Nat.blt d n = true)
  (h : WL P ro n w0 ops Q l ((d, .tuple #[str e.2.1, e.2.2]) :: r) ds m H) :
  WL P ro n w0 ops Q (⟨some d, .entry x, ty, pos, after, none⟩ :: l) r ds m H :=
 .gen (fun v m' H' => v = .tuple #[str e.2.1, e.2.2] ∧ m' = m ∧ H' = H) hd (fun _ h => by cases h)
  (fun tmps w ho hs => ⟨_, m, H, w, by
   have hr : w.heap[br]? = some (.mapIter (some b) since (seen.push e.1) c) := hs.own _ hi
   have hb : w.heap[b]? = some (.map (mapTE es).toArray c) := hs.own _ hm
   have h2 := run_entry_at (P := P) w br b since seen (mapTE es).toArray c ⟨.string ⟨e.2.1.toArray⟩, e.2.2, e.1⟩ hr hb (by
    show _ ∈ mapTE es
    exact List.mem_map.2 ⟨e, he, rfl⟩) (by
    show ((mapTE es).map (·.born)).Nodup
    rw [show (mapTE es).map (·.born) = es.map (·.1) by simp [mapTE]]
    exact hn)
   simp only [execOp, ho.ev hx, Sem.run_bind, h2, Result.andThen_ok, Sem.run_pure]
   try rfl, hs, rfl, rfl, rfl⟩)
  (by rintro _ _ _ ⟨rfl, rfl, rfl⟩; exact h)
end
end Go.Eng
namespace Go.Eng
open Go
structure Dr where
 h : Nat
 ps : List Nat
 v : Value
 t : List UInt8
def drE (d : Dr) : List Value := [.int .i64 (d.h : Int), d.v, str d.t]
def drs (L : List Dr) : List (List Value) := L.map drE
theorem vM (L : List Dr) : (drs L).length = L.length := List.length_map _
theorem u7 {L : List Dr} {i : Nat} {d : Dr} (h : L[i]? = some d) : (drs L)[i]? = some (drE d) := by unfold drs; rw [List.getElem?_map, h]; rfl
theorem zJh (L : List Dr) (d : Dr) : drs (L ++ [d]) = drs L ++ [drE d] := by unfold drs; simp
def nums (l : List Nat) : List (List Value) := l.map fun (p : Nat) => [.int .i64 (p : Int)]
theorem zQ (l : List Nat) : (nums l).length = l.length := List.length_map _
theorem xO {l : List Nat} {i p : Nat} (h : l[i]? = some p) : (nums l)[i]? = some [.int .i64 (p : Int)] := by unfold nums; rw [List.getElem?_map, h]; rfl
theorem zIk (l : List Nat) (p : Nat) : nums (l ++ [p]) = nums l ++ [[.int .i64 (p : Int)]] := by unfold nums; simp
def PsAt (m : Mem) (d : Dr) : Prop := ∃ a cap, d.v = .slice a d.ps.length cap ∧ ∀ w0 H, RowR w0 m H 1 a (nums d.ps)
theorem PsAt.le {m m' : Mem} {d : Dr} (h : PsAt m d) (hm : m.le m') : PsAt m' d := by
 obtain ⟨a, cap, h1, h2⟩ := h
 exact ⟨a, cap, h1, fun w0 H => (h2 w0 H).le hm⟩
theorem PsAt.nil {m : Mem} {h : Nat} {t : List UInt8} : PsAt m ⟨h, [], .slice none 0 0, t⟩ :=
 ⟨none, 0, rfl, fun _ _ _ _ => ⟨fun e he => by simp [nums] at he, by simp [nums]⟩⟩
theorem PsAt.mem {m : Mem} {b h : Nat} {ps : List Nat} {cs : List Value} {T : TypeId} {n cap : Nat} {t : List UInt8} (hb : m b = some (.cells cs.toArray T (0, 0))) (hc : cs = ps.map (fun (p : Nat) => .int .i64 (p : Int))) (hn : n = ps.length := by rfl) : PsAt m ⟨h, ps, .slice (some ⟨b, 0, none⟩) n cap, t⟩ := by
 subst hc
 subst hn
 refine ⟨some ⟨b, 0, none⟩, cap, rfl, fun w0 H w hs => ⟨fun e he => ?_, fun j v hj => ?_⟩⟩
 ·obtain ⟨p, _, rfl⟩ := List.mem_map.1 he
  rfl
 ·have hw : w.heap[b]? = some (.cells (ps.map (fun (p : Nat) => Value.int .i64 (p : Int))).toArray T (0, 0)) := hs.pers _ _ hb
  have hf : ∀ qs : List Nat, (nums qs).flatten = qs.map (fun (p : Nat) => Value.int .i64 (p : Int)) := by
   intro qs
   induction qs with
   | nil => rfl
   | cons p qs ih =>
    show [Value.int .i64 (p : Int)] ++ (nums qs).flatten = _
    rw [ih]; rfl
  rw [hf] at hj
  rw [w9 rfl]
  simp only [Nat.zero_add, World.cell?, hw]
  simpa using hj
abbrev Br := List (Nat × List UInt8 × Nat)
def yP : Br → List UInt8 → Option Nat
 | [], _ => none
 | e :: B, s => if s = e.2.1 then some e.2.2 else yP B s
def setB : Br → List UInt8 → Nat → Br
 | [], _, _ => []
 | e :: B, s, k => if s = e.2.1 then (e.1, e.2.1, k) :: B else e :: setB B s k
def eraseB : Br → List UInt8 → Br
 | [], _ => []
 | e :: B, s => if s = e.2.1 then B else e :: eraseB B s
def putB (B : Br) (c : Nat) (s : List UInt8) (k : Nat) : Br := if (yP B s).isSome then setB B s k else B ++ [(c, s, k)]
def clkB (B : Br) (c : Nat) (s : List UInt8) : Nat := if (yP B s).isSome then c else c + 1
def brE (B : Br) : List EntT := B.map fun e => (e.1, e.2.1, .int .i64 (e.2.2 : Int))
theorem uF (B : Br) : (brE B).length = B.length := List.length_map _
theorem wD (s : List UInt8) : ∀ (B : Br), getT (brE B) s = (yP B s).map fun k => .int .i64 (k : Int)
 | [] => rfl
 | e :: B => by
  show (if s = e.2.1 then some _ else getT (brE B) s) = _
  rw [yP]
  split
  ·rfl
  ·exact wD s B
theorem zID (s : List UInt8) (k : Nat) : ∀ (B : Br), setT (brE B) s (.int .i64 (k : Int)) = brE (setB B s k)
 | [] => rfl
 | e :: B => by
  show (if s = e.2.1 then _ else _ :: setT (brE B) s _) = _
  rw [setB]
  split
  ·rfl
  ·rw [zID s k B]; rfl
theorem kX (s : List UInt8) : ∀ (B : Br), eraseT (brE B) s = brE (eraseB B s)
 | [] => rfl
 | e :: B => by
  show (if s = e.2.1 then _ else _ :: eraseT (brE B) s) = _
  rw [eraseB]
  split
  ·rfl
  ·rw [kX s B]; rfl
theorem zAi (B : Br) (s : List UInt8) : (getT (brE B) s).isSome = (yP B s).isSome := by rw [wD]; cases yP B s <;> rfl
theorem zDw (B : Br) (c : Nat) (s : List UInt8) (k : Nat) : putM (brE B) c s (.int .i64 (k : Int)) = brE (putB B c s k) := by
 unfold putM putB
 rw [zAi]
 split
 ·exact zID s k B
 ·unfold brE; simp
theorem zCT (B : Br) (c : Nat) (s : List UInt8) : putC (brE B) c s = clkB B c s := by unfold putC clkB; rw [zAi]
theorem jC {s : List UInt8} {k : Nat} : ∀ {B : Br}, yP B s = some k → ∃ e ∈ B, e.2.1 = s ∧ e.2.2 = k
 | e :: B, h => by
  rw [yP] at h
  split at h
  ·next hs => exact ⟨e, List.mem_cons_self, hs.symm, by simpa using h⟩
  ·obtain ⟨x, hx, h2⟩ := jC h
   exact ⟨x, List.mem_cons_of_mem _ hx, h2⟩
theorem zCA {s : List UInt8} : ∀ {B : Br}, yP B s = none → ∀ e ∈ B, e.2.1 ≠ s
 | e :: B, h, x, hx => by
  rw [yP] at h
  split at h
  ·cases h
  ·next hs =>
   rcases List.mem_cons.1 hx with h2 | h2
   ·subst h2; exact fun e => hs e.symm
   ·exact zCA h x h2
theorem zCP {s : List UInt8} {k : Nat} : ∀ {B : Br} {e : Nat × List UInt8 × Nat}, e ∈ setB B s k → e ∈ B ∨ (e.2.1 = s ∧ e.2.2 = k ∧ ∃ x ∈ B, x.1 = e.1 ∧ x.2.1 = s)
 | x :: B, e, h => by
  rw [setB] at h
  split at h
  ·next hs =>
   rcases List.mem_cons.1 h with h | h
   ·subst h; exact .inr ⟨hs.symm, rfl, x, List.mem_cons_self, rfl, hs.symm⟩
   ·exact .inl (List.mem_cons_of_mem _ h)
  ·rcases List.mem_cons.1 h with h | h
   ·subst h; exact .inl List.mem_cons_self
   ·rcases zCP h with h | ⟨h1, h2, y, hy, h3⟩
    ·exact .inl (List.mem_cons_of_mem _ h)
    ·exact .inr ⟨h1, h2, y, List.mem_cons_of_mem _ hy, h3⟩
theorem vK {s : List UInt8} : ∀ (B : Br), (eraseB B s).Sublist B
 | [] => List.Sublist.refl _
 | x :: B => by
  rw [eraseB]
  split
  ·exact List.sublist_cons_self _ _
  ·exact (vK B).cons_cons _
theorem j3 (s : List UInt8) (k : Nat) : ∀ (B : Br), (setB B s k).map (·.2.1) = B.map (·.2.1) ∧ (setB B s k).map (·.1) = B.map (·.1)
 | [] => ⟨rfl, rfl⟩
 | x :: B => by
  rw [setB]
  split
  ·exact ⟨rfl, rfl⟩
  ·exact ⟨by rw [List.map_cons, List.map_cons, (j3 s k B).1], by rw [List.map_cons, List.map_cons, (j3 s k B).2]⟩
structure HsOk (m : Mem) (L : List Dr) (B : Br) (c : Nat) : Prop where
 some_ : 0 < L.length
 few : L.length ≤ 256
 par : ∀ i d, L[i]? = some d → (∀ p ∈ d.ps, p < i) ∧ (0 < i → d.ps ≠ []) ∧ d.ps.length ≤ 2 ∧ d.t.length ≤ 65536 ∧ d.h ≤ 999999999999999999
 at_ : ∀ d ∈ L, PsAt m d
 heads : ∀ e ∈ B, e.2.2 < L.length
 names : (B.map (·.2.1)).Nodup
 borns : (B.map (·.1)).Nodup
 old : ∀ e ∈ B, e.1 < c
 most : B.length ≤ 32
theorem HsOk.le {m m' : Mem} {L : List Dr} {B : Br} {c : Nat} (h : HsOk m L B c) (hm : m.le m') : HsOk m' L B c :=
 { h with at_ := fun d hd => (h.at_ d hd).le hm }
theorem HsOk.head {m : Mem} {L : List Dr} {B : Br} {c : Nat} (h : HsOk m L B c) {s : List UInt8} {k : Nat} (hk : yP B s = some k) : k < L.length := by
 obtain ⟨e, he, _, rfl⟩ := jC hk
 exact h.heads e he
theorem HsOk.erase {m : Mem} {L : List Dr} {B : Br} {c : Nat} (h : HsOk m L B c) (s : List UInt8) : HsOk m L (eraseB B s) c :=
 { h with
  heads := fun e he => h.heads e ((vK B).mem he)
  names := h.names.sublist ((vK B).map _)
  borns := h.borns.sublist ((vK B).map _)
  old := fun e he => h.old e ((vK B).mem he)
  most := Nat.le_trans (vK B).length_le h.most }
theorem HsOk.put {m : Mem} {L : List Dr} {B : Br} {c : Nat} (h : HsOk m L B c) {s : List UInt8} {k : Nat} (hk : k < L.length) (hb : (yP B s).isSome ∨ B.length < 32) : HsOk m L (putB B c s k) (clkB B c s) := by
 unfold putB clkB
 by_cases hs : (yP B s).isSome
 ·rw [if_pos hs, if_pos hs]
  obtain ⟨h1, h2⟩ := j3 s k B
  have hl : (setB B s k).length = B.length := by rw [← List.length_map (f := (·.1)), h2, List.length_map]
  refine { h with heads := fun e he => ?_, names := h1 ▸ h.names, borns := h2 ▸ h.borns, old := fun e he => ?_, most := hl ▸ h.most }
  ·rcases zCP he with he | ⟨_, he, _⟩
   ·exact h.heads e he
   ·omega
  ·rcases zCP he with he | ⟨_, _, x, hx, he, _⟩
   ·exact h.old e he
   ·have := h.old x hx; omega
 ·rw [if_neg hs, if_neg hs]
  have hn : yP B s = none := by simpa using hs
  have hl : B.length < 32 := hb.resolve_left hs
  refine { h with heads := fun e he => ?_, names := ?_, borns := ?_, old := fun e he => ?_, most := by rw [List.length_append, List.length_singleton]; omega }
  ·rcases List.mem_append.1 he with he | he
   ·exact h.heads e he
   ·rw [List.mem_singleton] at he; subst he; exact hk
  ·rw [List.map_append, List.nodup_append]
   refine ⟨h.names, by simp, ?_⟩
   rintro x hx y hy rfl
   obtain ⟨e, he, rfl⟩ := List.mem_map.1 hx
   simp at hy
   exact zCA hn e he hy
  ·rw [List.map_append, List.nodup_append]
   refine ⟨h.borns, by simp, ?_⟩
   rintro x hx y hy rfl
   obtain ⟨e, he, rfl⟩ := List.mem_map.1 hx
   simp at hy
   have := h.old e he
   omega
  ·rcases List.mem_append.1 he with he | he
   ·have := h.old e he; omega
   ·rw [List.mem_singleton] at he; subst he; exact Nat.lt_succ_self _
theorem HsOk.more {m : Mem} {L : List Dr} {B : Br} {c : Nat} (h : HsOk m L B c) {d : Dr} (hl : L.length < 256) (hp : ∀ p ∈ d.ps, p < L.length) (h0 : d.ps ≠ []) (h2 : d.ps.length ≤ 2) (ht : d.t.length ≤ 65536) (hh : d.h ≤ 999999999999999999) (hd : PsAt m d) : HsOk m (L ++ [d]) B c := by
 refine { h with some_ := by simp, few := by simp; omega, par := fun i x hx => ?_, at_ := fun x hx => ?_, heads := fun e he => ?_ }
 ·by_cases hi : i < L.length
  ·rw [List.getElem?_append_left hi] at hx
   exact h.par i x hx
  ·have hi2 : i = L.length := by
    have := (List.getElem?_eq_some_iff.1 hx).1
    simp at this; omega
   subst hi2
   simp at hx
   subst hx
   exact ⟨hp, fun _ => h0, h2, ht, hh⟩
 ·rcases List.mem_append.1 hx with hx | hx
  ·exact h.at_ x hx
  ·rw [List.mem_singleton] at hx; subst hx; exact hd
 ·have := h.heads e he
  rw [List.length_append]; omega
end Go.Eng
namespace Go.Eng
open Go Go.RowKit
theorem Sat.blkRow {w0 : World} {m : Mem} {b n sz : Nat} {T : TypeId} {cs : List Value} {es : List (List Value)} {H : SHeap} {w : World} (h : Sat w0 m (.blk b (.cells cs.toArray T (0, 0)) :: H) w) (h1 : cs = es.flatten) (h2 : ∀ e ∈ es, e.length = sz) (h3 : es.length = n) (hn : n ≤ 9223372036854775807) :
  Sat w0 m (.row (some ⟨b, 0, none⟩) n T sz es :: H) w := by
 refine h.turn rfl rfl rfl (Nat.le_refl _) (fun _ _ _ => rfl) ?_ (fun x hx => .inl hx) (by simp [Item.foot])
 have hb : w.heap[b]? = some (.cells cs.toArray T (0, 0)) := h.own _ List.mem_cons_self
 have hl : cs.length = n * sz := by
  rw [h1, ← h3]
  clear h1 h3 hb
  induction es with
  | nil => simp
  | cons e es ih =>
   rw [List.flatten_cons, List.length_append, h2 e List.mem_cons_self, ih (fun x hx => h2 x (List.mem_cons_of_mem _ hx)), List.length_cons, Nat.succ_mul]; omega
 exact ⟨cs.toArray, (0, 0), rfl, hb, by simpa using hl, Nat.le_of_eq h3, by rw [← h1, h3]; exact List.take_of_length_le (Nat.le_of_eq hl), h2, .inl rfl, fun _ => hn⟩
section
theorem WL.blkRow {b k sz : Nat} {T : TypeId} {cs : List Value} {es : List (List Value)} {H1 : SHeap} (ho : Out (.blk b (.cells cs.toArray T (0, 0))) H H1) (h1 : cs = es.flatten) (h2 : ∀ e ∈ es, e.length = sz) (h3 : es.length = k) (hk : k ≤ 9223372036854775807)
  (h : WL P ro n w0 ops Q l r ds m (.row (some ⟨b, 0, none⟩) k T sz es :: H1)) : WL P ro n w0 ops Q l r ds m H :=
 fun tmps w hok hs => h tmps w hok ((hs.perm ho.perm).blkRow h1 h2 h3 hk)
theorem WC.blkRow {c : Code} {b k sz : Nat} {T : TypeId} {cs : List Value} {es : List (List Value)} {H1 : SHeap} (ho : Out (.blk b (.cells cs.toArray T (0, 0))) H H1) (h1 : cs = es.flatten) (h2 : ∀ e ∈ es, e.length = sz) (h3 : es.length = k) (hk : k ≤ 9223372036854775807)
  (h : WC P ro n w0 c Q r ds m (.row (some ⟨b, 0, none⟩) k T sz es :: H1)) : WC P ro n w0 c Q r ds m H :=
 fun tmps w hok hs => h tmps w hok ((hs.perm ho.perm).blkRow h1 h2 h3 hk)
theorem WQ.blkRow {e : Exit} {b k sz : Nat} {T : TypeId} {cs : List Value} {es : List (List Value)} {H1 : SHeap} (ho : Out (.blk b (.cells cs.toArray T (0, 0))) H H1) (h1 : cs = es.flatten) (h2 : ∀ e ∈ es, e.length = sz) (h3 : es.length = k) (hk : k ≤ 9223372036854775807)
  (h : WQ n w0 Q e r ds m (.row (some ⟨b, 0, none⟩) k T sz es :: H1)) : WQ n w0 Q e r ds m H :=
 fun tmps w hok hs => h tmps w hok ((hs.perm ho.perm).blkRow h1 h2 h3 hk)
end
def mainN : List UInt8 := [109, 97, 105, 110]
def NmB (c : Nat) : Prop := ¬ (((c < 97 ∨ 122 < c) ∧ (c < 48 ∨ 57 < c)) ∧ c ≠ 45)
instance (c : Nat) : Decidable (NmB c) := by unfold NmB; infer_instance
def x6 (s : List UInt8) : Prop := 1 ≤ s.length ∧ s.length ≤ 32 ∧ 97 ≤ (s.headD 0).toNat ∧ ∀ c ∈ s, NmB c.toNat
instance (s : List UInt8) : Decidable (x6 s) := by unfold x6; infer_instance
def NamesOk (B : Br) : Prop := ∀ e ∈ B, x6 e.2.1
theorem NamesOk.put {B : Br} (h : NamesOk B) {c k : Nat} {s : List UInt8} (hs : (yP B s).isSome ∨ x6 s) : NamesOk (putB B c s k) := by
 unfold putB
 intro e he
 split at he
 ·have : e.2.1 ∈ (setB B s k).map (·.2.1) := List.mem_map_of_mem he
  rw [(j3 s k B).1] at this
  obtain ⟨x, hx, h1⟩ := List.mem_map.1 this
  rw [← h1]; exact h x hx
 ·rename_i hn
  rcases List.mem_append.1 he with he | he
  ·exact h e he
  ·rw [List.mem_singleton] at he
   subst he
   exact hs.resolve_left hn
theorem NamesOk.erase {B : Br} (h : NamesOk B) (s : List UInt8) : NamesOk (eraseB B s) := fun e he => h e ((vK B).mem he)
theorem NamesOk.fresh : NamesOk [(0, mainN, 0)] := by
 intro e he
 rw [List.mem_singleton] at he
 subst he
 decide
end Go.Eng
namespace ZP
open Go Go.Eng
attribute [local irreducible] WL WC WQ QFun zJ Does Q1 zD zB Go.Addr.add
namespace ZD52a
theorem zal {G G' : Prop} (next : G') (h : Bx G' → G := by intro zzn; (first | (refine WL.makeMapT rfl ?_; intro zzf)); (repeat revert zzf); exact zzn.out) : G := h ⟨next⟩
end ZD52a
open ZD52a in
theorem zFD (s : Tx) (hs : s.length ≤ 65536) (w0 : World) (m : Mem) (H : SHeap) : Does Tryz.prog 21 #[str s] w0 m H (fun v m' H' => m' = m ∧ ∃ (bh bm bd : Nat), v = .tuple #[.pp bh, .int .i64 0] ∧
  H' = .bl bh [.slice (some ⟨bd, 0, none⟩) 1 1, .map (some bm)] 90 :: .row (some ⟨bd, 0, none⟩) 1 97 3 (drs [⟨0, [], .slice none 0 0, s⟩]) :: .blk bm (mapT (brE [(0, mainN, 0)]) 1) :: H) := by
 refine Does.of_body func21 rfl ntmps21 rfl ?_
 refine stg ?_; intros; rename_i b3
 refine zA func40 ?_ (hs := uB (L := [s]) (by simp) (yZ (T := 9) (fz := (0, 0)) (L := [str s]) zhs rfl (by simp [strs])))
 rintro v m H9 ⟨rfl, rfl, rfl⟩
 rw [zH (show ¬ Long [s] from by rintro ⟨x, hx, hx2⟩; rw [List.mem_singleton] at hx; subst hx; omega)]
 refine stg ?_; intros; rename_i bd bm
 refine WL.putT (k := mainN) rfl rfl rfl rfl rfl (by repeat (first | exact Repl.here | apply Repl.there)) ?_
 refine stg ?_; intros; rename_i bh
 refine WQ.blkRow (b := bd) (k := 1) (sz := 3) (es := drs [⟨0, [], .slice none 0 0, s⟩]) (by (repeat (first | exact Out.here | apply Out.there))) rfl (by simp [drs, drE]) rfl (by omega) ?_
 exact q_fz ⟨rfl, bh, bm, bd, rfl, rfl⟩
open ZD52a in
theorem zF2 {b n c : Nat} {a : Option Addr} {mp : Value} {w0 : World} {m : Mem} {H : SHeap} (hm : Eng.Item.bl b [.slice a n c, mp] 90 ∈ H) : Does Tryz.prog 19 #[.pp b] w0 m H (Gives (.int .i64 (n : Int)) m H) :=
 Does.gives_memD hm fun H => zH3 w0 m H
open ZD52a in
theorem jL {b n c : Nat} {a : Option Addr} {mp : Value} (k : Int) {w0 : World} {m : Mem} {H : SHeap} (hm : Eng.Item.bl b [.slice a n c, mp] 90 ∈ H) : Does Tryz.prog 38 #[.pp b, .int .i64 k] w0 m H (Gives (.bool (dcd (0 ≤ k ∧ k < (n : Int)))) m H) := by
 refine Does.gives_memD hm fun H => ?_
 refine Does.of_body func38 rfl ntmps38 rfl ?_
 by_cases h0 : 0 ≤ k
 ·try (refine stg ?_; intros)
  exact q_fz (Gives.mk (congrArg _ (xW (show k < (n : Int) ↔ (0 ≤ k ∧ k < (n : Int)) from ⟨fun h => ⟨h0, h⟩, fun h => h.2⟩))))
 ·rw [zH (fun h => h0 h.1)]
  try (refine stg ?_; intros)
  exact q_fz zgm
end ZP
namespace ZP
open Go Go.Eng
attribute [local irreducible] WL WC WQ QFun zJ Does Q1 zD zB Go.Addr.add
theorem zAY (s : Tx) (hs : s.length ≤ 9223372036854775807) (w0 : World) (m : Mem) (H : SHeap) : Does Tryz.prog 47 #[str s] w0 m H (Gives (.bool (dcd (x6 s))) m H) := by
 refine Does.of_body func47 rfl ntmps47 rfl ?_
 by_cases h1 : s.length < 1
 ·rw [zH (fun h : x6 s => by have := h.1; omega)]
  try (refine st ?_; intros)
  exact q_fz zgm
 by_cases h2 : 32 < s.length
 ·rw [zH (fun h : x6 s => by have := h.2.1; omega)]
  try (refine st ?_; intros)
  exact q_fz zgm
 obtain ⟨c0, hc0⟩ : ∃ c, s[0]? = some c := ⟨_, List.getElem?_eq_getElem (by omega)⟩
 have hd0 : s.headD 0 = c0 := by
  cases s with
  | nil => simp at h1
  | cons x s => simpa using hc0
 have hg0 : gb s 0 = c0.toNat := by unfold gb; simp [hc0]
 by_cases h3 : c0.toNat < 97
 ·rw [zH (fun h : x6 s => by have := h.2.2.1; rw [hd0] at this; omega)]
  try (refine st ?_; intros)
  exact q_fz zgm
 try (refine st ?_; intros)
 refine lpz (fun j r ds m' H' => ∃ i, j = s.length - i ∧ r = [(20, .int .i64 (i : Int)), (19, .int .i64 (s.length : Int)), (0, str s)] ∧ ds = [] ∧ m = m' ∧ H' = H ∧ (i ≤ s.length) ∧ (∀ c ∈ s.take i, NmB c.toNat)) (s.length - (0)) ⟨0, rfl, rfl, rfl, rfl, rfl, by omega, by intro c hc; simp at hc⟩ ?_
 rintro j r ds m' H' ⟨i, rfl, rfl, rfl, rfl, rfl, hi, hpre⟩
 by_cases hlt : i < s.length
 ·obtain ⟨c, hc⟩ : ∃ c, s[i]? = some c := ⟨_, List.getElem?_eq_getElem hlt⟩
  have hg : gb s i = c.toNat := by unfold gb; simp [hc]
  have htk : s.take (i + 1) = s.take i ++ [c] := by rw [List.take_succ, hc]; rfl
  have hgood : NmB c.toNat → ∀ x ∈ s.take (i + 1), NmB x.toNat := by
   intro hb x hx
   rw [htk] at hx
   rcases List.mem_append.1 hx with h | h
   ·exact hpre x h
   ·rw [List.mem_singleton] at h; subst h; exact hb
  have hbad : ¬ NmB c.toNat → ¬ x6 s := fun hb h => hb (h.2.2.2 c (List.mem_of_getElem? hc))
  have hcase : c.toNat < 45 ∨ c.toNat = 45 ∨ (45 < c.toNat ∧ c.toNat < 48) ∨ (48 ≤ c.toNat ∧ c.toNat ≤ 57) ∨ (57 < c.toNat ∧ c.toNat < 97) ∨ (97 ≤ c.toNat ∧ c.toNat ≤ 122) ∨ 122 < c.toNat := by omega
  rcases hcase with h | h | ⟨h, h'⟩ | ⟨h, h'⟩ | ⟨h, h'⟩ | ⟨h, h'⟩ | h
  ·rw [zH (hbad (by unfold NmB; omega))]
   try (refine st ?_; intros)
   exact q_fz zgm
  ·try (refine st ?_; intros)
   refine nxz (s.length - (i + 1)) ⟨i + 1, rfl, rfl, rfl, rfl, rfl, ?_, ?_⟩
   ·omega
   ·exact hgood (by unfold NmB; omega)
  ·rw [zH (hbad (by unfold NmB; omega))]
   try (refine st ?_; intros)
   exact q_fz zgm
  ·try (refine st ?_; intros)
   refine nxz (s.length - (i + 1)) ⟨i + 1, rfl, rfl, rfl, rfl, rfl, ?_, ?_⟩
   ·omega
   ·exact hgood (by unfold NmB; omega)
  ·rw [zH (hbad (by unfold NmB; omega))]
   try (refine st ?_; intros)
   exact q_fz zgm
  ·try (refine st ?_; intros)
   refine nxz (s.length - (i + 1)) ⟨i + 1, rfl, rfl, rfl, rfl, rfl, ?_, ?_⟩
   ·omega
   ·exact hgood (by unfold NmB; omega)
  ·rw [zH (hbad (by unfold NmB; omega))]
   try (refine st ?_; intros)
   exact q_fz zgm
 ·rw [List.take_of_length_le (by omega)] at hpre
  rw [zE (show x6 s from ⟨by omega, by omega, by rw [hd0]; omega, hpre⟩)]
  try (refine st ?_; intros)
  exact q_fz zgm
def brErr (L : List Dr) (B : Br) (s : Tx) (k : Int) : Nat :=
 if (yP B s).isSome ∨ ¬ x6 s then 280 else if ¬ (0 ≤ k ∧ k < (L.length : Int)) then 5 else if B.length = 32 then 3 else 0
theorem zGK {bh bm cap c : Nat} {a : Option Addr} {L : List Dr} {B : Br} (s : Tx) (hs : s.length ≤ 9223372036854775807) (k : Int) (hB : B.length ≤ 32) (hL : L.length ≤ 256) (w0 : World) (m : Mem) (H : SHeap) :
  Does Tryz.prog 17 #[.pp bh, str s, .int .i64 k] w0 m (.bl bh [.slice a L.length cap, .map (some bm)] 90 :: .row a cap 97 3 (drs L) :: .blk bm (mapT (brE B) c) :: H) (fun v m' H' => m' = m ∧ v = .int .i64 (brErr L B s k : Int) ∧
   H' = .bl bh [.slice a L.length cap, .map (some bm)] 90 :: .row a cap 97 3 (drs L) :: .blk bm (mapT (brE (if brErr L B s k = 0 then putB B c s k.toNat else B)) (if brErr L B s k = 0 then clkB B c s else c)) :: H) := by
 refine Does.of_body func17 rfl ntmps17 rfl ?_
 have hsz : xI Tryz.prog 3 = some 1 := rfl
 try (refine st ?_; intros)
 refine WL.lookT (es := brE B) (k := s) (z := .int .i64 0) rfl rfl zhs rfl rfl (fun _ => rfl) rfl ?_
 rw [wD]
 cases hh : yP B s with
 | some k0 =>
  have he : brErr L B s k = 280 := by unfold brErr; rw [if_pos (.inl (by rw [hh]; rfl))]
  simp only [Option.map_some, Option.getD_some, Option.isSome_some]
  rw [he, if_neg (by omega), if_neg (by omega)]
  try (refine st ?_; intros)
  exact q_fz ⟨rfl, rfl, rfl⟩
 | none =>
  have hno : ¬ (yP B s).isSome = true := by rw [hh]; simp
  simp only [Option.map_none, Option.getD_none, Option.isSome_none]
  by_cases hn : x6 s
  ·by_cases hk : 0 ≤ k ∧ k < (L.length : Int)
   ·by_cases hf : B.length = 32
    ·have he : brErr L B s k = 3 := by unfold brErr; rw [if_neg (fun h => h.elim hno (fun h => h hn)), if_neg (fun h => h hk), if_pos hf]
     rw [he, if_neg (by omega), if_neg (by omega)]
     try (refine st ?_; intros)
     refine zA func47 ?_ (hs := zAY s hs _ _ _)
     rintro v m H1 ⟨rfl, rfl, rfl⟩
     rw [zE hn]
     try (refine st ?_; intros)
     refine zA func38 ?_ (hs := jL k zhs)
     rintro v m H1 ⟨rfl, rfl, rfl⟩
     rw [zE hk]
     try (refine st ?_; intros)
     refine WL.lenMapT (es := brE B) rfl zhs rfl rfl ?_
     rw [uF]
     try (refine st ?_; intros)
     exact q_fz ⟨rfl, rfl, rfl⟩
    ·have he : brErr L B s k = 0 := by unfold brErr; rw [if_neg (fun h => h.elim hno (fun h => h hn)), if_neg (fun h => h hk), if_neg hf]
     rw [he, if_pos rfl, if_pos rfl]
     obtain ⟨q, rfl⟩ : ∃ q : Nat, k = (q : Int) := ⟨k.toNat, by omega⟩
     rw [Int.toNat_natCast, ← zDw, ← zCT]
     try (refine st ?_; intros)
     refine zA func47 ?_ (hs := zAY s hs _ _ _)
     rintro v m H1 ⟨rfl, rfl, rfl⟩
     rw [zE hn]
     try (refine st ?_; intros)
     refine zA func38 ?_ (hs := jL (q : Int) zhs)
     rintro v m H1 ⟨rfl, rfl, rfl⟩
     rw [zE hk]
     try (refine st ?_; intros)
     refine WL.lenMapT (es := brE B) rfl zhs rfl rfl ?_
     rw [uF]
     try (refine st ?_; intros)
     refine WL.putU (es := brE B) (k := s) rfl rfl rfl rfl rfl (by repeat (first | exact Repl.here | apply Repl.there)) ?_
     try (refine st ?_; intros)
     exact q_fz ⟨rfl, rfl, rfl⟩
   ·have he : brErr L B s k = 5 := by unfold brErr; rw [if_neg (fun h => h.elim hno (fun h => h hn)), if_pos hk]
    rw [he, if_neg (by omega), if_neg (by omega)]
    try (refine st ?_; intros)
    refine zA func47 ?_ (hs := zAY s hs _ _ _)
    rintro v m H1 ⟨rfl, rfl, rfl⟩
    rw [zE hn]
    try (refine st ?_; intros)
    refine zA func38 ?_ (hs := jL k zhs)
    rintro v m H1 ⟨rfl, rfl, rfl⟩
    rw [zH hk]
    try (refine st ?_; intros)
    exact q_fz ⟨rfl, rfl, rfl⟩
  ·have he : brErr L B s k = 280 := by unfold brErr; rw [if_pos (.inr hn)]
   rw [he, if_neg (by omega), if_neg (by omega)]
   try (refine st ?_; intros)
   refine zA func47 ?_ (hs := zAY s hs _ _ _)
   rintro v m H1 ⟨rfl, rfl, rfl⟩
   rw [zH hn]
   try (refine st ?_; intros)
   exact q_fz ⟨rfl, rfl, rfl⟩
theorem zIX {bh bm cap c : Nat} {a : Option Addr} {L : List Dr} {B : Br} (s : Tx) (w0 : World) (m : Mem) (H : SHeap) :
  Does Tryz.prog 18 #[.pp bh, str s] w0 m (.bl bh [.slice a L.length cap, .map (some bm)] 90 :: .row a cap 97 3 (drs L) :: .blk bm (mapT (brE B) c) :: H) (fun v m' H' => m' = m ∧ v = .int .i64 ((if (yP B s).isSome then 0 else 4 : Nat) : Int) ∧
   H' = .bl bh [.slice a L.length cap, .map (some bm)] 90 :: .row a cap 97 3 (drs L) :: .blk bm (mapT (brE (eraseB B s)) c) :: H) := by
 refine Does.of_body func18 rfl ntmps18 rfl ?_
 rw [← kX]
 try (refine st ?_; intros)
 refine WL.lookT (es := brE B) (k := s) (z := .int .i64 0) rfl rfl zhs rfl rfl (fun _ => rfl) rfl ?_
 rw [wD]
 cases hh : yP B s with
 | some k0 =>
  simp only [Option.map_some, Option.getD_some, Option.isSome_some, if_true]
  try (refine st ?_; intros)
  refine WL.deleteT (es := brE B) (k := s) rfl rfl rfl rfl (by repeat (first | exact Repl.here | apply Repl.there)) ?_
  try (refine st ?_; intros)
  exact q_fz ⟨rfl, rfl, rfl⟩
 | none =>
  simp only [Option.map_none, Option.getD_none, Option.isSome_none]
  have hx : eraseT (brE B) s = brE B := qU _ (by rw [wD, hh]; rfl)
  rw [hx]
  try (refine st ?_; intros)
  exact q_fz ⟨rfl, rfl, rfl⟩
end ZP
