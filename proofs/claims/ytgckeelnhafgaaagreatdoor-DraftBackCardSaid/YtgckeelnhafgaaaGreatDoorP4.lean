/-
  Parts of a walk, joined. No condition.
-/
import Derived.Test.YtgckeelnhafgaaaGreatDoorP3
import Derived.Lib.Builder
import Derived.Lib.UnsafeStr
import Derived.Laws.Externs
set_option linter.all false
set_option maxRecDepth 100000
set_option maxHeartbeats 4000000
open Go.Proofs Go.Proofs.YtgckeelnhafgaaaGreatDoor
open Tryz
open Go Go.Eng
variable {P : Program} {ro : Option Nat} {n : Nat} {w0 : World} {Q : Exit → Act → World → Prop} {r : Env} {ds : List Dfr} {m : Mem} {H : SHeap} {ops : Array Oper} {l : List Oper} {d : Nat} {ty : TypeId} {pos : String} {after : Array Edge}
namespace Go.Eng
open Go
theorem zBG {k st : Nat} (hst : st ≠ 0 ∧ st ≠ 2 ∧ st ≠ 4) (h1 : ∀ u : Un, u.k = k → zZ st u = (1, st)) (h3 : ∀ u : Un, u.k ≠ k → (zZ st u).1 = 0) :
  ∀ (us : List Un) (t : Tk) (h : Un), scGo ⟨st, t, h⟩ us = ⟨t.k, t.a, lastZ t.z us (runU k (fun _ => false) us)⟩ :: scGo scan0 (us.drop (runU k (fun _ => false) us))
 | [], t, h => by simp [scGo, endS, hst, runU, lastZ, zBL]
 | v :: vs, t, h => by
  by_cases hk : v.k = k
  ·have e : runU k (fun _ => false) (v :: vs) = runU k (fun _ => false) vs + 1 := by
    cases vs with
    | nil => simp [runU, hk]
    | cons w ws => rw [runU, if_pos hk]
   have hs : scGo ⟨st, t, h⟩ (v :: vs) = scGo ⟨st, ⟨t.k, t.a, v.z⟩, h⟩ vs := by
    rw [scGo]; simp [Sc.told, Sc.step, h1 v hk]
   rw [hs, zBG hst h1 h3 vs, e, List.drop_succ_cons]
   congr 2
   unfold lastZ
   by_cases hn : runU k (fun _ => false) vs = 0
   ·rw [if_pos hn, if_neg (by omega), hn]; rfl
   ·rw [if_neg hn, if_neg (by omega)]
    obtain ⟨n, hn2⟩ : ∃ n, runU k (fun _ => false) vs = n + 1 := ⟨_, (Nat.succ_pred_eq_of_ne_zero hn).symm⟩
    have hle := qK k (fun _ => false) vs
    rw [hn2] at hle ⊢
    simp only [Nat.add_sub_cancel, List.getElem?_cons_succ]
    rw [List.getElem?_eq_getElem (by omega)]; rfl
  ·have e : runU k (fun _ => false) (v :: vs) = 0 := by
    cases vs with
    | nil => simp [runU, hk]
    | cons w ws => rw [runU, if_neg hk, if_neg (by simp)]
   rw [e, uH (h3 v hk)]
   simp [endS, hst, lastZ]
def jointB (u : Un) : Bool := decide (jointU u)
def dotB (u : Un) : Bool := decide (dotU u)
def takeN (u : Un) (us : List Un) : Nat :=
 if u.k = 1 then runU 1 jointB us else if u.k = 3 then runU 3 dotB us else if u.k = 5 then runU 5 (fun _ => false) us else if u.k = 11 then runU 11 (fun _ => false) us
 else if u.k = 4 ∧ u.r = 13 then (match us with | [] => 0 | v :: _ => if v.k = 4 ∧ v.r = 10 then 1 else 0) else 0
theorem zCH (u : Un) (us : List Un) : takeN u us ≤ us.length := by
 unfold takeN
 have h1 := qK 1 jointB us
 have h2 := qK 3 dotB us
 have h3 := qK 5 (fun _ => false) us
 have h4 := qK 11 (fun _ => false) us
 (repeat' split) <;> simp_all
def rTok : Nat → List Un → List Tk
 | 0, _ => []
 | _ + 1, [] => []
 | f + 1, u :: us => ⟨(zI u).1, u.a, lastZ u.z us (takeN u us)⟩ :: rTok f (us.drop (takeN u us))
theorem zCh {u : Un} (ho : UOk u) (h : jointB u = true) : u.k = 6 ∨ u.k = 7 ∨ u.k = 8 := by
 have h := of_decide_eq_true h
 rcases ho with ⟨_, h2⟩ | h2
 ·rcases h with ⟨h1 | h1 | h1 | h1, _⟩ <;> omega
 ·rcases h with ⟨h1 | h1 | h1 | h1, _⟩ <;> rw [h1] at h2 <;> rw [h2] <;> decide
theorem zF0 {u : Un} (ho : UOk u) (h : dotB u = true) : u.k = 6 ∨ u.k = 7 ∨ u.k = 8 := by
 have h := of_decide_eq_true h
 rcases ho with ⟨_, h2⟩ | h2
 ·rcases h with ⟨h1 | h1, _⟩ <;> omega
 ·rcases h with ⟨h1 | h1, _⟩ <;> rw [h1] at h2 <;> rw [h2] <;> decide
theorem zIK {us : List Un} (ho : ∀ u ∈ us, UOk u) {t : Tk} {h : Un} : scGo ⟨1, t, h⟩ us = ⟨t.k, t.a, lastZ t.z us (runU 1 jointB us)⟩ :: scGo scan0 (us.drop (runU 1 jointB us)) :=
 zAW (st2 := 2) (by decide) (.inl rfl) (fun u hu => by simp [zZ, hu]) (fun u hu hJ => by have := of_decide_eq_true hJ; simp [zZ, hu, this]) (fun u hu hJ => by have := of_decide_eq_false hJ; simp [zZ, hu, this])
  (fun u hu => by simp [zZ, hu]) (fun us ho u hu hJ => zCh (ho u hu) hJ) us ho t h
theorem zGq {us : List Un} (ho : ∀ u ∈ us, UOk u) {t : Tk} {h : Un} : scGo ⟨3, t, h⟩ us = ⟨t.k, t.a, lastZ t.z us (runU 3 dotB us)⟩ :: scGo scan0 (us.drop (runU 3 dotB us)) :=
 zAW (st2 := 4) (by decide) (.inr rfl) (fun u hu => by simp [zZ, hu]) (fun u hu hJ => by have := of_decide_eq_true hJ; simp [zZ, hu, this]) (fun u hu hJ => by have := of_decide_eq_false hJ; simp [zZ, hu, this])
  (fun u hu => by simp [zZ, hu]) (fun us ho u hu hJ => zF0 (ho u hu) hJ) us ho t h
theorem zFO : ∀ (f : Nat) (us : List Un), us.length ≤ f → (∀ u ∈ us, UOk u) → scGo scan0 us = rTok f us
 | 0, [], _, _ => rfl
 | 0, u :: us, h, _ => by simp at h
 | f + 1, [], _, _ => rfl
 | f + 1, u :: us, h, ho => by
  have hle := zCH u us
  have hrest : ∀ n, n ≤ us.length → scGo scan0 (us.drop n) = rTok f (us.drop n) := fun n _ => zFO f _ (by rw [List.length_drop]; rw [List.length_cons] at h; omega) fun x hx => ho x (List.mem_cons_of_mem _ (List.mem_of_mem_drop hx))
  rw [rTok, ← hrest _ hle, jT u us ⟨0, 0, 0, 0, false⟩]
  have hou := fun (x : Un) (hx : x ∈ us) => ho x (List.mem_cons_of_mem _ hx)
  by_cases k1 : u.k = 1
  ·have e : takeN u us = runU 1 jointB us := by unfold takeN; rw [if_pos k1]
   have b : zI u = (1, 1) := by unfold zI; rw [if_pos k1]
   rw [e, b]
   exact zIK hou
  by_cases k3 : u.k = 3
  ·have e : takeN u us = runU 3 dotB us := by unfold takeN; rw [if_neg k1, if_pos k3]
   have b : zI u = (2, 3) := by unfold zI; rw [if_neg k1, if_pos k3]
   rw [e, b]
   exact zGq hou
  by_cases k5 : u.k = 5
  ·have e : takeN u us = runU 5 (fun _ => false) us := by unfold takeN; rw [if_neg k1, if_neg k3, if_pos k5]
   have b : zI u = (3, 5) := by unfold zI; rw [if_neg k1, if_neg k3, if_pos k5]
   rw [e, b]
   exact zBG (by decide) (fun v hv => by simp [zZ, hv]) (fun v hv => by simp [zZ, hv]) us _ _
  by_cases k11 : u.k = 11
  ·have e : takeN u us = runU 11 (fun _ => false) us := by unfold takeN; rw [if_neg k1, if_neg k3, if_neg k5, if_pos k11]
   have b : zI u = (7, 6) := by unfold zI; rw [if_neg k1, if_neg k3, if_neg k5, if_pos k11]
   rw [e, b]
   exact zBG (by decide) (fun v hv => by simp [zZ, hv]) (fun v hv => by simp [zZ, hv]) us _ _
  have hz : ∀ (st : Nat) (t : Tk) (vs : List Un) (h' : Un), (∀ v, (zZ st v).1 = 0) → st ≠ 0 → st ≠ 2 → st ≠ 4 → scGo ⟨st, t, h'⟩ vs = t :: scGo scan0 vs := by
   intro st t vs h' hf q0 q2 q4
   cases vs with
   | nil => simp [scGo, endS, q0, q2, q4, scan0]
   | cons v vs => rw [uH (hf v)]; simp [endS, q0, q2, q4]
  have f7 : ∀ v, (zZ 7 v).1 = 0 := fun v => by simp [zZ]
  have f9 : ∀ v, (zZ 9 v).1 = 0 := fun v => by simp [zZ]
  by_cases k4 : u.k = 4
  ·by_cases r13 : u.r = 13
   ·have b : zI u = (4, 8) := by unfold zI; rw [if_neg k1, if_neg k3, if_neg k5, if_neg k11, if_pos k4, if_pos r13]
    rw [b]
    cases us with
    | nil => simp [takeN, k1, k3, k5, k11, scGo, endS, lastZ, zBL]
    | cons v vs =>
     by_cases hv : v.k = 4 ∧ v.r = 10
     ·have e : takeN u (v :: vs) = 1 := by unfold takeN; rw [if_neg k1, if_neg k3, if_neg k5, if_neg k11, if_pos ⟨k4, r13⟩]; simp [hv]
      have hs : scGo ⟨8, ⟨4, u.a, u.z⟩, ⟨0, 0, 0, 0, false⟩⟩ (v :: vs) = scGo ⟨7, ⟨4, u.a, v.z⟩, ⟨0, 0, 0, 0, false⟩⟩ vs := by
       rw [scGo]; simp [Sc.told, Sc.step, zZ, hv]
      rw [hs, e, hz 7 _ _ _ f7 (by decide) (by decide) (by decide)]
      simp [lastZ]
     ·have e : takeN u (v :: vs) = 0 := by unfold takeN; rw [if_neg k1, if_neg k3, if_neg k5, if_neg k11, if_pos ⟨k4, r13⟩]; simp only; rw [if_neg hv]
      rw [e, uH (by simp only [zZ]; simp; rw [if_neg hv])]
      simp [endS, lastZ]
   ·have b : zI u = (4, 7) := by unfold zI; rw [if_neg k1, if_neg k3, if_neg k5, if_neg k11, if_pos k4, if_neg r13]
    have e : takeN u us = 0 := by unfold takeN; rw [if_neg k1, if_neg k3, if_neg k5, if_neg k11, if_neg (fun h => r13 h.2)]
    rw [b, e, hz 7 _ _ _ f7 (by decide) (by decide) (by decide)]
    simp [lastZ]
  ·have e : takeN u us = 0 := by unfold takeN; rw [if_neg k1, if_neg k3, if_neg k5, if_neg k11, if_neg (fun h => k4 h.1)]
   have b : (zI u).2 = 9 := by unfold zI; rw [if_neg k1, if_neg k3, if_neg k5, if_neg k11, if_neg k4]; split <;> rfl
   rw [b, e, hz 9 _ _ _ f9 (by decide) (by decide) (by decide)]
   simp [lastZ]
end Go.Eng
namespace Go.Eng
open Go
def ChU : Nat → List Un → Nat → Prop
 | a, [], z => a = z
 | a, u :: us, z => u.a = a ∧ u.a < u.z ∧ ChU u.z us z
def ChT : Nat → List Tk → Nat → Prop
 | a, [], z => a = z
 | a, t :: ts, z => t.a = a ∧ t.a < t.z ∧ ChT t.z ts z
theorem zDN (l : List UInt8) : ∀ (d k : Nat), l.length - k ≤ d → k ≤ l.length → ChU k (uGo none (xD l k)) l.length ∧ ∀ u : Un, u.a < u.z → u.z = k → ChU u.a (uGo (some u) (xD l k)) l.length
 | d, k, hd, hk => by
  by_cases hlt : k < l.length
  ·have hw := wQ hlt
   have hat := vJ l k
   cases d with
   | zero => omega
   | succ d =>
    obtain ⟨_, ih⟩ := zDN l d (k + (zK l k).w) (by omega) hw.2.2
    have hh : ChU k (uGo (some (headU (zK l k))) (xD l (k + (zK l k).w))) l.length := by
     have := ih (headU (zK l k)) (by simp only [headU]; omega) (by simp only [headU, hat])
     simpa only [headU, hat] using this
    rw [yQ hlt]
    refine ⟨by rw [zAS]; exact hh, fun u hu hz => ?_⟩
    by_cases hm : kindP (zK l k) = 2 ∧ ¬ bareK u.k
    ·rw [zA2 hm]
     have := ih (u.ext (zK l k)) (by simp only [Un.ext]; omega) (by simp only [Un.ext]; omega)
     simpa only [Un.ext] using this
    ·rw [jS hm]
     exact ⟨rfl, hu, by rw [hz]; exact hh⟩
  ·obtain rfl : k = l.length := by omega
   rw [xZ (Nat.lt_irrefl _)]
   exact ⟨rfl, fun u hu hz => ⟨rfl, hu, hz⟩⟩
theorem zBD (l : List UInt8) : ChU 0 (unitsL l) l.length := (zDN l l.length 0 (by omega) (Nat.zero_le _)).1
theorem zFu {l : List UInt8} {k : Nat} (hk : k < l.length) : UOk (headU (zK l k)) := by
 unfold headU UOk kindP
 rcases uO hk with ⟨h1, _, h3⟩ | ⟨h1, _, _⟩
 ·rw [if_pos h1]; exact .inl ⟨rfl, h3⟩
 ·rw [if_neg (by rw [h1]; decide)]; exact .inr rfl
theorem zJT (l : List UInt8) : ∀ (d k : Nat), l.length - k ≤ d → (∀ u ∈ uGo none (xD l k), UOk u) ∧ ∀ v : Un, UOk v → ∀ u ∈ uGo (some v) (xD l k), UOk u
 | d, k, hd => by
  by_cases hlt : k < l.length
  ·have hw := wQ hlt
   cases d with
   | zero => omega
   | succ d =>
    obtain ⟨_, ih⟩ := zJT l d (k + (zK l k).w) (by omega)
    rw [yQ hlt]
    refine ⟨by rw [zAS]; exact ih _ (zFu hlt), fun v hv => ?_⟩
    by_cases hm : kindP (zK l k) = 2 ∧ ¬ bareK v.k
    ·rw [zA2 hm]; exact ih (v.ext (zK l k)) hv
    ·rw [jS hm]
     intro u hu
     rcases List.mem_cons.1 hu with rfl | hu
     ·exact hv
     ·exact ih _ (zFu hlt) u hu
  ·rw [xZ hlt]
   refine ⟨fun u hu => (by cases hu), fun v hv u hu => ?_⟩
   obtain rfl : u = v := List.mem_singleton.1 hu
   exact hv
theorem zFM (l : List UInt8) : ∀ u ∈ unitsL l, UOk u := (zJT l l.length 0 (by omega)).1
theorem ChU.le : ∀ {us : List Un} {a z : Nat}, ChU a us z → a ≤ z
 | [], a, z, h => Nat.le_of_eq h
 | u :: us, a, z, ⟨h1, h2, h3⟩ => by have := h3.le; omega
theorem ChU.drop : ∀ {us : List Un} {a z n : Nat}, ChU a us z → n ≤ us.length → ChU (lastZ a us n) (us.drop n) z ∧ a ≤ lastZ a us n
 | us, a, z, 0, h, _ => ⟨h, Nat.le_refl _⟩
 | [], a, z, n + 1, h, hn => by simp at hn
 | u :: us, a, z, n + 1, ⟨h1, h2, h3⟩, hn => by
  have hn' : n ≤ us.length := by simpa using hn
  obtain ⟨i1, i2⟩ := h3.drop (n := n) hn'
  have e : lastZ a (u :: us) (n + 1) = lastZ u.z us n := by
   unfold lastZ
   rw [if_neg (by omega), Nat.add_sub_cancel]
   cases n with
   | zero => simp
   | succ n =>
    rw [if_neg (by omega), Nat.add_sub_cancel, List.getElem?_cons_succ, List.getElem?_eq_getElem (by omega)]; rfl
  rw [e, List.drop_succ_cons]
  exact ⟨i1, by omega⟩
theorem zCw : ∀ (f : Nat) (us : List Un) (a z : Nat), us.length ≤ f → ChU a us z → ChT a (rTok f us) z
 | 0, [], a, z, _, h => h
 | 0, u :: us, a, z, h, _ => by simp at h
 | f + 1, [], a, z, _, h => h
 | f + 1, u :: us, a, z, hf, ⟨h1, h2, h3⟩ => by
  rw [rTok]
  have hle := zCH u us
  obtain ⟨i1, i2⟩ := h3.drop hle
  exact ⟨h1, by simp only; omega, zCw f _ _ z (by rw [List.length_drop]; rw [List.length_cons] at hf; omega) i1⟩
theorem zCf (l : List UInt8) : tokens l = rTok (unitsL l).length (unitsL l) := zFO _ _ (Nat.le_refl _) (zFM l)
theorem uQ (l : List UInt8) : ChT 0 (tokens l) l.length := by
 rw [zCf]; exact zCw _ _ _ _ (Nat.le_refl _) (zBD l)
def tokT (s : List UInt8) (t : Tk) : List UInt8 := (s.take t.z).drop t.a
def toks (s : List UInt8) : List (List UInt8) := (tokens s).map (tokT s)
theorem ChT.le : ∀ {ts : List Tk} {a z : Nat}, ChT a ts z → a ≤ z
 | [], a, z, h => Nat.le_of_eq h
 | t :: ts, a, z, ⟨h1, h2, h3⟩ => by have := h3.le; omega
theorem ChT.mem : ∀ {ts : List Tk} {a z : Nat}, ChT a ts z → ∀ t ∈ ts, t.a < t.z ∧ t.z ≤ z
 | [], a, z, h, t, ht => by cases ht
 | t :: ts, a, z, ⟨h1, h2, h3⟩, x, hx => by
  rcases List.mem_cons.1 hx with rfl | hx
  ·exact ⟨h2, h3.le⟩
  ·exact h3.mem x hx
theorem ChT.texts (s : List UInt8) : ∀ {ts : List Tk} {a : Nat}, ChT a ts s.length → (ts.map (tokT s)).flatten = s.drop a
 | [], a, h => by
  have : a = s.length := h
  subst this; simp
 | t :: ts, a, ⟨h1, h2, h3⟩ => by
  have hz := h3.le
  rw [List.map_cons, List.flatten_cons, h3.texts s, tokT, h1, List.drop_take]
  have e : s.drop t.z = (s.drop a).drop (t.z - a) := by rw [List.drop_drop]; congr 1; omega
  rw [e, List.take_append_drop]
theorem yR (s : List UInt8) : (toks s).flatten = s := by
 have := (uQ s).texts s
 rwa [List.drop_zero] at this
theorem zBk (s : List UInt8) : ∀ x ∈ toks s, x ≠ [] := by
 intro x hx
 obtain ⟨t, ht, rfl⟩ := List.mem_map.1 hx
 have := (uQ s).mem t ht
 intro h
 have := congrArg List.length h
 rw [tokT, List.length_drop, List.length_take, List.length_nil] at this
 omega
theorem zP (s : List UInt8) : (toks s).length ≤ s.length := by
 have h1 := zBk s
 have h2 := yR s
 have : ∀ l : List (List UInt8), (∀ x ∈ l, x ≠ []) → l.length ≤ l.flatten.length := by
  intro l
  induction l with
  | nil => simp
  | cons x l ih =>
   intro h
   have := ih fun y hy => h y (List.mem_cons_of_mem _ hy)
   have h3 : 0 < x.length := List.length_pos_iff.2 (h x List.mem_cons_self)
   rw [List.flatten_cons, List.length_append, List.length_cons]; omega
 have := this _ h1
 rwa [h2] at this
end Go.Eng
namespace Go.Eng
open Go
abbrev Tx := List UInt8
def lcs : List Tx → List Tx → Nat
 | [], _ => 0
 | _ :: _, [] => 0
 | x :: xs, y :: ys => if x = y then lcs xs ys + 1 else max (lcs xs (y :: ys)) (lcs (x :: xs) ys)
termination_by a b => a.length + b.length
theorem vI (a : List Tx) : lcs a [] = 0 := by cases a <;> simp [lcs]
theorem wO (b : List Tx) : lcs [] b = 0 := by simp [lcs]
theorem zBn {x : Tx} {xs ys : List Tx} : lcs (x :: xs) (x :: ys) = lcs xs ys + 1 := by rw [lcs, if_pos rfl]
theorem zAI {x y : Tx} {xs ys : List Tx} (h : x ≠ y) : lcs (x :: xs) (y :: ys) = max (lcs xs (y :: ys)) (lcs (x :: xs) ys) := by rw [lcs, if_neg h]
theorem jG : ∀ (n : Nat) (a b : List Tx), a.length + b.length ≤ n →
  (∀ x, lcs a b ≤ lcs (x :: a) b ∧ lcs (x :: a) b ≤ lcs a b + 1) ∧ (∀ y, lcs a b ≤ lcs a (y :: b) ∧ lcs a (y :: b) ≤ lcs a b + 1)
 | n, [], b, _ => by
  have h0 : ∀ (x : Tx) (b : List Tx), lcs [x] b ≤ 1 := by
   intro x b
   induction b with
   | nil => simp [lcs]
   | cons y ys ih =>
    by_cases h : x = y
    ·subst h; rw [zBn, wO]; exact Nat.le_refl _
    ·rw [zAI h, wO]; omega
  refine ⟨fun x => ⟨by rw [wO]; omega, by rw [wO]; exact h0 x b⟩, fun y => ⟨by rw [wO, wO]; omega, by rw [wO, wO]; omega⟩⟩
 | n, x0 :: a, [], _ => by
  have h0 : ∀ (y : Tx) (a : List Tx), lcs a [y] ≤ 1 := by
   intro y a
   induction a with
   | nil => simp [lcs]
   | cons x xs ih =>
    by_cases h : x = y
    ·subst h; rw [zBn, vI]; exact Nat.le_refl _
    ·rw [zAI h, vI]; omega
  refine ⟨fun x => ⟨by rw [vI, vI]; omega, by rw [vI, vI]; omega⟩, fun y => ⟨by rw [vI]; omega, by rw [vI]; exact h0 y _⟩⟩
 | 0, x0 :: a, y0 :: b, h => by simp at h
 | n + 1, x0 :: a, y0 :: b, h => by
  have hl : (x0 :: a).length + (y0 :: b).length = a.length + b.length + 2 := by simp only [List.length_cons]; omega
  obtain ⟨p1, p2⟩ := jG n a b (by omega)
  obtain ⟨q1, q2⟩ := jG n a (y0 :: b) (by simp only [List.length_cons] at *; omega)
  obtain ⟨r1, r2⟩ := jG n (x0 :: a) b (by simp only [List.length_cons] at *; omega)
  -- one ahead of the left, one ahead of the right
  have base1 := q1 x0
  have base2 := r2 y0
  refine ⟨fun x => ?_, fun y => ?_⟩
  ·by_cases hxy : x = y0
   ·subst hxy
    rw [zBn]
    have := r2 x
    omega
   ·rw [zAI hxy]
    have g1 := r1 x
    have g2 := r2 y0
    omega
  ·by_cases hxy : x0 = y
   ·subst hxy
    rw [zBn]
    have := q1 x0
    omega
   ·rw [zAI hxy]
    have g1 := q2 y
    have g2 := q1 x0
    omega
theorem zFE (x : Tx) (a b : List Tx) : lcs a b ≤ lcs (x :: a) b ∧ lcs (x :: a) b ≤ lcs a b + 1 := (jG _ a b (Nat.le_refl _)).1 x
theorem zA7 (y : Tx) (a b : List Tx) : lcs a b ≤ lcs a (y :: b) ∧ lcs a (y :: b) ≤ lcs a b + 1 := (jG _ a b (Nat.le_refl _)).2 y
theorem uZ (a b : List Tx) : lcs a b ≤ a.length ∧ lcs a b ≤ b.length := by
 constructor
 ·induction a with
  | nil => rw [wO]; exact Nat.zero_le _
  | cons x a ih => have := zFE x a b; rw [List.length_cons]; omega
 ·induction b with
  | nil => rw [vI]; exact Nat.zero_le _
  | cons y b ih => have := zA7 y a b; rw [List.length_cons]; omega
def yS (x : Tx) (xs : List Tx) (n : Nat) : List Tx → Option Nat
 | [] => none
 | y :: ys => if x = y ∧ lcs xs ys + 1 = n then some 0 else (yS x xs n ys).map (· + 1)
theorem kP {x : Tx} {xs : List Tx} {n : Nat} : ∀ {bs : List Tx} {j : Nat}, yS x xs n bs = some j → j < bs.length ∧ bs[j]? = some x ∧ lcs xs (bs.drop (j + 1)) + 1 = n
 | [], j, h => by cases h
 | y :: ys, j, h => by
  rw [yS] at h
  split at h
  ·next h1 => cases h; exact ⟨by simp, by simp [h1.1], by simpa using h1.2⟩
  ·cases hf : yS x xs n ys with
   | none => rw [hf] at h; cases h
   | some i =>
    rw [hf] at h
    cases h
    obtain ⟨g1, g2, g3⟩ := kP hf
    exact ⟨by simpa using g1, by simpa using g2, by simpa using g3⟩
theorem zBo {x : Tx} {xs : List Tx} : ∀ {bs : List Tx}, yS x xs (lcs (x :: xs) bs) bs = none → lcs (x :: xs) bs = lcs xs bs := by
 have key : ∀ (bs : List Tx) (n : Nat), n = lcs (x :: xs) bs → n = lcs xs bs ∨ ∃ j, yS x xs n bs = some j := by
  intro bs
  induction bs with
  | nil => intro n hn; left; rw [hn, vI, vI]
  | cons y ys ih =>
   intro n hn
   by_cases h : x = y
   ·subst h
    rw [zBn] at hn
    exact .inr ⟨0, by rw [yS, if_pos ⟨rfl, hn.symm⟩]⟩
   ·rw [zAI h] at hn
    have h1 := zA7 y xs ys
    by_cases h2 : n = lcs xs (y :: ys)
    ·exact .inl h2
    ·have h3 : n = lcs (x :: xs) ys := by omega
     rcases ih n h3 with h4 | ⟨j, h4⟩
     ·exact absurd (show n = lcs xs (y :: ys) by omega) h2
     ·exact .inr ⟨j + 1, by rw [yS, if_neg (fun g => h g.1), h4]; rfl⟩
 intro bs h
 rcases key bs _ rfl with h1 | ⟨j, h1⟩
 ·exact h1
 ·rw [h] at h1; cases h1
def midL : List Tx → List Tx → Nat → Nat → List (Nat × Nat)
 | [], _, _, _ => []
 | x :: xs, bs, i, k => match yS x xs (lcs (x :: xs) bs) bs with
  | some j => (i, k + j) :: midL xs (bs.drop (j + 1)) (i + 1) (k + j + 1)
  | none => midL xs bs (i + 1) k
theorem vP : ∀ (a b : List Tx) (i k : Nat), (midL a b i k).length = lcs a b
 | [], b, i, k => by simp [midL, wO]
 | x :: xs, bs, i, k => by
  rw [midL]
  cases h : yS x xs (lcs (x :: xs) bs) bs with
  | none => simp only; rw [vP xs, zBo h]
  | some j =>
   have := (kP h).2.2
   simp only [List.length_cons]
   rw [vP xs, this]
theorem zEm {a b : List Tx} {i k : Nat} (h : lcs a b = 0) : midL a b i k = [] := List.eq_nil_of_length_eq_zero (by rw [vP, h])
def yA : List Tx → List Tx → Nat
 | x :: xs, y :: ys => if x = y then yA xs ys + 1 else 0
 | _, _ => 0
theorem zAe : ∀ (a b : List Tx), yA a b ≤ a.length ∧ yA a b ≤ b.length
 | [], b => ⟨Nat.zero_le _, Nat.zero_le _⟩
 | _ :: _, [] => ⟨Nat.zero_le _, Nat.zero_le _⟩
 | x :: xs, y :: ys => by
  rw [yA]
  have := zAe xs ys
  split
  ·simp only [List.length_cons]; omega
  ·exact ⟨Nat.zero_le _, Nat.zero_le _⟩
def wF (a b : List Tx) : Nat := yA ((a.drop (yA a b)).reverse) ((b.drop (yA a b)).reverse)
def midA (a b : List Tx) : List Tx := (a.take (a.length - wF a b)).drop (yA a b)
def midB (a b : List Tx) : List Tx := (b.take (b.length - wF a b)).drop (yA a b)
def yE (a b : List Tx) : List (Nat × Nat) :=
 (List.range (yA a b)).map (fun i => (i, i)) ++ (if (midA a b).length ≤ 1024 ∧ (midB a b).length ≤ 1024 then midL (midA a b) (midB a b) (yA a b) (yA a b) else []) ++
  (List.range (wF a b)).map (fun i => (a.length - wF a b + i, b.length - wF a b + i))
end Go.Eng
namespace Go.Eng
open Go Go.RowKit
section
theorem WL.callV {f : FuncId} {fn : Func} {c : Code} {x : Operand} {args : List Operand} {vs cs : List Value} {ts : Array TypeId} {Post : Value → Mem → SHeap → Prop}
  (hx : r.ev x = some (.func (.func f) #[] cs.toArray)) (hf : P.funcs[f]? = some fn) (hname : (fn.name == "runtime.NumGoroutine") = false) (hb : fn.body = some c)
  (hv : r.evs args = some vs) (hd : Nat.blt d n = true) (hs : Does P f (vs ++ cs).toArray w0 m H Post) (h : ∀ v m' H', Post v m' H' → WL P ro n w0 ops Q l ((d, v) :: r) ds m' H') :
  WL P ro n w0 ops Q (⟨some d, .call ⟨.value x, args.toArray, ts⟩, ty, pos, after, none⟩ :: l) r ds m H := by
 refine .enter (fun d' e => by cases e; simpa [Nat.blt_eq] using hd) (fun _ h => by cases h) (fun tmps w ho _ => ?_) hs h
 have e1 := ho.evs (marks ds) hv
 have e2 := ho.ev (ds := marks ds) hx
 have h1 : fn.name ≠ "runtime.NumGoroutine" := by simpa using hname
 have h2 : ∀ a : Array Value, (callFunc f a).run P w = .ok (.enter f a) w := fun a => by simp [callFunc, hf, h1, hb]
 simp only [execOp, resolve, Sem.run_bind, List.map_toArray, e1]
 simp [e2, Deferred.ofValue, invoke, h2, Result.andThen]
end
end Go.Eng
namespace Go.Eng
open Go Go.RowKit
section
def ownMethod (P : Program) (t : TypeId) (name : String) : Option (FuncId × Bool) :=
 (P.info? t).bind fun i => (i.methods.find? (·.name == name)).bind fun mt => if mt.path.isEmpty then mt.func else none
def ownRecv (P : Program) (t : TypeId) (pr : Bool) : Bool :=
 match P.underlying t, pr with
 | some (.pointer _), true => true
 | some (.pointer _), false => false
 | some _, false => true
 | _, _ => false
def notIface (P : Program) (t : TypeId) : Bool := (P.underlying t).any (fun d => match d with | .interface _ => false | _ => true)
end
end Go.Eng
namespace Go.Eng
open Go Go.RowKit
section
theorem WL.eqlNilI {t t' : TypeId} {x : Operand} {v : Value} {b : Bool} {ms : Array (String × TypeId)} (hx : r.ev x = some v) (hv : v = .nilIface ∧ b = true ∨ ∃ u z, v = .iface u z ∧ b = false) (hu : P.underlying t = some (.interface ms)) (hd : Nat.blt d n = true)
  (h : WL P ro n w0 ops Q l ((d, .bool b) :: r) ds m H) : WL P ro n w0 ops Q (⟨some d, .binOp .eql t x (.const .nilIface) t', ty, pos, after, none⟩ :: l) r ds m H :=
 .val hd (fun _ h => by cases h) (fun tmps w ho _ => by
  have e0 : (Act.mk tmps (marks ds)).eval (.const .nilIface) = .nilIface := rfl
  have e1 : (eqGuard .eql t x (.const .nilIface) v .nilIface) = pure () := by
   unfold eqGuard
   rcases hv with ⟨rfl, _⟩ | ⟨u, z, rfl, _⟩ <;> simp
  have h3 : ∀ e, (Op.equalIn (e + 1) t v .nilIface).run P w = .ok b w := fun e => by
   rcases hv with ⟨rfl, rfl⟩ | ⟨u, z, rfl, rfl⟩ <;> simp [Op.equalIn, run_underlying hu]
  have h4 := h3 9999
  simp [execOp, ho.ev hx, e0, e1, binOp, Op.equal, show Op.maxDepth = 9999 + 1 from rfl, h4]) h
theorem WL.neqNilI {t t' : TypeId} {x : Operand} {v : Value} {b : Bool} {ms : Array (String × TypeId)} (hx : r.ev x = some v) (hv : v = .nilIface ∧ b = true ∨ ∃ u z, v = .iface u z ∧ b = false) (hu : P.underlying t = some (.interface ms)) (hd : Nat.blt d n = true)
  (h : WL P ro n w0 ops Q l ((d, .bool (!b)) :: r) ds m H) : WL P ro n w0 ops Q (⟨some d, .binOp .neq t x (.const .nilIface) t', ty, pos, after, none⟩ :: l) r ds m H :=
 .val hd (fun _ h => by cases h) (fun tmps w ho _ => by
  have e0 : (Act.mk tmps (marks ds)).eval (.const .nilIface) = .nilIface := rfl
  have e1 : (eqGuard .neq t x (.const .nilIface) v .nilIface) = pure () := by
   unfold eqGuard
   rcases hv with ⟨rfl, _⟩ | ⟨u, z, rfl, _⟩ <;> simp
  have h3 : ∀ e, (Op.equalIn (e + 1) t v .nilIface).run P w = .ok b w := fun e => by
   rcases hv with ⟨rfl, rfl⟩ | ⟨u, z, rfl, rfl⟩ <;> simp [Op.equalIn, run_underlying hu]
  have h4 := h3 9999
  simp [execOp, ho.ev hx, e0, e1, binOp, Op.equal, show Op.maxDepth = 9999 + 1 from rfl, h4]) h
theorem WQ.persist {e : Exit} {b : Nat} {o : Obj} {H1 : SHeap} (ho : Out (.blk b o) H H1) (h : ∀ m', m.le m' → m' b = some o → WQ n w0 Q e r ds m' H1) : WQ n w0 Q e r ds m H :=
 fun tmps w hok hs => by
  obtain ⟨h1, h2⟩ := (hs.perm ho.perm).persist
  exact h _ h2 (by simp [Mem.ins]) tmps w hok h1
end
def FnOK (P : Program) (w0 : World) (fv : Value) (vs : List Value) (m : Mem) (H : SHeap) (Jt Jf : Mem → SHeap → Prop) : Prop :=
 ∀ ⦃ro : Option Nat⦄ ⦃n : Nat⦄ ⦃Q : Exit → Act → World → Prop⦄ ⦃r : Env⦄ ⦃ds : List Dfr⦄ ⦃ops : Array Oper⦄ ⦃l : List Oper⦄ ⦃d : Nat⦄ ⦃ty : TypeId⦄ ⦃pos : String⦄ ⦃after : Array Edge⦄ ⦃f : Operand⦄ ⦃args : List Operand⦄ ⦃ts : Array TypeId⦄,
  r.ev f = some fv → r.evs args = some vs → Nat.blt d n = true →
  (∀ m' H', Jt m' H' → WL P ro n w0 ops Q l ((d, .bool true) :: r) ds m' H') → (∀ m' H', Jf m' H' → WL P ro n w0 ops Q l ((d, .bool false) :: r) ds m' H') →
  WL P ro n w0 ops Q (⟨some d, .call ⟨.value f, args.toArray, ts⟩, ty, pos, after, none⟩ :: l) r ds m H
theorem FnOK.yield {P : Program} {w0 : World} {lp : Nat} {vs : List Value} {m : Mem} {H : SHeap} {Jt Jf : Mem → SHeap → Prop} (h : YieldOK P w0 lp vs.toArray m H Jt Jf) : FnOK P w0 (.func (.yield lp) #[] #[]) vs m H Jt Jf :=
 fun ro n Q r ds ops l d ty pos after f args ts hf hv hd ht hn => WL.yield hf hv hd h ht hn
end Go.Eng
namespace Go.Eng
open Go Go.RowKit
section
def sizedB (P : Program) (t : TypeId) : Bool := (P.info? t).any fun j => j.size != 0
theorem zD5 {t : TypeId} (h : sizedB P t = true) : ∃ j, P.info? t = some j ∧ j.size ≠ 0 := by
 unfold sizedB at h
 cases hi : P.info? t with
 | none => simp [hi] at h
 | some j => simp [hi] at h; exact ⟨j, rfl, h⟩
theorem zEa {b : Nat} {L : List Value} {T : TypeId} {fz : Nat × Nat} {w : World} (hm : Item.blk b (.cells L.toArray T fz) ∈ H) (hs : Sat w0 m H w) : w.shape? b = some (T, L.length) := by
 have h : w.heap[b]? = some (.cells L.toArray T fz) := hs.own _ hm
 simp [World.shape?, h]
theorem WL.toUnsafe {src dst t T : TypeId} {x : Operand} {b : Nat} {L : List Value} {fz : Nat × Nat} (hx : r.ev x = some (.pointer (some ⟨b, 0, none⟩))) (hm : Item.blk b (.cells L.toArray T fz) ∈ H) (hL : 0 < L.length)
  (hs : P.underlying src = some (.pointer t)) (hu : P.underlying dst = some .unsafePointer) (ht : sizedB P t = true) (hd : Nat.blt d n = true)
  (h : WL P ro n w0 ops Q l ((d, .pointer (some ⟨b, 0, none⟩)) :: r) ds m H) : WL P ro n w0 ops Q (⟨some d, .convert src dst x, ty, pos, after, none⟩ :: l) r ds m H :=
 .val hd (fun _ h => by cases h) (fun tmps w ho hsat => by
  obtain ⟨j, hj, hj0⟩ := zD5 ht
  have := Lib.run_to_unsafe (P := P) w ⟨b, 0, none⟩ hs hu hj hj0 (zEa hm hsat) hL
  simp [execOp, ho.ev hx, this]) h
theorem WL.fromUnsafe {src dst t T : TypeId} {x : Operand} {b : Nat} {L : List Value} {fz : Nat × Nat} (hx : r.ev x = some (.pointer (some ⟨b, 0, none⟩))) (hm : Item.blk b (.cells L.toArray T fz) ∈ H) 
  (hs : P.underlying src = some .unsafePointer) (hu : P.underlying dst = some (.pointer t)) (ht : sizedB P t = true) (hl : liesAt P P.depth T (L.length / P.cellsOf T) 0 t 1 = true) (hd : Nat.blt d n = true)
  (h : WL P ro n w0 ops Q l ((d, .pointer (some ⟨b, 0, none⟩)) :: r) ds m H) : WL P ro n w0 ops Q (⟨some d, .convert src dst x, ty, pos, after, none⟩ :: l) r ds m H :=
 .val hd (fun _ h => by cases h) (fun tmps w ho hsat => by
  obtain ⟨j, hj, hj0⟩ := zD5 ht
  have := Lib.run_from_unsafe (P := P) w ⟨b, 0, none⟩ hs hu hj (zEa hm hsat) hl
  simp [execOp, ho.ev hx, this]) h
theorem WL.extern {f : FuncId} {fn : Func} {e : Array Value → Sem Value} {args : List Operand} {vs : List Value} {ts : Array TypeId} {v : Value} (hf : P.funcs[f]? = some fn) (hname : (fn.name == "runtime.NumGoroutine") = false) (hb : fn.body.isNone = true)
  (hn : Extern.findNext fn = none) (he : Extern.find fn = some e) (hv : r.evs args = some vs) (hrun : ∀ w, (e vs.toArray).run P w = .ok v w) (hd : Nat.blt d n = true)
  (h : WL P ro n w0 ops Q l ((d, v) :: r) ds m H) : WL P ro n w0 ops Q (⟨some d, .call ⟨.value (.func f), args.toArray, ts⟩, ty, pos, after, none⟩ :: l) r ds m H :=
 .val hd (fun _ h => by cases h) (fun tmps w ho _ => by
  have e1 := ho.evs (marks ds) hv
  have h2 := run_callFunc_extern hf hname hb hn he vs.toArray w
  rw [hrun] at h2
  simp only [execOp, resolve, Sem.run_bind, List.map_toArray, e1]
  simp [Act.eval, Deferred.ofValue, Go.invoke, h2, Result.andThen]) h
theorem WL.neqSameP {t t' e : TypeId} {x y : Operand} {a : Addr} {j : TypeInfo} (hx : r.ev x = some (.pointer (some a))) (hy : r.ev y = some (.pointer (some a))) (hu : P.underlying t = some (.pointer e)) (hi : P.info? e = some j) (hd : Nat.blt d n = true)
  (h : WL P ro n w0 ops Q l ((d, .bool false) :: r) ds m H) : WL P ro n w0 ops Q (⟨some d, .binOp .neq t x y t', ty, pos, after, none⟩ :: l) r ds m H :=
 .val hd (fun _ h => by cases h) (fun tmps w ho _ => by
  have h1 := Lib.run_neq_ptr_same (P := P) w a hu hi
  have h2 : eqGuard .neq t x y (.pointer (some a)) (.pointer (some a)) = pure () := rfl
  simp [execOp, ho.ev hx, ho.ev hy, h2, h1]) h
theorem WL.sliceData {x : Operand} {a : Option Addr} {len cap : Nat} {ts : Array TypeId} (hx : r.ev x = some (.slice a len cap)) (hc : a = none ∨ 0 < cap) (hd : Nat.blt d n = true)
  (h : WL P ro n w0 ops Q l ((d, .pointer a) :: r) ds m H) : WL P ro n w0 ops Q (⟨some d, .call ⟨.builtin .unsafeSliceData, #[x], ts⟩, ty, pos, after, none⟩ :: l) r ds m H :=
 .val hd (fun _ h => by cases h) (fun tmps w ho _ => by
  have h1 : (Builtin.unsafeSliceData_ ts ty #[.slice a len cap]).run P w = .ok (.pointer a) w := by
   cases a with
   | none => rfl
   | some a =>
    have h0 : cap ≠ 0 := by
     rcases hc with h | h
     ·cases h
     ·omega
    exact Lib.run_unsafeSliceData_row w _ _ _ _ _ h0
  simp only [execOp, resolve, Go.invoke, Go.builtin, Sem.run_bind, Sem.run_pure, Result.andThen_ok, List.map_toArray, List.map_cons, List.map_nil, ho.ev hx]
  simp [h1]) h
def isSD : Op → Bool
 | .call ⟨.builtin .unsafeSliceData, _, _⟩ => true
 | _ => false
theorem iSD {dst : Option Nat} {op : Op} (_hk : isSD op = true) (h : WL P ro n w0 ops Q (⟨dst, op, ty, pos, after, none⟩ :: l) r ds m H) : WL P ro n w0 ops Q (⟨dst, op, ty, pos, after, none⟩ :: l) r ds m H := h
def bCs (s : List UInt8) : List (List Value) := s.map fun b => [Value.int .u8 (b.toNat : Int)]
theorem zS (s : List UInt8) : (bCs s).length = s.length := by simp [bCs]
theorem WL.strRow {pt it e : TypeId} {x y : Operand} {a : Option Addr} {cap : Nat} {s : List UInt8} {H1 : SHeap} (hx : r.ev x = some (.pointer a)) (hy : r.ev y = some (.int .i64 (s.length : Int))) (ho : Out (.row a cap e 1 (bCs s)) H H1)
  (hp : P.underlying pt = some (.pointer e)) (hc : Nat.beq (P.cellsOf e) 1 = true) (hl : s.length ≤ 9223372036854775807) (hd : Nat.blt d n = true)
  (h : WL P ro n w0 ops Q l ((d, str s) :: r) ds m H1) : WL P ro n w0 ops Q (⟨some d, .call ⟨.builtin .unsafeString, #[x, y], #[pt, it]⟩, ty, pos, after, none⟩ :: l) r ds m H := by
 refine .gen (fun v' m' H' => v' = str s ∧ m' = m ∧ H' = H1) hd (fun _ h => by cases h) (fun tmps w hok hs => ?_) (by rintro _ _ _ ⟨rfl, rfl, rfl⟩; exact h)
 have hs1 := hs.perm ho.perm
 by_cases h0 : s = []
 ·subst h0
  refine ⟨str [], m, H1, w, ?_, hs1.drop, rfl, rfl, rfl⟩
  have h1 := Lib.run_unsafeString_none (P := P) w pt it ty a
  simp only [execOp, resolve, Go.invoke, Go.builtin, Sem.run_bind, Sem.run_pure, Result.andThen_ok, List.map_toArray, List.map_cons, List.map_nil, hok.ev hx, hok.ev hy]
  simp only [List.length_nil] at h1 ⊢
  simp [h1]
  rfl
 ·have hpos : 0 < s.length := List.length_pos_iff.2 h0
  obtain ⟨a0, rfl⟩ := zA1 hs1 List.mem_cons_self (by rw [zS]; exact hpos)
  obtain ⟨arr, fz, h1, h2, h3, h4, h5, h6, h7, h8⟩ := hs1.own _ List.mem_cons_self
  have hcells := zBy (w0 := w0) (m := m) (H := .row (some a0) cap e 1 (bCs s) :: H1) (a := a0) (cap := cap) (T := e) (s := s) List.mem_cons_self w hs1
  rw [zS] at h4
  have hus := Lib.run_unsafeString_row (P := P) w pt it ty e hp (Nat.eq_of_beq_eq_true hc) a0.block arr.size (by simp [World.shape?, h2]) s h0 (by rw [h3]; omega) hl (by
   intro j x hx
   have := hcells j (.int .u8 x.toNat) (by simp [hx])
   rw [h1] at this
   exact this)
  rw [← h1] at hus
  have hblk := (Array.getElem?_eq_some_iff.1 h2).1
  have hz : (w.freeze a0 s.length).heap.size = w.heap.size := by unfold World.freeze; split <;> simp
  have hoth : ∀ b, b ≠ a0.block → (w.freeze a0 s.length).heap[b]? = w.heap[b]? := by
   intro b hb
   unfold World.freeze
   split
   ·rfl
   ·simp only [Array.getElem?_modify]
    rw [if_neg (fun h => hb h.symm)]
  obtain ⟨o, ho'⟩ : ∃ o, (w.freeze a0 s.length).heap[a0.block]? = some o := ⟨_, Array.getElem?_eq_getElem (by rw [hz]; exact hblk)⟩
  have hos : (w.freeze a0 s.length).os = w.os := by unfold World.freeze; split <;> rfl
  have hot : (w.freeze a0 s.length).tape = w.tape := by unfold World.freeze; split <;> rfl
  have hoo : (w.freeze a0 s.length).output = w.output := by unfold World.freeze; split <;> rfl
  have hs2 := hs1.turn (j := .blk a0.block o) hos hot hoo (Nat.le_of_eq hz.symm) (fun b _ hb => hoth b (by simpa [Item.foot] using hb)) ho' (fun b hb => .inl (by simpa [Item.foot] using hb)) (by simp [Item.foot])
  refine ⟨str s, m, H1, w.freeze a0 s.length, ?_, hs2.drop, rfl, rfl, rfl⟩
  simp only [execOp, resolve, Go.invoke, Go.builtin, Sem.run_bind, Sem.run_pure, Result.andThen_ok, List.map_toArray, List.map_cons, List.map_nil, hok.ev hx, hok.ev hy]
  simp [hus]
end
end Go.Eng
namespace Go.Eng
open Go Go.RowKit
def SeqM {α : Type} (P : Program) (gf : FuncId) (lb : List Value) (encs : α → List Value) (xs : List α) (Cap : Mem → Prop) : Prop :=
 ∀ (w0 : World) (l : Nat) (J Jx : List α → Mem → SHeap → Prop) (m : Mem) (H : SHeap), (∀ pre m m' H, J pre m H → m.le m' → J pre m' H) → (∀ pre m m' H, Jx pre m H → m.le m' → Jx pre m' H) → Cap m → J [] m H →
  (∀ pre x post, xs = pre ++ x :: post → ∀ m1 H1 Hit, J pre m1 H1 → m.le m1 →
   YieldOK P w0 l (encs x).toArray m1 (Hit ++ H1) (fun m' H' => ∃ H2, H' = Hit ++ H2 ∧ J (pre ++ [x]) m' H2 ∧ m1.le m') (fun m' H' => ∃ H2, H' = Hit ++ H2 ∧ Jx (pre ++ [x]) m' H2 ∧ m1.le m')) →
  Does P gf (.func (.yield l) #[] #[] :: lb).toArray w0 m H (fun _ m' H' => m.le m' ∧ (J xs m' H' ∨ ∃ pre, pre <+: xs ∧ Jx pre m' H'))
theorem SeqC.toM {α : Type} {P : Program} {gf : FuncId} {lb : List Value} {encs : α → List Value} {xs : List α} {Cap : Mem → Prop} (h : SeqC P gf lb encs xs Cap) : SeqM P gf lb encs xs Cap :=
 fun w0 l J Jx m H _ _ hc h0 hy => h w0 l J Jx m H hc h0 hy
section
theorem zEN {α : Type} {gf : FuncId} {lb : List Value} {encs : α → List Value} {xs : List α} {Cap : Mem → Prop} {ps : List Nat} {assign body : Code} {fnd : FuncId} {tmps : Array Value} {L D : Nat} {Hb : SHeap}
  (hseq : SeqM P gf lb encs xs Cap) (hcap : Cap m) (hps : ∀ x, (encs x).length = ps.length) (hpn : ∀ p ∈ ps, p < n) (hok : r.ok n tmps)
  (J : List α → Mem → SHeap → Prop) (Jx : Code → List α → Mem → SHeap → Prop) (hmJ : ∀ pre m m' Hl, J pre m Hl → m.le m' → J pre m' Hl) (hmX : ∀ c pre m m' Hl, Jx c pre m Hl → m.le m' → Jx c pre m' Hl) {Hl0 : SHeap} (h0 : J [] m Hl0)
  (hround : ∀ lp pre x post, xs = pre ++ x :: post → ∀ m1 Hl, J pre m1 Hl → m.le m1 → ∀ Hfr, (∃ rec, Item.blk lp (.loop rec) ∈ Hfr ∧ rec.defers = D) → WC P (some lp) n w0 assign (zB P n w0 lp body J Jx (pre ++ [x]) m1 Hfr) (Env.given ps (encs x) r) [] m1 (Hl ++ Hfr))
  {w : World} (hs : Sat w0 m (.blk L (.loop { state := .ready, pending := none, fn := fnd, tmps := tmps, params := ps.toArray, assign := assign, body := body, defers := D }) :: (Hl0 ++ Hb)) w) :
  CallsIn (FW none) 0 P gf (.func (.yield L) #[] #[] :: lb).toArray w fun e w' => ∃ v m', e = .returned v ∧ m.le m' ∧
   ((∃ Hl, J xs m' Hl ∧ Sat w0 m' (.blk L (.loop { state := .ready, pending := none, fn := fnd, tmps := tmps, params := ps.toArray, assign := assign, body := body, defers := D }) :: (Hl ++ Hb)) w') ∨
    (∃ c pre Hl, pre <+: xs ∧ Jx c pre m' Hl ∧ Sat w0 m' (.blk L (.loop { state := .done, pending := some c, fn := fnd, tmps := tmps, params := ps.toArray, assign := assign, body := body, defers := D }) :: (Hl ++ Hb)) w')) := by
 obtain ⟨rec, hrec⟩ : ∃ rec : LoopState → Option Code → Loop, rec = fun st pe => { state := st, pending := pe, fn := fnd, tmps := tmps, params := ps.toArray, assign := assign, body := body, defers := D } := ⟨_, rfl⟩
 have hs1 : Sat w0 m (.blk L (.loop (rec .ready none)) :: (Hl0 ++ Hb)) w := by rw [hrec]; exact hs
 have := hseq w0 L (fun pre m H => ∃ Hl, H = .blk L (.loop (rec .ready none)) :: (Hl ++ Hb) ∧ J pre m Hl)
  (fun pre m H => ∃ c Hl, H = .blk L (.loop (rec .done (some c))) :: (Hl ++ Hb) ∧ Jx c pre m Hl) m _ (fun _ _ _ _ ⟨Hl, e, h⟩ hm => ⟨Hl, e, hmJ _ _ _ _ h hm⟩) (fun _ _ _ _ ⟨c, Hl, e, h⟩ hm => ⟨c, Hl, e, hmX _ _ _ _ _ h hm⟩) hcap ⟨Hl0, rfl, h0⟩ ?_ w hs1
 ·refine this.mono ?_
  rintro e w' ⟨v, m', H', rfl, ⟨hle, hP⟩, hs'⟩
  refine ⟨v, m', rfl, hle, ?_⟩
  rcases hP with ⟨Hl, rfl, hJ⟩ | ⟨pre, hpre, c, Hl, rfl, hJ⟩
  ·exact .inl ⟨Hl, hJ, by rw [hrec] at hs'; exact hs'⟩
  ·exact .inr ⟨c, pre, Hl, hpre, hJ, by rw [hrec] at hs'; exact hs'⟩
 ·rintro pre x post hx m1 H1 Hit ⟨Hl, rfl, hJ⟩ hle W hW
  have hL : W.heap[L]? = some (.loop (rec .ready none)) := hW.own (.blk L _) (by simp)
  have hy := run_yield (P := P) (args := (encs x).toArray) hL (by rw [hrec]; simp [hps x])
  refine ⟨fnd, (ps.zip (encs x)).foldl (fun t (p : Nat × Value) => t.setIfInBounds p.1 p.2) tmps, assign, body, ?_, roundIn_of_wpIn (jA none fnd) ?_⟩
  ·rw [hy, hrec]
   congr 2
   simp
  ·have hsat1 := hW.perm (vA Hit (.blk L (.loop (rec .ready none))) Hl Hb)
   have hr := hround L pre x post hx m1 Hl hJ hle (.blk L (.loop (rec .ready none)) :: (Hb ++ Hit)) ⟨_, List.mem_cons_self, by rw [hrec]⟩ _ W (hok.given ps (encs x) hpn) hsat1
   refine wpIn_mono hr ?_
   intro e a1 W1 hq
   cases e with
   | normal =>
    obtain ⟨r1, m2, Hl1, hok1, hdf, hs2, hle2, hbody⟩ := hq
    have hs2' := hs2.perm (List.perm_middle (a := Item.blk L (.loop (rec .ready none))) (l₁ := Hl1) (l₂ := Hb ++ Hit))
    have hL1 : W1.heap[L]? = some (.loop (rec .ready none)) := hs2'.own _ List.mem_cons_self
    refine ⟨_, run_beginRound hL1 (by rw [hrec]), ?_⟩
    have hs3 := (hs2'.putObj (o' := .loop { rec .ready none with state := .busy })).perm (List.perm_middle (a := Item.blk L (.loop { rec .ready none with state := .busy })) (l₁ := Hl1) (l₂ := Hb ++ Hit)).symm
    obtain ⟨tm1, df1⟩ := a1
    simp only at hdf
    subst hdf
    refine wpIn_mono (hbody (.blk L (.loop { rec .ready none with state := .busy }) :: (Hb ++ Hit)) ⟨_, List.mem_cons_self⟩ tm1 _ hok1 hs3) ?_
    have fin : ∀ (jump : Option Code) (m3 : Mem) (Hl3 : SHeap) (W3 : World), Sat w0 m3 (Hl3 ++ (.blk L (.loop { rec .ready none with state := .busy }) :: (Hb ++ Hit))) W3 →
      ∃ w4, (Instr.endRound L jump).run P W3 = .ok (.bool jump.isNone) w4 ∧ Sat w0 m3 (Hit ++ (.blk L (.loop (rec (if jump.isNone then .ready else .done) jump)) :: (Hl3 ++ Hb))) w4 := by
     intro jump m3 Hl3 W3 hs4
     have hs5 := hs4.perm (List.perm_middle (a := Item.blk L (.loop { rec .ready none with state := .busy })) (l₁ := Hl3) (l₂ := Hb ++ Hit))
     have hL3 : W3.heap[L]? = some (.loop { rec .ready none with state := .busy }) := hs5.own _ List.mem_cons_self
     refine ⟨_, run_endRound jump hL3, ?_⟩
     have hs6 := hs5.putObj (o' := .loop { { rec .ready none with state := .busy } with state := if jump.isNone then .ready else .done, pending := jump })
     have e1 : ({ { rec .ready none with state := .busy } with state := if jump.isNone then .ready else .done, pending := jump } : Loop) = rec (if jump.isNone then .ready else .done) jump := by rw [hrec]
     rw [e1] at hs6
     rw [e1]
     exact hs6.perm ((List.perm_middle (a := Item.blk L (.loop (rec (if jump.isNone then .ready else .done) jump))) (l₁ := Hl3) (l₂ := Hb ++ Hit)).symm.trans (vA Hit _ Hl3 Hb).symm)
    intro e3 a3 W3 hq3
    cases e3 with
    | normal =>
     obtain ⟨m3, Hl3, hJ3, hle3, hs4⟩ := hq3
     obtain ⟨w4, h4, hs5⟩ := fin none m3 Hl3 W3 hs4
     exact ⟨_, w4, h4, .inl ⟨rfl, m3, _, ⟨_, rfl, ⟨Hl3, rfl, hJ3⟩, hle3⟩, hs5⟩⟩
    | ret =>
     obtain ⟨m3, Hl3, hJ3, hle3, hs4⟩ := hq3
     obtain ⟨w4, h4, hs5⟩ := fin (some .ret) m3 Hl3 W3 hs4
     exact ⟨_, w4, h4, .inr ⟨rfl, m3, _, ⟨_, rfl, ⟨.ret, Hl3, rfl, hJ3⟩, hle3⟩, hs5⟩⟩
    | exit id =>
     obtain ⟨m3, Hl3, hJ3, hle3, hs4⟩ := hq3
     obtain ⟨w4, h4, hs5⟩ := fin (some (.exit id)) m3 Hl3 W3 hs4
     exact ⟨_, w4, h4, .inr ⟨rfl, m3, _, ⟨_, rfl, ⟨.exit id, Hl3, rfl, hJ3⟩, hle3⟩, hs5⟩⟩
    | goto t =>
     obtain ⟨m3, Hl3, hJ3, hle3, hs4⟩ := hq3
     obtain ⟨w4, h4, hs5⟩ := fin (some (.goto t)) m3 Hl3 W3 hs4
     exact ⟨_, w4, h4, .inr ⟨rfl, m3, _, ⟨_, rfl, ⟨.goto t, Hl3, rfl, hJ3⟩, hle3⟩, hs5⟩⟩
    | panic ch => exact hq3.elim
    | outgrown => exact hq3.elim
   | _ => exact hq.elim
theorem WC.rangeFuncM {α : Type} {g : Operand} {gf : FuncId} {fn : Func} {cb : Code} {lb : List Value} {encs : α → List Value} {xs : List α} {Cap : Mem → Prop} {ps : List Nat} {assign body : Code} {Hl0 Hc : SHeap}
  (hg : r.ev g = some (.func (.func gf) #[] lb.toArray)) (hf : P.funcs[gf]? = some fn) (hname : (fn.name == "runtime.NumGoroutine") = false) (hb : fn.body = some cb)
  (hseq : SeqM P gf lb encs xs Cap) (hcap : Cap m) (hps : ∀ x, (encs x).length = ps.length) (hpn : ps.all (fun p => Nat.blt p n) = true)
  (J : List α → Mem → SHeap → Prop) (Jx : Code → List α → Mem → SHeap → Prop) (hmJ : ∀ pre m m' Hl, J pre m Hl → m.le m' → J pre m' Hl) (hmX : ∀ c pre m m' Hl, Jx c pre m Hl → m.le m' → Jx c pre m' Hl) (ht : Tail Hc H Hl0) (h0 : J [] m Hl0)
  (hround : ∀ lp pre x post, xs = pre ++ x :: post → ∀ m1 Hl, J pre m1 Hl → m.le m1 → ∀ Hfr, (∃ rec, Item.blk lp (.loop rec) ∈ Hfr) → WC P (some lp) n w0 assign (zB P n w0 lp body J Jx (pre ++ [x]) m1 Hfr) (Env.given ps (encs x) r) [] m1 (Hl ++ Hfr))
  (hdone : ∀ (D : Nat) m' Hl, J xs m' Hl → m.le m' → WQ n w0 Q .normal r (D :: ds) m' (Hl ++ (.blk D (.deferred (some [])) :: Hc)))
  (hstop : ∀ (D : Nat) c pre m' Hl, pre <+: xs → Jx c pre m' Hl → m.le m' → WC P none n w0 c Q r (D :: ds) m' (Hl ++ (.blk D (.deferred (some [])) :: Hc))) :
  WC P none n w0 (.rangeFunc g ps.toArray assign body) Q r ds m H := by
 intro tmps w ho hs
 rw [ht.eq] at hs
 have hpn' : ∀ p ∈ ps, p < n := fun p hp => by have := List.all_eq_true.1 hpn p hp; simpa [Nat.blt_eq] using this
 have h1 : fn.name ≠ "runtime.NumGoroutine" := by simpa using hname
 have h2 : ∀ (a : Array Value) (w : World), (callFunc gf a).run P w = .ok (.enter gf a) w := fun a w => by simp [callFunc, hf, h1, hb]
 refine wpIn_rangeFunc (fun fnd _ => ?_)
 have hs1 := (hs.alloc (.deferred (some []))).alloc (.loop { state := .ready, pending := none, fn := fnd, tmps := tmps, params := ps.toArray, assign := assign, body := body, defers := w.heap.size })
 rw [World.size_alloc] at hs1
 have hs2 := hs1.perm (List.Perm.cons _ (List.perm_middle (a := Item.blk w.heap.size (.deferred (some []))) (l₁ := Hl0) (l₂ := Hc)).symm)
 have hcall := zEN (P := P) hseq hcap hps hpn' ho J Jx hmJ hmX h0 (fun lp pre x post hx m1 Hl hJ hle Hfr ⟨rec, hr, _⟩ => hround lp pre x post hx m1 Hl hJ hle Hfr ⟨rec, hr⟩) hs2
 have henter := run_enterLoop_outer (P := P) (w := w) fnd tmps ps.toArray assign body
 generalize (w.alloc (.deferred (some []))).alloc (.loop { state := .ready, pending := none, fn := fnd, tmps := tmps, params := ps.toArray, assign := assign, body := body, defers := w.heap.size }) = W1 at henter hcall
 refine ⟨w.heap.size + 1, [{ target := .collected w.heap.size, args := #[] }], W1, { target := .fn (.func gf) lb.toArray, args := #[.func (.yield (w.heap.size + 1)) #[] #[]] }, W1, gf, (.func (.yield (w.heap.size + 1)) #[] #[] :: lb).toArray, W1,
  henter, ?_, fun f _ => jA none f, ?_, jV none, ?_⟩
 ·have e0 : ∀ v, (Act.mk tmps (marks ds)).eval (.const v) = v := fun _ => rfl
  simp [resolve, ho.ev hg, e0, Deferred.ofValue]
 ·simp [invoke, h2]
 ·have hc : CallsIn (FW none) (0 - 1) P gf (.func (.yield (w.heap.size + 1)) #[] #[] :: lb).toArray _ _ := hcall
  refine hc.mono ?_
  rintro e w' ⟨v, m', rfl, hle, (⟨Hl, hJ, hs3⟩ | ⟨c, pre, Hl, hpre, hJ, hs3⟩)⟩
  ·obtain ⟨w4, h4, hs4⟩ := uT (P := P) hs3 (by simp)
   exact ⟨none, w4, h4, hdone _ m' Hl hJ hle tmps w4 ho hs4⟩
  ·obtain ⟨w4, h4, hs4⟩ := uT (P := P) hs3 (by simp)
   exact ⟨some c, w4, h4, hstop _ c pre m' Hl hpre hJ hle tmps w4 ho hs4⟩
end
end Go.Eng
namespace Go.Eng
open Go Go.RowKit
theorem Does.ofSame {P : Program} {f : FuncId} {args : Array Value} {w0 : World} {m : Mem} {H : SHeap} {v : Value} (h : ∀ w, Sat w0 m H w → Calls P f args w fun e w' => e = .returned v ∧ w' = w) : Does P f args w0 m H (Gives v m H) :=
 fun w hs => (callsIn_wide.2 (h w hs)).mono fun _ _ ⟨he, hw⟩ => ⟨v, m, H, he, ⟨rfl, rfl, rfl⟩, by subst hw; exact hs⟩
theorem Does.ofBelow {P : Program} {f : FuncId} {args : Array Value} {w0 : World} {m : Mem} {H : SHeap} {v : Value} (h : ∀ w, Sat w0 m H w → Calls P f args w fun e w' => e = .returned v ∧ Below w.heap.size w w') : Does P f args w0 m H (Gives v m H) :=
 fun w hs => (callsIn_wide.2 (h w hs)).mono fun _ _ ⟨he, hw⟩ => ⟨v, m, H, he, ⟨rfl, rfl, rfl⟩, hs.below_keep hw⟩
def GInt (g : Nat) (m : Mem) : Prop := ∃ cs T fz z, m g = some (.cells cs T fz) ∧ cs[0]? = some (.int .i64 z)
theorem GInt.le {g : Nat} {m m' : Mem} (h : GInt g m) (hm : m.le m') : GInt g m' := by
 obtain ⟨cs, T, fz, z, h1, h2⟩ := h
 exact ⟨cs, T, fz, z, hm _ _ h1, h2⟩
theorem GInt.cell {g : Nat} {m : Mem} {w0 w : World} {H : SHeap} (h : GInt g m) (hs : Sat w0 m H w) : ∃ z, w.cell? ⟨g, 0, none⟩ = some (.int .i64 z) := by
 obtain ⟨cs, T, fz, z, h1, h2⟩ := h
 exact ⟨z, by simp [World.cell?, hs.pers _ _ h1, h2]⟩
end Go.Eng
namespace Go.Eng
open Go Go.RowKit
theorem Tail.app {Hfr : SHeap} : ∀ {H : SHeap}, Tail Hfr (H ++ Hfr) H
 | [] => .nil
 | _ :: _ => .cons Tail.app
theorem Tail.all {H : SHeap} : Tail [] H H := by
 have := Tail.app (Hfr := []) (H := H)
 rwa [List.append_nil] at this
theorem xR {w0 w : World} {m : Mem} : ∀ {X H : SHeap}, Sat w0 m (X ++ H) w → Sat w0 m H w
 | [], _, h => h
 | _ :: _, _, h => xR (h.drop)
theorem x8 (X H1 F : SHeap) : List.Perm (X ++ (H1 ++ F)) ((X ++ F) ++ H1) := by
 rw [List.append_assoc]
 exact List.Perm.append_left X List.perm_append_comm
section
theorem WC.heap {c : Code} {H' : SHeap} (hh : ∀ w, Sat w0 m H w → Sat w0 m H' w) (h : WC P ro n w0 c Q r ds m H') : WC P ro n w0 c Q r ds m H := fun tmps w ho hs => h tmps w ho (hh w hs)
theorem WQ.heapX {e : Exit} {H' : SHeap} (hh : ∀ w, Sat w0 m H w → Sat w0 m H' w) (h : WQ n w0 Q e r ds m H') : WQ n w0 Q e r ds m H := fun tmps w ho hs => h tmps w ho (hh w hs)
end
end Go.Eng
namespace ZP
open Go Go.Eng
attribute [local irreducible] WL WC WQ QFun zJ Does Q1 zD zB Go.Addr.add
theorem zJR (k : Nat) (w0 : World) (m : Mem) (H : SHeap) : Does Tryz.prog 155 #[.int .i64 (k : Int)] w0 m H (Gives (.bool (decide (bareK k))) m H) := by
 refine Does.of_body func155 rfl ntmps155 rfl ?_
 by_cases h1 : k = 11
 ·try (refine st ?_; intros)
  refine zR ?_
  exact Gives.mk (congrArg _ (by simp [y6, bareK, h1] <;> omega))
 by_cases h2 : k = 4
 ·try (refine st ?_; intros)
  refine zR ?_
  exact Gives.mk (congrArg _ (by simp [y6, bareK, h1, h2] <;> omega))
 by_cases h3 : k = 9
 ·try (refine st ?_; intros)
  refine zR ?_
  exact Gives.mk (congrArg _ (by simp [y6, bareK, h1, h2, h3] <;> omega))
 ·try (refine st ?_; intros)
  refine zR ?_
  exact Gives.mk (congrArg _ (by simp [y6, bareK, h1, h2, h3] <;> omega))
theorem zIn (u : Un) (w0 : World) (m : Mem) (H : SHeap) : Does Tryz.prog 156 #[u.v] w0 m H (Gives (.bool (decide (jointU u))) m H) := by
 unfold Un.v Un.cs
 refine Does.of_body (args := [.agg #[.int .i64 (u.k : Int), .int .i32 (u.r : Int), .int .i64 (u.a : Int), .int .i64 (u.z : Int), .bool u.o]]) func156 rfl ntmps156 rfl ?_
 by_cases h1 : u.r = 39
 ·try (refine st ?_; intros)
  refine zR ?_
  exact Gives.mk (congrArg _ (by simp [y6, jointU, h1] <;> omega))
 by_cases h2 : u.r = 8217
 ·try (refine st ?_; intros)
  refine zR ?_
  exact Gives.mk (congrArg _ (by simp [y6, jointU, h2] <;> omega))
 by_cases h3 : u.r = 45
 ·try (refine st ?_; intros)
  refine zR ?_
  exact Gives.mk (congrArg _ (by simp [y6, jointU, h3] <;> omega))
 by_cases h4 : u.r = 8208
 ·try (refine st ?_; intros)
  refine zR ?_
  exact Gives.mk (congrArg _ (by simp [y6, jointU, h4] <;> omega))
 ·try (refine st ?_; intros)
  refine zR ?_
  exact Gives.mk (congrArg _ (by simp [y6, jointU, h1, h2, h3, h4] <;> omega))
theorem zJ8 (u : Un) (w0 : World) (m : Mem) (H : SHeap) : Does Tryz.prog 157 #[u.v] w0 m H (Gives (.bool (decide (dotU u))) m H) := by
 unfold Un.v Un.cs
 refine Does.of_body (args := [.agg #[.int .i64 (u.k : Int), .int .i32 (u.r : Int), .int .i64 (u.a : Int), .int .i64 (u.z : Int), .bool u.o]]) func157 rfl ntmps157 rfl ?_
 cases ho : u.o with
 | false =>
  try (refine st ?_; intros)
  refine zR ?_
  exact Gives.mk (congrArg _ (by simp [y6, dotU, ho] <;> omega))
 | true =>
  by_cases h1 : u.r = 44
  ·try (refine st ?_; intros)
   refine zR ?_
   exact Gives.mk (congrArg _ (by simp [y6, dotU, h1, ho] <;> omega))
  by_cases h2 : u.r = 46
  ·try (refine st ?_; intros)
   refine zR ?_
   exact Gives.mk (congrArg _ (by simp [y6, dotU, h2, ho] <;> omega))
  ·try (refine st ?_; intros)
   refine zR ?_
   exact Gives.mk (congrArg _ (by simp [y6, dotU, h1, h2] <;> omega))
end ZP
namespace ZP
open Go Go.Eng
attribute [local irreducible] WL WC WQ QFun zJ Does Q1 zD zB Go.Addr.add
attribute [local irreducible] Wide kindN kindP colP zK zC dl xD uGo
theorem zHd (l : List UInt8) (w0 : World) (m : Mem) (H : SHeap) : Does Tryz.prog 110 #[str l] w0 m H (IterOf 152 l m H) := by
 refine Does.of_body func110 rfl ntmps110 rfl ?_
 try (refine st ?_; intros)
 apply WQ.fin
 ·(first | (apply vW; (· exact rfl); (· exact rfl)) | (apply uD; (· exact rfl); (· exact rfl); (· exact zlo)) | (apply uE; exact rfl) | (apply v8; (· exact rfl); (· repeat (first | exact ResAll.nil | (apply ResAll.tmp; (· exact rfl)) | (apply ResAll.cell; (· exact rfl); (· exact zlo)))); (· exact rfl)))
 ·exact ⟨_, rfl, rfl, rfl⟩
def heldU (bu by_ lp : Nat) (u : Un) : SHeap := [.blk bu (.cells u.cs.toArray 188 (0, 0)), .bl by_ [.func (.yield lp) #[] #[]] 248]
theorem zEz {l : List UInt8} {z : Nat} {p : Pc} {post : List Pc} (h : xD l z = p :: post) : p.at_ = z ∧ post = xD l (z + p.w) := by
 by_cases hk : z < l.length
 ·rw [yQ hk] at h
  injection h with h1 h2
  exact ⟨by rw [← h1, vJ], by rw [← h2, ← h1]⟩
 ·rw [xZ hk] at h; cases h
def AtU (l : List UInt8) (bu by_ lp : Nat) (J : List Un → Mem → SHeap → Prop) (pre : List Pc) (m' : Mem) (Hl : SHeap) : Prop :=
 ∃ (u : Un) (o : Option Un) (told : List Un) (z : Nat) (H1 : SHeap), (o = none ∧ u.z = 0 ∨ o = some u ∧ 0 < u.z) ∧ u.z ≤ z ∧ (∀ post, zC l = pre ++ post → post = xD l z) ∧ (∀ post, uGo none (pre ++ post) = told ++ uGo o post) ∧ Hl = heldU bu by_ lp u ++ H1 ∧ J told m' H1
def LeftU (l : List UInt8) (Jx : List Un → Mem → SHeap → Prop) (cd : Code) (m' : Mem) (Hl : SHeap) : Prop :=
 cd = .ret ∧ ∃ (X H1 : SHeap) (told : List Un), Hl = X ++ H1 ∧ told <+: unitsL l ∧ Jx told m' H1
namespace ZD2a
theorem zal {G G' : Prop} (next : G') (h : Bx G' → G := by intro zzn; (first | (refine iF 154 rfl ?_; refine zU func154 ?_ (hs := zKX _ (by assumption) _ _ _)) | (refine iF 155 rfl ?_; refine zU func155 ?_ (hs := zJR _ _ _ _))); (repeat revert zzf); exact zzn.out) : G := h ⟨next⟩
end ZD2a
open ZD2a in
theorem zIg (l : List UInt8) (hl : l.length ≤ 9223372036854775800) (b : Nat) : SeqM Tryz.prog 152 [.pp b] (fun u : Un => [u.v]) (unitsL l) (TextAt b l) := by
 intro w0 lp J Jx m H mJ mX hcap h0 hY
 have hcap' : m b = some (.cells [str l].toArray 9 (0, 0)) := hcap
 refine Does.of_body func152 rfl ntmps152 rfl ?_
 refine stg ?_; intros; rename_i by_ bu
 refine zA func153 ?_ (hs := zGD _ _ _ _)
 rintro v m H0 ⟨bs, rfl, rfl, rfl⟩
 refine WL.persist (b := bs) (by (repeat (first | exact Out.here | apply Out.there))) ?_
 intro m1 hle1 hbs
 try (refine stg ?_; intros)
 refine WC.rangeFunc (encs := fun p : Pc => [p.v]) (xs := zC l) (Cap := TextAt bs l) (lb := [.pp bs]) (ps := [8]) (Hc := [])
  (J := fun pre m' Hl => m.le m' ∧ AtU l bu by_ lp J pre m' Hl) (Jx := fun cd _ m' Hl => LeftU l Jx cd m' Hl)
  rfl func197 rfl rfl (zGb l (by omega) bs) hbs (fun _ => rfl) rfl Tail.all ?_ ?_ ?_ ?_
 ·exact ⟨hle1, ⟨0, 0, 0, 0, false⟩, none, [], 0, H, .inl ⟨rfl, rfl⟩, Nat.le_refl _, fun post h => by rw [List.nil_append] at h; unfold zC at h; exact h.symm, fun _ => rfl, rfl, mJ _ _ _ _ h0 hle1⟩
 ·rintro lp2 pre p post hx m2 Hl ⟨hle2, u, o, told, z, H1, ho, hz, hat, hcl, rfl, hJ⟩ hm2 Hfr hfr
  have hmw := zKF (l := l) (p := p) (by rw [hx]; simp)
  obtain ⟨hpz, hpost⟩ := zEz (hat _ hx).symm
  have hpr : okr p.r := by
   have hsp := zAK (pre := pre) (p := p) (post := post) hx
   rw [hsp.2.1]; exact jZ hsp.1
  have hap : (p.at_ : Int) + (p.w : Int) = ((p.at_ + p.w : Nat) : Int) := by omega
  have hnext : ∀ post, zC l = (pre ++ [p]) ++ post → post = xD l (z + p.w) := fun post2 h2 => by
   rw [List.append_assoc] at h2
   exact (zEz (hat _ h2).symm).2
  simp only [heldU, List.cons_append, List.nil_append, List.append_assoc]
  refine stg ?_; intros; rename_i bp
  refine WQ.assignedIn (.cons (.cons (.cons Tail.app))) zml ?_
  intro Hfr2 hfr2
  simp only [List.cons_append]
  simp only [Un.cs]
  rcases ho with ⟨rfl, huz⟩ | ⟨rfl, huz⟩
  ·have hno : ∀ post, uGo none ((pre ++ [p]) ++ post) = told ++ uGo (some (headU p)) post := fun post => by
    rw [List.append_assoc]; exact (hcl (p :: post)).trans (by rw [zAS])
   by_cases hk : kindP p = 2
   all_goals
    try (refine stg ?_; intros)
    rw [hap]
    exact WQ.roundOn (Hl := heldU bu by_ lp (headU p) ++ H1) (fun w h => h.drop) zml ⟨hle2, headU p, some (headU p), told, z + p.w, H1, .inr ⟨rfl, by show 0 < p.at_ + p.w; omega⟩, by show p.at_ + p.w ≤ _; omega, hnext, hno, rfl, hJ⟩
  ·by_cases hg : kindP p = 2 ∧ ¬ bareK u.k
   ·obtain ⟨hk, hb⟩ := hg
    have hbb : (!decide (bareK u.k)) = true := by simpa using hb
    have hno : ∀ post, uGo none ((pre ++ [p]) ++ post) = told ++ uGo (some (u.ext p)) post := fun post => by
     rw [List.append_assoc]; exact (hcl (p :: post)).trans (by rw [zA2 ⟨hk, hb⟩])
    have huz2 : (u.z : Int) + (p.w : Int) = ((u.z + p.w : Nat) : Int) := by omega
    try (refine stg ?_; intros)
    rw [huz2]
    exact WQ.roundOn (Hl := heldU bu by_ lp (u.ext p) ++ H1) (fun w h => h.drop) zml ⟨hle2, u.ext p, some (u.ext p), told, z + p.w, H1, .inr ⟨rfl, by show 0 < u.z + p.w; omega⟩, by show u.z + p.w ≤ _; omega, hnext, hno, rfl, hJ⟩
   ·have hno : ∀ post, uGo none ((pre ++ [p]) ++ post) = (told ++ [u]) ++ uGo (some (headU p)) post := fun post => by
     rw [List.append_assoc, List.append_assoc]; exact (hcl (p :: post)).trans (by rw [jS hg]; rfl)
    have hY1 := hY told u (uGo (some (headU p)) post) (by unfold unitsL; rw [hx, hcl, jS hg])
    have hh : kindP p ≠ 2 ∨ kindP p = 2 ∧ (!decide (bareK u.k)) = false := by
     by_cases h : kindP p = 2
     ·exact .inr ⟨h, by simpa [h] using hg⟩
     ·exact .inl h
    rcases hh with hk | ⟨hk, hb⟩
    all_goals
     try (refine stg ?_; intros)
     refine WL.heap (fun w h => h.perm (x8 [_, _, _] H1 Hfr2)) ?_
     refine WL.yield (vs := [u.v]) rfl rfl rfl (hY1 m2 H1 _ hJ hle2) ?_ ?_
     ·rintro m5 H9 ⟨H5, rfl, hJ5, hle5⟩
      refine WL.heap (fun w h => h.perm (x8 [_, _, _] H5 Hfr2).symm) ?_
      simp only [List.cons_append, List.nil_append]
      try (refine stg ?_; intros)
      rw [hap]
      exact WQ.roundOn (Hl := heldU bu by_ lp (headU p) ++ H5) (fun w h => h.drop) hle5 ⟨hle2.trans hle5, headU p, some (headU p), told ++ [u], z + p.w, H5, .inr ⟨rfl, by show 0 < p.at_ + p.w; omega⟩, by show p.at_ + p.w ≤ _; omega, hnext, hno, rfl, hJ5⟩
     ·rintro m5 H9 ⟨H5, rfl, hJ5, hle5⟩
      refine WL.heap (fun w h => h.perm (x8 [_, _, _] H5 Hfr2).symm) ?_
      simp only [List.cons_append, List.nil_append]
      try (refine stg ?_; intros)
      exact WQ.roundRet (Hl := [_, _, _] ++ H5) (fun w h => by simpa using h) hle5 ⟨rfl, _, H5, told ++ [u], rfl, ⟨uGo (some (headU p)) post, by unfold unitsL; rw [hx, hcl, jS hg]; simp⟩, hJ5⟩
 ·rintro D m2 Hl ⟨hle2, u, o, told, z, H1, ho, hz, hat, hcl, rfl, hJ⟩ hm2
  have hcl0 := hcl []
  rw [List.append_nil] at hcl0
  simp only [heldU, Un.cs, List.cons_append, List.nil_append, List.append_assoc]
  rcases ho with ⟨rfl, huz⟩ | ⟨rfl, huz⟩
  ·have hend : unitsL l = told := by unfold unitsL; rw [hcl0]; simp [uGo]
   try (refine stg ?_; intros)
   refine WQ.markNorm (H1 := [_, _] ++ H1) (List.perm_append_comm (l₁ := [_, _] ++ H1) (l₂ := [_])) ?_
   exact qF (H0 := H1) ⟨hle2, .inl (by rw [hend]; exact hJ)⟩ (hd := fun w h => h.drop.drop)
  ·have hend : unitsL l = told ++ [u] := by unfold unitsL; rw [hcl0]; simp [uGo]
   try (refine stg ?_; intros)
   refine WL.heap (fun w h => h.perm (x8 [_, _] H1 [.blk D (.deferred (some []))])) ?_
   refine WL.yield (vs := [u.v]) rfl rfl rfl (hY told u [] (by rw [hend]) m2 H1 _ hJ hle2) ?_ ?_
   ·rintro m5 H9 ⟨H5, rfl, hJ5, hle5⟩
    refine WL.heap (fun w h => h.perm (x8 [_, _] H5 [.blk D (.deferred (some []))]).symm) ?_
    simp only [List.cons_append, List.nil_append]
    try (refine stg ?_; intros)
    refine WQ.markNorm (H1 := [_, _] ++ H5) (List.perm_append_comm (l₁ := [_, _] ++ H5) (l₂ := [_])) ?_
    exact qF (H0 := H5) ⟨hle2.trans hle5, .inl (by rw [hend]; exact hJ5)⟩ (hd := fun w h => h.drop.drop)
   ·rintro m5 H9 ⟨H5, rfl, hJ5, hle5⟩
    refine WL.heap (fun w h => h.perm (x8 [_, _] H5 [.blk D (.deferred (some []))]).symm) ?_
    simp only [List.cons_append, List.nil_append]
    try (refine stg ?_; intros)
    refine WQ.markNorm (H1 := [_, _] ++ H5) (List.perm_append_comm (l₁ := [_, _] ++ H5) (l₂ := [_])) ?_
    exact qF (H0 := H5) ⟨hle2.trans hle5, .inr ⟨told ++ [u], ⟨[], by rw [hend, List.append_nil]⟩, hJ5⟩⟩ (hd := fun w h => h.drop.drop)
 ·rintro D cd pre2 m4 Hl _ ⟨rfl, X, H4, told', rfl, hpre, hJ4⟩ hm4
  try (refine stg ?_; intros)
  refine WQ.mark (H1 := X ++ H4) List.perm_append_comm ?_
  exact zR (H0 := H4) ⟨hle1.trans hm4, .inr ⟨told', hpre, hJ4⟩⟩ (hd := fun w h => xR h)
end ZP
namespace Go.Eng
open Go Go.RowKit
def Sc.cs (s : Sc) : List Value := [.int .i64 (s.st : Int), .int .i64 (s.t.k : Int), .int .i64 (s.t.a : Int), .int .i64 (s.t.z : Int), .int .i64 (s.h.k : Int), .int .i32 (s.h.r : Int), .int .i64 (s.h.a : Int), .int .i64 (s.h.z : Int), .bool s.h.o]
def Sc.fit (s : Sc) (u : Un) : Sc := ⟨(zZ s.st u).2, s.t, if (zZ s.st u).1 = 2 then u else s.h⟩
end Go.Eng
namespace ZP
open Go Go.Eng
attribute [local irreducible] WL WC WQ QFun zJ Does Q1 zD zB Go.Addr.add
def ScAt (b : Nat) (s : Sc) : Eng.Item := .blk b (.cells s.cs.toArray 190 (0, 0))
def FitP (b e : Nat) (s : Sc) (m : Mem) (H : SHeap) (v : Value) (m' : Mem) (H' : SHeap) : Prop := v = .int .i64 (e : Int) ∧ m' = m ∧ H' = ScAt b s :: H
namespace ZD3a
theorem zal {G G' : Prop} (next : G') (h : Bx G' → G := by intro zzn; (first | (refine iF 156 rfl ?_; refine zU func156 ?_ (hs := zIn u _ _ _)) | (refine iF 157 rfl ?_; refine zU func157 ?_ (hs := zJ8 u _ _ _))); (repeat revert zzf); exact zzn.out) : G := h ⟨next⟩
end ZD3a
open ZD3a in
theorem zJH (s : Sc) (u : Un) {b : Nat} (w0 : World) (m : Mem) (H : SHeap) :
  Does Tryz.prog 111 #[.pp b, u.v] w0 m (ScAt b s :: H) (FitP b (zZ s.st u).1 (s.fit u) m H) := by
 refine Does.of_body (args := [.pp b, .agg #[.int .i64 (u.k : Int), .int .i32 (u.r : Int), .int .i64 (u.a : Int), .int .i64 (u.z : Int), .bool u.o]]) func111 rfl ntmps111 rfl ?_
 simp only [ScAt, Sc.cs]
 have done : ∀ (e : Nat) (s1 : Sc), zZ s.st u = (e, s1.st) → s1.t = s.t → (s1.h = if e = 2 then u else s.h) → FitP b (zZ s.st u).1 (s.fit u) m H (.int .i64 (e : Int)) m (ScAt b s1 :: H) := by
  intro e s1 h1 h2 h3
  have : s.fit u = s1 := by
   obtain ⟨x, y, z⟩ := s1
   simp only at h1 h2 h3
   subst h2
   subst h3
   simp [Sc.fit, h1]
  rw [this, h1]
  exact ⟨rfl, rfl, rfl⟩
 by_cases a1 : s.st = 1
 ·by_cases k1 : u.k = 1
  ·try (refine stg ?_; intros)
   exact q_fz (H0 := ScAt b ⟨1, s.t, s.h⟩ :: H) (done 1 ⟨1, s.t, s.h⟩ (by simp [zZ, a1, k1]) rfl rfl)
  by_cases hj : jointU u
  ·have hjb : decide (jointU u) = true := decide_eq_true hj
   refine stg ?_; intros; rename_i bx
   refine wdw 9 ([.bl bx [.int .i64 (u.k : Int), .int .i32 (u.r : Int), .int .i64 (u.a : Int), .int .i64 (u.z : Int), .bool u.o] 188]) ?_
   refine cmg ?_
   refine wa0 5 ?_
   try (refine stg ?_; intros)
   refine wsz [] zml ?_
   refine cmg ?_
   refine wa0 8 ?_
   try (refine stg ?_; intros)
   refine wsz [] zml ?_
   refine wdz ?_
   try (refine stg ?_; intros)
   exact q_fz (H0 := ScAt b ⟨2, s.t, u⟩ :: H) (done 2 ⟨2, s.t, u⟩ (by simp [zZ, a1, k1, hj]) rfl rfl)
  ·have hjb : decide (jointU u) = false := decide_eq_false hj
   try (refine stg ?_; intros)
   exact q_fz (H0 := ScAt b s :: H) (done 0 s (by simp [zZ, a1, k1, hj]) rfl rfl)
 have n1 := a1
 clear a1
 by_cases a1 : s.st = 2
 ·by_cases k1 : u.k = 1
  ·try (refine stg ?_; intros)
   exact q_fz (H0 := ScAt b ⟨1, s.t, s.h⟩ :: H) (done 1 ⟨1, s.t, s.h⟩ (by simp [zZ, a1, k1]) rfl rfl)
  ·try (refine stg ?_; intros)
   exact q_fz (H0 := ScAt b s :: H) (done 0 s (by simp [zZ, a1, k1]) rfl rfl)
 have n2 := a1
 clear a1
 by_cases a1 : s.st = 3
 ·by_cases k1 : u.k = 3
  ·try (refine stg ?_; intros)
   exact q_fz (H0 := ScAt b ⟨3, s.t, s.h⟩ :: H) (done 1 ⟨3, s.t, s.h⟩ (by simp [zZ, a1, k1]) rfl rfl)
  by_cases hj : dotU u
  ·have hjb : decide (dotU u) = true := decide_eq_true hj
   refine stg ?_; intros; rename_i bx
   refine wdw 9 ([.bl bx [.int .i64 (u.k : Int), .int .i32 (u.r : Int), .int .i64 (u.a : Int), .int .i64 (u.z : Int), .bool u.o] 188]) ?_
   refine cmg ?_
   refine wa0 5 ?_
   try (refine stg ?_; intros)
   refine wsz [] zml ?_
   refine cmg ?_
   refine wa0 8 ?_
   try (refine stg ?_; intros)
   refine wsz [] zml ?_
   refine wdz ?_
   try (refine stg ?_; intros)
   exact q_fz (H0 := ScAt b ⟨4, s.t, u⟩ :: H) (done 2 ⟨4, s.t, u⟩ (by simp [zZ, a1, k1, hj]) rfl rfl)
  ·have hjb : decide (dotU u) = false := decide_eq_false hj
   try (refine stg ?_; intros)
   exact q_fz (H0 := ScAt b s :: H) (done 0 s (by simp [zZ, a1, k1, hj]) rfl rfl)
 have n3 := a1
 clear a1
 by_cases a1 : s.st = 4
 ·by_cases k1 : u.k = 3
  ·try (refine stg ?_; intros)
   exact q_fz (H0 := ScAt b ⟨3, s.t, s.h⟩ :: H) (done 1 ⟨3, s.t, s.h⟩ (by simp [zZ, a1, k1]) rfl rfl)
  ·try (refine stg ?_; intros)
   exact q_fz (H0 := ScAt b s :: H) (done 0 s (by simp [zZ, a1, k1]) rfl rfl)
 have n4 := a1
 clear a1
 by_cases a1 : s.st = 5
 ·by_cases k1 : u.k = 5
  ·try (refine stg ?_; intros)
   exact q_fz (H0 := ScAt b s :: H) (done 1 s (by simp [zZ, a1, k1]) rfl rfl)
  ·try (refine stg ?_; intros)
   exact q_fz (H0 := ScAt b s :: H) (done 0 s (by simp [zZ, a1, k1]) rfl rfl)
 have n5 := a1
 clear a1
 by_cases a1 : s.st = 6
 ·by_cases k1 : u.k = 11
  ·try (refine stg ?_; intros)
   exact q_fz (H0 := ScAt b s :: H) (done 1 s (by simp [zZ, a1, k1]) rfl rfl)
  ·try (refine stg ?_; intros)
   exact q_fz (H0 := ScAt b s :: H) (done 0 s (by simp [zZ, a1, k1]) rfl rfl)
 have n6 := a1
 clear a1
 by_cases a1 : s.st = 8
 ·by_cases k1 : u.k = 4
  ·by_cases k2 : u.r = 10
   ·try (refine stg ?_; intros)
    exact q_fz (H0 := ScAt b ⟨7, s.t, s.h⟩ :: H) (done 1 ⟨7, s.t, s.h⟩ (by simp [zZ, a1, k1, k2]) rfl rfl)
   ·try (refine stg ?_; intros)
    exact q_fz (H0 := ScAt b s :: H) (done 0 s (by simp [zZ, a1, k1, k2]) rfl rfl)
  ·try (refine stg ?_; intros)
   exact q_fz (H0 := ScAt b s :: H) (done 0 s (by simp [zZ, a1, k1]) rfl rfl)
 ·try (refine stg ?_; intros)
  exact q_fz (H0 := ScAt b s :: H) (done 0 s (by simp [zZ, n1, n2, n3, n4, n5, n6, a1]) rfl rfl)
end ZP
namespace ZP
open Go Go.Eng
attribute [local irreducible] WL WC WQ QFun zJ Does Q1 zD zB Go.Addr.add
theorem zIB (s : Sc) (u : Un) {b : Nat} (w0 : World) (m : Mem) (H : SHeap) :
  Does Tryz.prog 113 #[.pp b, u.v] w0 m (ScAt b s :: H) (fun _ m' H' => m' = m ∧ H' = ScAt b (s.begin_ u) :: H) := by
 refine Does.of_body (args := [.pp b, .agg #[.int .i64 (u.k : Int), .int .i32 (u.r : Int), .int .i64 (u.a : Int), .int .i64 (u.z : Int), .bool u.o]]) func113 rfl ntmps113 rfl ?_
 simp only [ScAt, Sc.cs]
 have done : ∀ (k st : Nat), zI u = (k, st) → s.begin_ u = ⟨st, ⟨k, u.a, u.z⟩, s.h⟩ := fun k st h => by simp [Sc.begin_, h]
 by_cases k1 : u.k = 1
 ·try (refine st ?_; intros)
  exact q_nz (H0 := ScAt b ⟨1, ⟨1, u.a, u.z⟩, s.h⟩ :: H) ⟨rfl, by rw [done 1 1 (by simp [zI, k1])]; rfl⟩
 by_cases k3 : u.k = 3
 ·try (refine st ?_; intros)
  exact q_nz (H0 := ScAt b ⟨3, ⟨2, u.a, u.z⟩, s.h⟩ :: H) ⟨rfl, by rw [done 2 3 (by simp [zI, k1, k3])]; rfl⟩
 by_cases k5 : u.k = 5
 ·try (refine st ?_; intros)
  exact q_nz (H0 := ScAt b ⟨5, ⟨3, u.a, u.z⟩, s.h⟩ :: H) ⟨rfl, by rw [done 3 5 (by simp [zI, k1, k3, k5])]; rfl⟩
 by_cases k11 : u.k = 11
 ·try (refine st ?_; intros)
  exact q_nz (H0 := ScAt b ⟨6, ⟨7, u.a, u.z⟩, s.h⟩ :: H) ⟨rfl, by rw [done 7 6 (by simp [zI, k1, k3, k5, k11])]; rfl⟩
 by_cases k4 : u.k = 4
 ·by_cases r : u.r = 13
  ·try (refine st ?_; intros)
   exact q_nz (H0 := ScAt b ⟨8, ⟨4, u.a, u.z⟩, s.h⟩ :: H) ⟨rfl, by rw [done 4 8 (by simp [zI, k1, k3, k5, k11, k4, r])]; rfl⟩
  ·try (refine st ?_; intros)
   exact q_nz (H0 := ScAt b ⟨7, ⟨4, u.a, u.z⟩, s.h⟩ :: H) ⟨rfl, by rw [done 4 7 (by simp [zI, k1, k3, k5, k11, k4, r])]; rfl⟩
 by_cases k6 : u.k = 6
 ·try (refine st ?_; intros)
  exact q_nz (H0 := ScAt b ⟨9, ⟨5, u.a, u.z⟩, s.h⟩ :: H) ⟨rfl, by rw [done 5 9 (by simp [zI, k1, k3, k5, k11, k4, k6])]; rfl⟩
 by_cases k7 : u.k = 7
 ·try (refine st ?_; intros)
  exact q_nz (H0 := ScAt b ⟨9, ⟨5, u.a, u.z⟩, s.h⟩ :: H) ⟨rfl, by rw [done 5 9 (by simp [zI, k1, k3, k5, k11, k4, k6, k7])]; rfl⟩
 by_cases k8 : u.k = 8
 ·try (refine st ?_; intros)
  exact q_nz (H0 := ScAt b ⟨9, ⟨5, u.a, u.z⟩, s.h⟩ :: H) ⟨rfl, by rw [done 5 9 (by simp [zI, k1, k3, k5, k11, k4, k6, k7, k8])]; rfl⟩
 ·try (refine st ?_; intros)
  exact q_nz (H0 := ScAt b ⟨9, ⟨6, u.a, u.z⟩, s.h⟩ :: H) ⟨rfl, by rw [done 6 9 (by simp [zI, k1, k3, k5, k11, k4, k6, k7, k8])]; rfl⟩
def YTk (w0 : World) (lp : Nat) (xs : List Tk) (J Jx : List Tk → Mem → SHeap → Prop) (m0 : Mem) : Prop :=
 ∀ pre x post, xs = pre ++ x :: post → ∀ m1 H1 Hit, J pre m1 H1 → m0.le m1 →
  YieldOK Tryz.prog w0 lp [x.v].toArray m1 (Hit ++ H1) (fun m' H' => ∃ H2, H' = Hit ++ H2 ∧ J (pre ++ [x]) m' H2 ∧ m1.le m') (fun m' H' => ∃ H2, H' = Hit ++ H2 ∧ Jx (pre ++ [x]) m' H2 ∧ m1.le m')
theorem zH2 (s : Sc) {b lp : Nat} {xs : List Tk} {J Jx : List Tk → Mem → SHeap → Prop} {w0 : World} {m0 m : Mem} {pre post : List Tk} {H1 : SHeap} (Hit : SHeap) (hY : YTk w0 lp xs J Jx m0) (hx : xs = pre ++ (endS s ++ post)) (hJ : J pre m H1) (hle : m0.le m) :
  Does Tryz.prog 112 #[.pp b, .func (.yield lp) #[] #[]] w0 m (ScAt b s :: (Hit ++ H1))
   (fun v m' H' => m.le m' ∧ ∃ H2, H' = ScAt b s :: (Hit ++ H2) ∧ ((v = .bool true ∧ J (pre ++ endS s) m' H2) ∨ (v = .bool false ∧ ∃ told, told <+: xs ∧ Jx told m' H2))) := by
 refine Does.of_body func112 rfl ntmps112 rfl ?_
 simp only [ScAt, Sc.cs]
 by_cases e0 : s.st = 0
 ·try (refine st ?_; intros)
  exact q_fz (H0 := ScAt b s :: (Hit ++ H1)) ⟨Mem.le.refl _, H1, rfl, .inl ⟨rfl, by rw [show endS s = [] by simp [endS, e0], List.append_nil]; exact hJ⟩⟩
 have one : ∀ (x : Tk) (post2 : List Tk), xs = pre ++ x :: post2 → _ := fun x post2 h => hY pre x post2 h m H1 (ScAt b s :: Hit) hJ hle
 by_cases e2 : s.st = 2 ∨ s.st = 4
 ·have hE : endS s = [s.t, ⟨5, s.h.a, s.h.z⟩] := by simp [endS, e0, e2]
  rw [hE] at hx
  have hx2 : xs = (pre ++ [s.t]) ++ ⟨5, s.h.a, s.h.z⟩ :: post := by rw [hx]; simp
  rcases e2 with e2 | e2
  all_goals
   try (refine st ?_; intros)
   refine WL.yield (vs := [s.t.v]) rfl rfl rfl (one s.t (⟨5, s.h.a, s.h.z⟩ :: post) hx) ?_ ?_
   ·rintro m5 H9 ⟨H5, rfl, hJ5, hle5⟩
    simp only [ScAt, Sc.cs, List.cons_append]
    try (refine st ?_; intros)
    refine WL.yield (vs := [(⟨5, s.h.a, s.h.z⟩ : Tk).v]) rfl rfl rfl (hY _ _ post hx2 m5 H5 (ScAt b s :: Hit) hJ5 (hle.trans hle5)) ?_ ?_
    ·rintro m6 H9 ⟨H6, rfl, hJ6, hle6⟩
     simp only [ScAt, Sc.cs, List.cons_append]
     try (refine st ?_; intros)
     exact q_fz (H0 := ScAt b s :: (Hit ++ H6)) ⟨hle5.trans hle6, H6, rfl, .inl ⟨rfl, by rw [hE]; simpa using hJ6⟩⟩
    ·rintro m6 H9 ⟨H6, rfl, hJ6, hle6⟩
     simp only [ScAt, Sc.cs, List.cons_append]
     try (refine st ?_; intros)
     exact q_fz (H0 := ScAt b s :: (Hit ++ H6)) ⟨hle5.trans hle6, H6, rfl, .inr ⟨rfl, _, ⟨post, by rw [hx2]; simp⟩, hJ6⟩⟩
   ·rintro m5 H9 ⟨H5, rfl, hJ5, hle5⟩
    simp only [ScAt, Sc.cs, List.cons_append]
    try (refine st ?_; intros)
    exact q_fz (H0 := ScAt b s :: (Hit ++ H5)) ⟨hle5, H5, rfl, .inr ⟨rfl, _, ⟨⟨5, s.h.a, s.h.z⟩ :: post, by rw [hx]; simp⟩, hJ5⟩⟩
 ·have hE : endS s = [s.t] := by simp [endS, e0, e2]
  rw [hE] at hx
  try (refine st ?_; intros)
  refine WL.yield (vs := [s.t.v]) rfl rfl rfl (one s.t _ hx) ?_ ?_
  ·rintro m5 H9 ⟨H5, rfl, hJ5, hle5⟩
   simp only [ScAt, Sc.cs, List.cons_append]
   try (refine st ?_; intros)
   exact q_fz (H0 := ScAt b s :: (Hit ++ H5)) ⟨hle5, H5, rfl, .inl ⟨rfl, by rw [hE]; exact hJ5⟩⟩
  ·rintro m5 H9 ⟨H5, rfl, hJ5, hle5⟩
   simp only [ScAt, Sc.cs, List.cons_append]
   try (refine st ?_; intros)
   exact q_fz (H0 := ScAt b s :: (Hit ++ H5)) ⟨hle5, H5, rfl, .inr ⟨rfl, _, ⟨post, by rw [hx]; simp⟩, hJ5⟩⟩
end ZP
namespace Go.Eng
open Go Go.RowKit
theorem zH5 {st : Nat} {u : Un} (h : (zZ st u).1 = 0) : (zZ st u).2 = st := by
 revert h
 unfold zZ
 repeat' split
 all_goals simp
theorem zI9 {s : Sc} {u : Un} (h : (zZ s.st u).1 = 0) : s.fit u = s := by
 unfold Sc.fit
 rw [zH5 h, h, if_neg (by omega)]
theorem zIS {s : Sc} {u : Un} (h : (zZ s.st u).1 = 1) : s.step u = ⟨(s.fit u).st, ⟨(s.fit u).t.k, (s.fit u).t.a, u.z⟩, (s.fit u).h⟩ := by
 unfold Sc.step Sc.fit
 rw [if_pos h, h, if_neg (show ¬ 1 = 2 by omega)]
theorem zJt {s : Sc} {u : Un} (h : (zZ s.st u).1 = 2) : s.step u = s.fit u := by
 unfold Sc.step Sc.fit
 rw [if_neg (by omega), if_pos h, if_pos h]
theorem zIt {s : Sc} {u : Un} (h : (zZ s.st u).1 = 0) : s.step u = s.begin_ u := by
 unfold Sc.step
 rw [if_neg (by omega), if_neg (by omega)]
end Go.Eng
namespace ZP
open Go Go.Eng
attribute [local irreducible] WL WC WQ QFun zJ Does Q1 zD zB Go.Addr.add
attribute [local irreducible] Wide kindN kindP colP zK zC dl xD uGo zZ
theorem zI0 (l : List UInt8) (w0 : World) (m : Mem) (H : SHeap) : Does Tryz.prog 78 #[str l] w0 m H (IterOf 109 l m H) := by
 refine Does.of_body func78 rfl ntmps78 rfl ?_
 try (refine st ?_; intros)
 apply WQ.fin
 ·(first | (apply vW; (· exact rfl); (· exact rfl)) | (apply uD; (· exact rfl); (· exact rfl); (· exact zlo)) | (apply uE; exact rfl) | (apply v8; (· exact rfl); (· repeat (first | exact ResAll.nil | (apply ResAll.tmp; (· exact rfl)) | (apply ResAll.cell; (· exact rfl); (· exact zlo)))); (· exact rfl)))
 ·exact ⟨_, rfl, rfl, rfl⟩
def yTk (by_ lp : Nat) : Eng.Item := .bl by_ [.func (.yield lp) #[] #[]] 185
def AtT (bs by_ lp : Nat) (J : List Tk → Mem → SHeap → Prop) (pre : List Un) (m' : Mem) (Hl : SHeap) : Prop :=
 ∃ (s : Sc) (told : List Tk) (H1 : SHeap), (∀ post, scGo scan0 (pre ++ post) = told ++ scGo s post) ∧ Hl = [ScAt bs s, yTk by_ lp] ++ H1 ∧ J told m' H1
def LeftT (l : List UInt8) (Jx : List Tk → Mem → SHeap → Prop) (cd : Code) (m' : Mem) (Hl : SHeap) : Prop :=
 cd = .ret ∧ ∃ (X H1 : SHeap) (told : List Tk), Hl = X ++ H1 ∧ told <+: tokens l ∧ Jx told m' H1
theorem zI2 (l : List UInt8) (hl : l.length ≤ 9223372036854775800) (b : Nat) : SeqM Tryz.prog 109 [.pp b] (fun t : Tk => [t.v]) (tokens l) (TextAt b l) := by
 intro w0 lp J Jx m H mJ mX hcap h0 hY
 have hcap' : m b = some (.cells [str l].toArray 9 (0, 0)) := hcap
 have hYT : YTk w0 lp (tokens l) J Jx m := hY
 refine Does.of_body func109 rfl ntmps109 rfl ?_
 refine st ?_; intros; rename_i by_ bs
 refine zA func110 ?_ (hs := zHd _ _ _ _)
 rintro v m H0 ⟨bu, rfl, rfl, rfl⟩
 refine WL.persist (b := bu) (by (repeat (first | exact Out.here | apply Out.there))) ?_
 intro m1 hle1 hbu
 try (refine st ?_; intros)
 refine WC.rangeFuncM (encs := fun u : Un => [u.v]) (xs := unitsL l) (Cap := TextAt bu l) (lb := [.pp bu]) (ps := [7]) (Hc := [])
  (J := fun pre m' Hl => m.le m' ∧ AtT bs by_ lp J pre m' Hl) (Jx := fun cd _ m' Hl => LeftT l Jx cd m' Hl)
  rfl func152 rfl rfl (zIg l (by omega) bu) hbu (fun _ => rfl) rfl ?_ ?_ Tail.all ?_ ?_ ?_ ?_
 ·rintro pre m2 m3 Hl ⟨h1, s, told, H1, h2, h3, h4⟩ hle
  exact ⟨h1.trans hle, s, told, H1, h2, h3, mJ _ _ _ _ h4 hle⟩
 ·rintro c pre m2 m3 Hl ⟨h1, X, H1, told, h2, h3, h4⟩ hle
  exact ⟨h1, X, H1, told, h2, h3, mX _ _ _ _ h4 hle⟩
 ·exact ⟨hle1, scan0, [], H, fun _ => rfl, rfl, mJ _ _ _ _ h0 hle1⟩
 ·rintro lp2 pre u post hx m2 Hl ⟨hle2, s, told, H1, hcl, rfl, hJ⟩ hm2 Hfr hfr
  have hstep : ∀ post, scGo scan0 ((pre ++ [u]) ++ post) = (told ++ s.told u) ++ scGo (s.step u) post := fun post => by
   rw [List.append_assoc, List.append_assoc]; exact hcl (u :: post)
  have hall : tokens l = told ++ (s.told u ++ scGo (s.step u) post) := by unfold tokens; rw [hx]; exact hcl (u :: post)
  simp only [yTk, List.cons_append, List.nil_append, List.append_assoc]
  refine st ?_; intros; rename_i bp
  refine WQ.assignedIn (.cons (.cons (.cons Tail.app))) zml ?_
  intro Hfr2 hfr2
  simp only [List.cons_append, Un.cs]
  try (refine st ?_; intros)
  refine zN func111 ?_ (hs := zJH s u _ _ _)
  rintro v m9 H9 ⟨rfl, rfl, rfl⟩
  have hf2 := (zFA s.st u).1
  obtain ⟨e, he⟩ : ∃ e, (zZ s.st u).1 = e := ⟨_, rfl⟩
  rw [he] at hf2 ⊢
  have hcase : e = 0 ∨ e = 1 ∨ e = 2 := by omega
  rcases hcase with rfl | rfl | rfl
  ·have htold : s.told u = endS s := by unfold Sc.told; rw [if_pos he]
   rw [zI9 he]
   rw [htold] at hall hstep
   rw [zIt he] at hstep
   try (refine st ?_; intros)
   refine WL.heap (fun w h => h.perm (x8 [_, _, _] H1 Hfr2)) ?_
   refine zA func112 ?_ (hs := zH2 s (.blk bp (.cells u.cs.toArray 188 (0, 0)) :: yTk by_ lp :: Hfr2) hYT hall hJ hle2)
   rintro v m5 H9 ⟨hle5, H5, rfl, hP⟩
   refine WL.heap (fun w h => h.perm (x8 [_, _, _] H5 Hfr2).symm) ?_
   rcases hP with ⟨rfl, hJ5⟩ | ⟨rfl, told2, hpre, hJ5⟩
   ·simp only [List.cons_append, List.nil_append, Un.cs, yTk]
    try (refine st ?_; intros)
    refine zN func113 ?_ (hs := zIB s u _ _ _)
    rintro v m9 H9 ⟨rfl, rfl⟩
    try (refine st ?_; intros)
    exact WQ.roundOn (Hl := [ScAt bs (s.begin_ u), yTk by_ lp] ++ H5) zpk hle5 ⟨hle2.trans hle5, s.begin_ u, told ++ endS s, H5, hstep, rfl, hJ5⟩
   ·simp only [List.cons_append, List.nil_append]
    try (refine st ?_; intros)
    exact WQ.roundRet (Hl := [_, _, _] ++ H5) (fun w h => by simpa using h) hle5 ⟨rfl, _, H5, told2, rfl, hpre, hJ5⟩
  ·have htold : s.told u = [] := by unfold Sc.told; rw [if_neg (by omega)]
   rw [htold, List.append_nil, zIS he] at hstep
   simp only [Un.cs, ScAt, Sc.cs, yTk]
   try (refine st ?_; intros)
   exact WQ.roundOn (Hl := [ScAt bs ⟨(s.fit u).st, ⟨(s.fit u).t.k, (s.fit u).t.a, u.z⟩, (s.fit u).h⟩, yTk by_ lp] ++ H1) zpk zml ⟨hle2, _, told, H1, hstep, rfl, hJ⟩
  ·have htold : s.told u = [] := by unfold Sc.told; rw [if_neg (by omega)]
   rw [htold, List.append_nil, zJt he] at hstep
   try simp only [Un.cs, yTk]
   try (refine st ?_; intros)
   exact WQ.roundOn (Hl := [ScAt bs (s.fit u), yTk by_ lp] ++ H1) zpk zml ⟨hle2, _, told, H1, hstep, rfl, hJ⟩
 ·rintro D m2 Hl ⟨hle2, s, told, H1, hcl, rfl, hJ⟩ hm2
  have hall : tokens l = told ++ (endS s ++ []) := by
   have := hcl []
   rw [List.append_nil] at this
   unfold tokens
   rw [this, List.append_nil]; rfl
  simp only [yTk, List.cons_append, List.nil_append, List.append_assoc]
  try (refine st ?_; intros)
  refine WL.heap (fun w h => h.perm (x8 [_, _] H1 [.blk D (.deferred (some []))])) ?_
  refine zA func112 ?_ (hs := zH2 s (yTk by_ lp :: [.blk D (.deferred (some []))]) hYT hall hJ hle2)
  rintro v m5 H9 ⟨hle5, H5, rfl, hP⟩
  refine WL.heap (fun w h => h.perm (x8 [_, _] H5 [.blk D (.deferred (some []))]).symm) ?_
  have hP2 : J (tokens l) m5 H5 ∨ ∃ told, told <+: tokens l ∧ Jx told m5 H5 := by
   rcases hP with ⟨_, h⟩ | ⟨_, h⟩
   ·left; rw [hall, List.append_nil]; exact h
   ·exact .inr h
  simp only [List.cons_append, List.nil_append]
  try (refine st ?_; intros)
  refine WQ.markNorm (H1 := [_, _] ++ H5) (List.perm_append_comm (l₁ := [_, _] ++ H5) (l₂ := [_])) ?_
  exact qF (H0 := H5) ⟨hle2.trans hle5, hP2⟩ (hd := fun w h => h.drop.drop)
 ·rintro D cd pre2 m4 Hl _ ⟨rfl, X, H4, told', rfl, hpre, hJ4⟩ hm4
  try (refine st ?_; intros)
  refine WQ.mark (H1 := X ++ H4) List.perm_append_comm ?_
  exact zR (H0 := H4) ⟨hle1.trans hm4, .inr ⟨told', hpre, hJ4⟩⟩ (hd := fun w h => xR h)
end ZP
namespace Go.Eng
open Go
def strs (l : List Tx) : List (List Value) := l.map fun x => [str x]
theorem jK (l : List UInt8) : (toks l).length = (tokens l).length := List.length_map _
theorem zY (l : List Tx) : (strs l).length = l.length := List.length_map _
end Go.Eng
namespace ZP
open Go Go.Eng
attribute [local irreducible] WL WC WQ QFun zJ Does Q1 zD zB Go.Addr.add
attribute [local irreducible] tokens
theorem uX (l : List UInt8) (hl : l.length ≤ 4194304) (w0 : World) (m : Mem) (H : SHeap) : Does Tryz.prog 46 #[str l] w0 m H (fun v m' H' => m.le m' ∧ ∃ a cp, v = .slice a (toks l).length cp ∧ H' = .row a cp 9 1 (strs (toks l)) :: H) := by
 refine Does.of_body func46 rfl ntmps46 rfl ?_
 refine st ?_; intros; rename_i b1 b3
 refine zA func78 ?_ (hs := zI0 _ _ _ _)
 rintro v m H ⟨b, rfl, rfl, rfl⟩
 try (refine st ?_; intros)
 refine WC.persist (b := b) (by (repeat (first | exact Out.here | apply Out.there))) ?_
 intro m1 hle1 hb
 refine WC.newRow (T := 9) (sz := 1) ?_
 refine WC.rangeFuncM (encs := fun t : Tk => [t.v]) (xs := tokens l) (Cap := TextAt b l) (lb := [.pp b]) (ps := [7])
  (J := fun pre m' Hl => m.le m' ∧ ∃ a cp, Hl = [.row a cp 9 1 (strs (pre.map (tokT l))), .bl b3 [.slice a pre.length cp] 83, .bl b1 [str l] 9]) (Jx := fun _ _ _ _ => False)
  rfl func109 rfl rfl (zI2 l (by omega) b) hb (fun _ => rfl) rfl (fun _ _ _ _ h hm => ⟨h.1.trans hm, h.2⟩) (fun _ _ _ _ _ h _ => h) (.cons (.cons (.cons .nil))) ⟨hle1, none, 0, rfl⟩ ?_ ?_ ?_
 ·rintro lp pre t post hx m2 Hl ⟨hle2, a, cp, rfl⟩ hm2 Hfr hfr
  have htl := (uQ l).mem t (by rw [hx]; simp)
  have hlen : (tokens l).length ≤ l.length := by rw [← jK]; exact zP l
  have hpl : pre.length + 1 ≤ 4194304 := by rw [hx] at hlen; simp only [List.length_append, List.length_cons] at hlen; omega
  have hsl : (strs (pre.map (tokT l))).length = pre.length := by simp [strs]
  try (refine st ?_; intros)
  refine WQ.assigned (.cons (.cons (.cons (.cons .nil)))) zml ?_
  intro Hfr2
  refine st ?_; intros; rename_i bt
  simp only [List.cons_append, List.nil_append]
  have hex : (l.take t.z).drop t.a = tokT l t := rfl
  refine wdw 12 ([.bl bt [.int .i64 (t.k : Int), .int .i64 (t.a : Int), .int .i64 (t.z : Int)] 151, .bl b1 [str l] 9]) ?_
  refine cm0 ?_
  refine WE.act2 0 9 (by decide +kernel) rfl rfl (fun c h => by cases h) rfl rfl (fun c h => by cases h) ?_ ?_
  ·try (refine st ?_; intros)
   refine waz [] zml ?_
   refine cm0 ?_
   refine wa1 9 ?_
   refine st ?_; intros; rename_i b9
   refine waz [.bl b9 [str (tokT l t)] 9] zml ?_
   refine cm0 ?_
   refine wa1 10 ?_
   refine st ?_; intros; rename_i a2 cp2
   rw [hsl]
   refine waz [] zml ?_
   refine cm0 ?_
   refine wa0 11 ?_
   try (refine st ?_; intros)
   refine wsz [] zml ?_
   refine wdz ?_
   try (refine st ?_; intros)
   exact WQ.roundOn (Hl := [.row a2 cp2 9 1 (strs (pre.map (tokT l)) ++ [[str (tokT l t)]]), .bl b3 [.slice a2 (pre.length + 1) cp2] 83, .bl b1 [str l] 9]) zpk zml ⟨hle2, a2, cp2, by simp [strs]⟩
  ·refine st ?_; intros; rename_i b9
   refine waz [.bl b9 [str (tokT l t)] 9] zml ?_
   refine cm0 ?_
   refine wa1 0 ?_
   try (refine st ?_; intros)
   refine waz [] zml ?_
   refine cm0 ?_
   refine wa1 10 ?_
   refine st ?_; intros; rename_i a2 cp2
   rw [hsl]
   refine waz [] zml ?_
   refine cm0 ?_
   refine wa0 11 ?_
   try (refine st ?_; intros)
   refine wsz [] zml ?_
   refine wdz ?_
   try (refine st ?_; intros)
   exact WQ.roundOn (Hl := [.row a2 cp2 9 1 (strs (pre.map (tokT l)) ++ [[str (tokT l t)]]), .bl b3 [.slice a2 (pre.length + 1) cp2] 83, .bl b1 [str l] 9]) zpk zml ⟨hle2, a2, cp2, by simp [strs]⟩
 ·rintro D m2 Hl ⟨hle2, a, cp, rfl⟩ hm2
  try (refine st ?_; intros)
  refine WQ.mark List.perm_middle ?_
  exact q_fz ⟨hle2, a, cp, by rw [jK], rfl⟩
 ·intro D cd pre m2 Hl _ h
  exact h.elim
end ZP
namespace Go.Eng
open Go Go.RowKit Go.ChangeMaps
section
theorem zBQ {t tx e : TypeId} {sz by' : Nat} {z : Value} {a : Option Addr} {cap : Nat} {es es' : List (List Value)} {x : Value} {w : World} (hu : P.underlying t = some (.slice e)) (hz : zeroB P e = some z) (hsz : xI P e = some sz) (hby : bytesB P e = some by')
  (hzs : z.cells.size = sz) (hs : Sat w0 m (.row a cap e sz es :: H) w) (hx : Src P sz tx x es'.length es'.flatten w) (hes : ∀ q ∈ es', q.length = sz) (h63 : es.length + es'.length ≤ 9223372036854775807) (hb : (es.length + es'.length) * by' ≤ 140737488355328) :
  ∃ a' cap' w', (Builtin.append_ #[t, tx] ty #[.slice a es.length cap, x]).run P w = .ok (.slice a' (es ++ es').length cap') w' ∧ Sat w0 m (.row a' cap' e sz (es ++ es') :: H) w' ∧ ((a = none ∨ 0 < cap) → (a' = none ∨ 0 < cap')) := by
 obtain ⟨i, hi, hib, _⟩ := zAU hby w
 have his : i.size = sz := by
  unfold xI at hsz; rw [hi] at hsz; simpa [kF] using hsz
 have hiz : i.zero = some z := by
  unfold zeroB at hz; rw [hi] at hz; simpa using hz
 have hold : Item.holds w (.row a cap e sz es) := hs.own _ List.mem_cons_self
 by_cases hroom : es.length + es'.length ≤ cap
 ·-- there is room
  cases a with
  | none =>
   have h1 : es = [] ∧ cap = 0 := hold
   obtain ⟨h1, h2⟩ := h1
   subst h1; subst h2
   have h3 : es' = [] := List.eq_nil_of_length_eq_zero (by simpa using hroom)
   subst h3
   refine ⟨none, 0, w, ?_, by simpa using hs, fun _ => .inl rfl⟩
   rcases hx.kind with ⟨e', hk⟩ | hk <;> simp [Builtin.append_, run_underlying hu, run_underlying hk, sizeOf, typeInfo, hi, hx.len, his]
   all_goals
    have := hx.cells
    simp at this
    simp [this]
  | some a =>
   obtain ⟨arr, fz, g1, g2, g3, g4, g5, g6, g7⟩ := hold
   have hal : a = ⟨a.block, 0, none⟩ := g1
   generalize hbk : a.block = b at *
   subst g1
   have hlen1 := zX g6
   have hlen2 := zX hes
   have hfitA : es.length * sz + es'.flatten.length ≤ arr.toList.length := by
    have hL : arr.toList.length = cap * sz := by simp [g3]
    rw [hlen2, ← Nat.add_mul, hL]; exact Nat.mul_le_mul_right _ hroom
   have hb1 : Sat w0 m (.blk b (.cells arr.toList.toArray e fz) :: H) w := by
    refine hs.turn (j := .blk b (.cells arr.toList.toArray e fz)) rfl rfl rfl (Nat.le_refl _) (fun _ _ _ => rfl) (by simpa [Item.holds] using g2) (fun y hy => .inl (by simpa [Item.foot] using hy)) (by simp [Item.foot])
   obtain ⟨w', k1, k2⟩ := qP (P := P) es'.flatten 0 (es.length * sz) arr.toList H w (by simpa using hfitA) (by rcases g7.1 with h | h; exact .inl h; exact .inr (.inr (by simpa using h))) (List.all_eq_true.2 fun u hu => hx.one u hu) hb1
   refine ⟨some ⟨b, 0, none⟩, cap, w', ?_, ?_, fun h => .inr (h.resolve_left (by simp))⟩
   ·rcases hx.kind with ⟨e', hk⟩ | hk <;>
     simp [Builtin.append_, run_underlying hu, run_underlying hk, sizeOf, typeInfo, hi, hx.len, his, hroom, hx.cells, Addr.add_lit, k1]
   ·have hw' : w'.heap[b]? = some (.cells (laid arr.toList (es.length * sz + 0) es'.flatten).toArray e fz) := k2.own _ List.mem_cons_self
    refine k2.turn (j := .row (some ⟨b, 0, none⟩) cap e sz (es ++ es')) rfl rfl rfl (Nat.le_refl _) (fun _ _ _ => rfl) ?_ (fun y hy => .inl (by simpa [Item.foot] using hy)) (by simp [Item.foot])
    refine ⟨_, fz, rfl, hw', ?_, by simpa using hroom, ?_, ?_, ?_⟩
    ·simp [xY, g3]
    ·simp only [Nat.add_zero, List.length_append, List.flatten_append]
     rw [Nat.add_mul, ← hlen2, zBE _ _ _ hfitA, g5]
    ·intro q hq
     rcases List.mem_append.1 hq with h | h
     ·exact g6 q h
     ·exact hes q h
    ·exact ⟨by simpa [xY] using g7.1, fun hq => g7.2 (by simp only [List.length_append] at hq; omega)⟩
 ·-- a new row
  have hfit := growslice_fits (bytes := i.bytes) (show cap < es.length + es'.length by omega) (by rw [hib]; exact hb)
  have holds : (∀ q ∈ es, q.length = sz) ∧ ∀ w1 : World, w1.heap = w.heap → (Builtin.firstCells i.size es.length (.slice a es.length cap)).run P w1 = .ok es.flatten.toArray w1 := by
   cases a with
   | none =>
    have h1 : es = [] ∧ cap = 0 := hold
    obtain ⟨h1, h2⟩ := h1
    subst h1
    exact ⟨(fun q hq => by cases hq), (fun w1 _ => by simp [Builtin.firstCells])⟩
   | some a =>
    have hold' := hold
    obtain ⟨arr, fz, g1, g2, g3, g4, g5, g6, _⟩ := hold
    refine ⟨g6, fun w1 hw1 => ?_⟩
    refine run_firstCells_some w1 i.size es.length a es.length cap es.flatten (by rw [his]; exact zX g6) (fun j u hu => ?_)
    have hsp : a.spot = none := by rw [g1]
    have hoff : a.off = 0 := by rw [g1]
    rw [← g5, List.getElem?_take] at hu
    split at hu
    ·rw [w9 hsp, hoff]
     simp only [World.cell?, hw1, g2]
     simpa using hu
    ·cases hu
  have hr := run_append_grow_src (P := P) w t tx ty e i z hu hi hiz a es.length cap es.flatten (holds.2 _ rfl) x es'.length es'.flatten (by rw [his]; exact hx) (by omega) (by omega) hfit
  have hge := grownCap_ge w (es.length + es'.length) cap e
  refine ⟨_, _, _, by rw [List.length_append]; exact hr, ?_, fun _ => .inr (by omega)⟩
  have hs2 : Sat w0 m H w.drew := hs.drop.drew
  have hs3 := hs2.alloc (.cells ((es.flatten ++ es'.flatten).toArray ++ Builtin.zeroCells z.cells (grownCap w (es.length + es'.length) cap e - (es.length + es'.length))) e (0, 0))
  refine hs3.turn (j := .row (some ⟨w.heap.size, 0, none⟩) (grownCap w (es.length + es'.length) cap e) e sz (es ++ es')) rfl rfl rfl (Nat.le_refl _) (fun _ _ _ => rfl) ?_ (fun y hy => .inl (by simpa [Item.foot] using hy)) (by simp [Item.foot])
  have hl1 := zX holds.1
  have hl2 := zX hes
  refine ⟨_, (0, 0), rfl, World.alloc_heap_new _ _, ?_, by simpa using hge, ?_, ?_, .inl rfl, fun _ => kO w h63 cap e⟩
  ·simp only [Array.size_append, List.size_toArray, List.length_append, size_zeroCells, hzs, hl1, hl2, ← Nat.add_mul]
   congr 1; omega
  ·simp only [Array.toList_append, List.flatten_append, List.length_append]
   rw [show (es.length + es'.length) * sz = (es.flatten ++ es'.flatten).length by rw [List.length_append, hl1, hl2, Nat.add_mul]]
   exact List.take_left
  ·intro q hq
   rcases List.mem_append.1 hq with h | h
   ·exact holds.1 q h
   ·exact hes q h
theorem WL.appendS2 {t tx e : TypeId} {x y : Operand} {z : Value} {a : Option Addr} {cap len : Nat} {es : List (List Value)} {s : List UInt8} {H1 : SHeap} (hx : r.ev x = some (.slice a len cap)) (hy : r.ev y = some (str s))
  (hu : P.underlying t = some (.slice e)) (hux : P.underlying tx = some .string) (ho : Out (.row a cap e 1 es) H H1) (hz : zeroB P e = some z) (hsz : xI P e = some 1) (hby : bytesB P e = some 1) (hzs : z.cells.size = 1) (hlen : len = es.length)
  (hb : es.length + s.length ≤ 140737488355328) (hd : Nat.blt d n = true)
  (h : ∀ a' cap', ((a = none ∨ 0 < cap) → (a' = none ∨ 0 < cap')) → WL P ro n w0 ops Q l ((d, .slice a' (es.length + s.length) cap') :: r) ds m (.row a' cap' e 1 (es ++ s.map fun b => [Value.int .u8 (b.toNat : Int)]) :: H1)) :
  WL P ro n w0 ops Q (⟨some d, .call ⟨.builtin .append, #[x, y], #[t, tx]⟩, ty, pos, after, none⟩ :: l) r ds m H := by
 subst hlen
 refine .gen (fun v m' H' => ∃ a' cap', ((a = none ∨ 0 < cap) → (a' = none ∨ 0 < cap')) ∧ v = .slice a' (es.length + s.length) cap' ∧ m' = m ∧ H' = .row a' cap' e 1 (es ++ s.map fun b => [Value.int .u8 (b.toNat : Int)]) :: H1) hd (fun _ h => by cases h) (fun tmps w hok hs => ?_)
  (by rintro _ _ _ ⟨a', cap', hc, rfl, rfl, rfl⟩; exact h a' cap' hc)
 have hl : (s.map fun b => [Value.int .u8 (b.toNat : Int)]).length = s.length := List.length_map _
 obtain ⟨a', cap', w', h1, h2, h3⟩ := zBQ (P := P) (ty := ty) (tx := tx) (es' := s.map fun b => [Value.int .u8 (b.toNat : Int)]) (x := str s) hu hz hsz hby hzs (hs.perm ho.perm)
  (by have := (Source.str (P := P) (w0 := w0) (m := m) (H := H) hux s) w hs; rw [hl, show (s.map fun b => [Value.int IntKind.u8 (b.toNat : Int)]).flatten = s.map fun b => Value.int .u8 (b.toNat : Int) from vS _ s]; exact this) (by simp) (by rw [hl]; omega) (by rw [hl]; omega)
 rw [List.length_append, hl] at h1
 refine ⟨.slice a' (es.length + s.length) cap', m, _, w', ?_, h2, a', cap', h3, rfl, rfl, rfl⟩
 simp only [execOp, resolve, invoke, builtin, Sem.run_bind, Sem.run_pure, Result.andThen_ok, List.map_toArray, List.map_cons, List.map_nil, hok.ev hx, hok.ev hy, h1]
end
theorem yZ {w0 : World} {m : Mem} {H : SHeap} {b sz : Nat} {L : List Value} {T : TypeId} {fz : Nat × Nat} {es : List (List Value)} (hm : Item.blk b (.cells L.toArray T fz) ∈ H) (hL : L = es.flatten) (hes : ∀ e ∈ es, e.length = sz) : RowR w0 m H sz (Option.some ⟨b, 0, none⟩) es := by
 intro w hs
 refine ⟨hes, fun j v hj => ?_⟩
 have h : w.heap[b]? = Option.some (.cells L.toArray T fz) := hs.own _ hm
 rw [w9 rfl]
 subst hL
 simp only [Nat.zero_add, World.cell?, h]
 simpa using hj
end Go.Eng
namespace ZP
open Go Go.Eng
attribute [local irreducible] WL WC WQ QFun zJ Does Q1 zD zB Go.Addr.add
def Long (L : List Tx) : Prop := ∃ x ∈ L, 65536 < x.length
instance (L : List Tx) : Decidable (Long L) := by unfold Long; infer_instance
theorem zHM (x : Tx) (w0 : World) (m : Mem) (H : SHeap) : Does Tryz.prog 75 #[str x] w0 m H (Gives (.bool (dcd (65536 < x.length))) m H) := by
 refine Does.of_body func75 rfl ntmps75 rfl ?_
 try (refine st ?_; intros)
 refine zR ?_
 exact Gives.mk (congrArg _ (xW (by omega)))
theorem zI3 {L : List Tx} {a : Option Addr} {c : Nat} {w0 : World} {m : Mem} {H : SHeap} (hl : L.length ≤ 5000000) (ha : RowR w0 m H 1 a (strs L)) :
  Does Tryz.prog 106 #[.slice a L.length c, .func (.func 75) #[] #[]] w0 m H (fun v m' H' => m' = m ∧ H' = H ∧ ∃ i : Int, v = .int .i64 i ∧ (0 ≤ i ↔ Long L)) := by
 refine Does.of_body func106 rfl ntmps106 rfl ?_
 have hn1 : (strs L).length = L.length := by simp [strs]
 try (refine st ?_; intros)
 refine lpz (fun j r ds m' H' => ∃ i, j = L.length - i ∧ r = [(8, .int .i64 (i : Int)), (7, .int .i64 (L.length : Int)), (0, .slice a L.length c), (1, .func (.func 75) #[] #[])] ∧ ds = [] ∧ m = m' ∧ H' = H ∧ (i ≤ L.length) ∧ (¬ Long (L.take i))) (L.length - (0)) ⟨0, rfl, rfl, rfl, rfl, rfl, by omega, by rintro ⟨x, hx, _⟩; simp at hx⟩ ?_
 rintro j r ds m' H' ⟨i, rfl, rfl, rfl, rfl, rfl, hi, hpre⟩
 by_cases hlt : i < L.length
 ·obtain ⟨x, hx⟩ : ∃ x, L[i]? = some x := ⟨_, List.getElem?_eq_getElem hlt⟩
  have hgx : (strs L)[i]? = some [str x] := by unfold strs; rw [List.getElem?_map, hx]; rfl
  have htk : L.take (i + 1) = L.take i ++ [x] := by
   rw [List.take_succ, hx]; rfl
  generalize hE1 : strs L = E1 at *
  refine WC.rSome ha (by omega) ?_
  rintro a0 rfl
  try (refine st ?_; intros)
  refine WL.callV rfl func75 rfl rfl (by exact rfl) (by exact rfl) (zHM x _ _ _) ?_
  rintro v m H ⟨rfl, rfl, rfl⟩
  by_cases hx2 : 65536 < x.length
  ·rw [zE hx2]
   try (refine st ?_; intros)
   exact q_fz (H0 := H) ⟨rfl, rfl, i, rfl, ⟨fun _ => ⟨x, List.mem_of_getElem? hx, hx2⟩, fun _ => by omega⟩⟩
  ·rw [zH hx2]
   try (refine st ?_; intros)
   refine nxz (L.length - (i + 1)) ⟨i + 1, rfl, rfl, rfl, rfl, rfl, ?_, ?_⟩
   ·omega
   ·rw [htk]
    rintro ⟨y, hy, hy2⟩
    rcases List.mem_append.1 hy with h | h
    ·exact hpre ⟨y, h, hy2⟩
    ·rw [List.mem_singleton] at h; subst h; exact hx2 hy2
 ·rw [List.take_of_length_le (by omega)] at hpre
  try (refine st ?_; intros)
  exact q_fz (H0 := H') ⟨rfl, rfl, -1, rfl, ⟨fun h => by omega, fun h => absurd h hpre⟩⟩
theorem zIc {L : List Tx} {a : Option Addr} {c : Nat} {w0 : World} {m : Mem} {H : SHeap} (hl : L.length ≤ 5000000) (ha : RowR w0 m H 1 a (strs L)) :
  Does Tryz.prog 74 #[.slice a L.length c, .func (.func 75) #[] #[]] w0 m H (Gives (.bool (dcd (Long L))) m H) := by
 refine Does.of_body func74 rfl ntmps74 rfl ?_
 try (refine st ?_; intros)
 refine zA func106 ?_ (hs := zI3 hl ha)
 rintro v m H ⟨rfl, rfl, i, rfl, hi⟩
 try (refine st ?_; intros)
 exact q_fz (Gives.mk (congrArg _ (xW hi)))
theorem uB {L : List Tx} {a : Option Addr} {c : Nat} {w0 : World} {m : Mem} {H : SHeap} (hl : L.length ≤ 5000000) (ha : RowR w0 m H 1 a (strs L)) :
  Does Tryz.prog 40 #[.slice a L.length c] w0 m H (Gives (.bool (dcd (Long L))) m H) := by
 refine Does.of_body func40 rfl ntmps40 rfl ?_
 try (refine st ?_; intros)
 refine zA func74 ?_ (hs := zIc hl ha)
 rintro v m H ⟨rfl, rfl, rfl⟩
 try (refine st ?_; intros)
 exact q_fz zgm
end ZP
namespace Go.Eng
open Go Go.RowKit
theorem low6 (x : Nat) : x &&& 63 = x % 64 := Nat.and_two_pow_sub_one_eq_mod x 6
theorem or128 {y : Nat} (h : y < 64) : 128 ||| y = 128 + y := by
 have : ∀ y : Nat, y < 64 → 128 ||| y = 128 + y := by decide
 exact this y h
theorem or192 {y : Nat} (h : y < 32) : 192 ||| y = 192 + y := by
 have : ∀ y : Nat, y < 32 → 192 ||| y = 192 + y := by decide
 exact this y h
theorem or224 {y : Nat} (h : y < 16) : 224 ||| y = 224 + y := by
 have : ∀ y : Nat, y < 16 → 224 ||| y = 224 + y := by decide
 exact this y h
theorem or240 {y : Nat} (h : y < 8) : 240 ||| y = 240 + y := by
 have : ∀ y : Nat, y < 8 → 240 ||| y = 240 + y := by decide
 exact this y h
section
variable {x : Operand} {k : IntKind} {a : Int}
theorem WL.convu32 {src dst : TypeId} (hx : r.ev x = some (.int k a)) (hs : (P.underlying src).isSome = true) (hu : P.underlying dst = some (.int .u32)) (hd : Nat.blt d n = true)
  (hb : 0 ≤ a ∧ a ≤ 4294967295) (h : WL P ro n w0 ops Q l ((d, .int .u32 a) :: r) ds m H) : WL P ro n w0 ops Q (⟨some d, .convert src dst x, ty, pos, after, none⟩ :: l) r ds m H :=
 .conv hx hs hu hd (by rw [zGc hb]; exact h)
theorem WL.orAnd {t t' : TypeId} {y : Operand} {q : Int} (hx : r.ev x = some (.int .u8 128)) (hy : r.ev y = some (.int .u8 ((q.toNat &&& Int.toNat 63 : Nat) : Int))) (hd : Nat.blt d n = true) (hq : 0 ≤ q)
  (h : WL P ro n w0 ops Q l ((d, .int .u8 (128 + q % 64)) :: r) ds m H) : WL P ro n w0 ops Q (⟨some d, .binOp .or t x y t', ty, pos, after, none⟩ :: l) r ds m H := by
 have e : q.toNat &&& Int.toNat 63 = q.toNat % 64 := low6 _
 have hlt : q.toNat % 64 < 64 := Nat.mod_lt _ (by decide)
 rw [e] at hy
 refine WL.or8 hx hy hd (by decide) (by omega) ?_
 have e2 : (Int.toNat 128 ||| Int.toNat ((q.toNat % 64 : Nat) : Int)) = 128 + q.toNat % 64 := by
  rw [Int.toNat_natCast]; exact or128 hlt
 rw [e2, show ((128 + q.toNat % 64 : Nat) : Int) = 128 + q % 64 by omega]
 exact h
end
theorem u8n {x : Nat} (h : x < 256) : (UInt8.ofNat x).toNat = x := by rw [UInt8.toNat_ofNat']; exact Nat.mod_eq_of_lt h
theorem rune2 {c : Nat} (h0 : 128 ≤ c) (h1 : c ≤ 2047) : [[Value.int .u8 ((Int.toNat 192 ||| ((c : Int) / 2 ^ 6 % 256).toNat : Nat) : Int)], [.int .u8 (128 + (c : Int) % 256 % 64)]] = bCs (fmb c) := by
 have e1 : ((c : Int) / 2 ^ 6 % 256).toNat = c / 64 := by omega
 have e2 : 192 ||| (c / 64) = 192 + c / 64 := or192 (by omega)
 have e3 : fmb c = [UInt8.ofNat (192 + c / 64), UInt8.ofNat (128 + c % 64)] := by unfold fmb fm; rw [if_neg (by omega), if_pos (by omega)]; rfl
 rw [e1, e3]
 show [[Value.int .u8 ((192 ||| (c / 64) : Nat) : Int)], _] = _
 rw [e2]
 simp only [bCs, List.map_cons, List.map_nil]
 rw [show (128 : Int) + (c : Int) % 256 % 64 = ((128 + c % 64 : Nat) : Int) by omega, u8n (x := 192 + c / 64) (by omega), u8n (x := 128 + c % 64) (by omega)]
theorem rune3 {c : Nat} (h0 : 2047 < c) (h1 : c ≤ 65535) : [[Value.int .u8 ((Int.toNat 224 ||| ((c : Int) / 2 ^ 12 % 256).toNat : Nat) : Int)], [.int .u8 (128 + (c : Int) / 2 ^ 6 % 256 % 64)], [.int .u8 (128 + (c : Int) % 256 % 64)]] = bCs (fmb c) := by
 have e1 : ((c : Int) / 2 ^ 12 % 256).toNat = c / 4096 := by omega
 have e2 : 224 ||| (c / 4096) = 224 + c / 4096 := or224 (by omega)
 have e3 : fmb c = [UInt8.ofNat (224 + c / 4096), UInt8.ofNat (128 + c / 64 % 64), UInt8.ofNat (128 + c % 64)] := by unfold fmb fm; rw [if_neg (by omega), if_neg (by omega), if_pos (by omega)]; rfl
 rw [e1, e3]
 show [[Value.int .u8 ((224 ||| (c / 4096) : Nat) : Int)], _, _] = _
 rw [e2]
 simp only [bCs, List.map_cons, List.map_nil]
 rw [show (128 : Int) + (c : Int) % 256 % 64 = ((128 + c % 64 : Nat) : Int) by omega, show (128 : Int) + (c : Int) / 2 ^ 6 % 256 % 64 = ((128 + c / 64 % 64 : Nat) : Int) by omega, u8n (x := 224 + c / 4096) (by omega), u8n (x := 128 + c / 64 % 64) (by omega), u8n (x := 128 + c % 64) (by omega)]
theorem rune4 {c : Nat} (h0 : 65535 < c) (h1 : c ≤ 1114111) : [[Value.int .u8 ((Int.toNat 240 ||| ((c : Int) / 2 ^ 18 % 256).toNat : Nat) : Int)], [.int .u8 (128 + (c : Int) / 2 ^ 12 % 256 % 64)], [.int .u8 (128 + (c : Int) / 2 ^ 6 % 256 % 64)], [.int .u8 (128 + (c : Int) % 256 % 64)]] = bCs (fmb c) := by
 have e1 : ((c : Int) / 2 ^ 18 % 256).toNat = c / 262144 := by omega
 have e2 : 240 ||| (c / 262144) = 240 + c / 262144 := or240 (by omega)
 have e3 : fmb c = [UInt8.ofNat (240 + c / 262144), UInt8.ofNat (128 + c / 4096 % 64), UInt8.ofNat (128 + c / 64 % 64), UInt8.ofNat (128 + c % 64)] := by unfold fmb fm; rw [if_neg (by omega), if_neg (by omega), if_neg (by omega)]; rfl
 rw [e1, e3]
 show [[Value.int .u8 ((240 ||| (c / 262144) : Nat) : Int)], _, _, _] = _
 rw [e2]
 simp only [bCs, List.map_cons, List.map_nil]
 rw [show (128 : Int) + (c : Int) % 256 % 64 = ((128 + c % 64 : Nat) : Int) by omega, show (128 : Int) + (c : Int) / 2 ^ 6 % 256 % 64 = ((128 + c / 64 % 64 : Nat) : Int) by omega, show (128 : Int) + (c : Int) / 2 ^ 12 % 256 % 64 = ((128 + c / 4096 % 64 : Nat) : Int) by omega, u8n (x := 240 + c / 262144) (by omega), u8n (x := 128 + c / 4096 % 64) (by omega), u8n (x := 128 + c / 64 % 64) (by omega), u8n (x := 128 + c % 64) (by omega)]
theorem rune1 {c : Nat} (h1 : c ≤ 127) : [[Value.int .u8 (c : Int)]] = bCs (fmb c) := by
 have e3 : fmb c = [UInt8.ofNat c] := by unfold fmb fm; rw [if_pos (by omega)]; rfl
 rw [e3]
 simp only [bCs, List.map_cons, List.map_nil]
 rw [u8n (x := c) (by omega)]
end Go.Eng
namespace Go.Eng
open Go Go.RowKit
theorem NF.self : ∀ (L : List Value), NF L L
 | [] => .nil rfl
 | v :: L => .cons rfl (NF.self L)
section
variable {t t' : TypeId} {x y : Operand} {a b : Int}
theorem ofInt64 {a : Int} (h : 0 ≤ a ∧ a ≤ 18446744073709551615) : (BitVec.ofInt 64 a).toNat = a.toNat := by
 rw [BitVec.toNat_ofInt]
 have : a % ((2 ^ 64 : Nat) : Int) = a := Int.emod_eq_of_lt h.1 (by have : ((2 ^ 64 : Nat) : Int) = 18446744073709551616 := rfl; omega)
 rw [this]
theorem WL.and64u (hx : r.ev x = some (.int .u64 a)) (hy : r.ev y = some (.int .u64 b)) (hd : Nat.blt d n = true) (ha : 0 ≤ a ∧ a ≤ 18446744073709551615) (hb : 0 ≤ b ∧ b ≤ 18446744073709551615)
  (h : WL P ro n w0 ops Q l ((d, .int .u64 ((a.toNat &&& b.toNat : Nat) : Int)) :: r) ds m H) : WL P ro n w0 ops Q (⟨some d, .binOp .and t x y t', ty, pos, after, none⟩ :: l) r ds m H := by
 refine .int2 (fun _ _ _ => yH _ _ _ _ _ _ _ _) (fun w => ?_) hx hy hd h
 have h1 := ofInt64 ha
 have h2 := ofInt64 hb
 have h3 : a.toNat &&& b.toNat ≤ a.toNat := Nat.and_le_left
 have h4 : IntKind.u64.wrap ((a.toNat &&& b.toNat : Nat) : Int) = ((a.toNat &&& b.toNat : Nat) : Int) := zAw ⟨by omega, by omega⟩
 show (pure (Value.int IntKind.u64 (IntKind.u64.wrap (((BitVec.ofInt 64 a) &&& (BitVec.ofInt 64 b)).toNat : Int))) : Sem Value).run P w = _
 rw [BitVec.toNat_and, h1, h2, h4]; rfl
theorem WL.and64i (hx : r.ev x = some (.int .i64 a)) (hy : r.ev y = some (.int .i64 b)) (hd : Nat.blt d n = true) (ha : 0 ≤ a ∧ a ≤ 9223372036854775807) (hb : 0 ≤ b ∧ b ≤ 9223372036854775807)
  (h : WL P ro n w0 ops Q l ((d, .int .i64 ((a.toNat &&& b.toNat : Nat) : Int)) :: r) ds m H) : WL P ro n w0 ops Q (⟨some d, .binOp .and t x y t', ty, pos, after, none⟩ :: l) r ds m H := by
 refine .int2 (fun _ _ _ => yH _ _ _ _ _ _ _ _) (fun w => ?_) hx hy hd h
 have h1 := ofInt64 (a := a) ⟨ha.1, by omega⟩
 have h2 := ofInt64 (a := b) ⟨hb.1, by omega⟩
 have h3 : a.toNat &&& b.toNat ≤ a.toNat := Nat.and_le_left
 have h4 : IntKind.i64.wrap ((a.toNat &&& b.toNat : Nat) : Int) = ((a.toNat &&& b.toNat : Nat) : Int) := uJ ⟨by omega, by omega⟩
 show (pure (Value.int IntKind.i64 (IntKind.i64.wrap (((BitVec.ofInt 64 a) &&& (BitVec.ofInt 64 b)).toNat : Int))) : Sem Value).run P w = _
 rw [BitVec.toNat_and, h1, h2, h4]; rfl
theorem WL.sub64u (hx : r.ev x = some (.int .u64 a)) (hy : r.ev y = some (.int .u64 b)) (hd : Nat.blt d n = true) (hb : 0 ≤ a - b ∧ a - b ≤ 18446744073709551615)
  (h : WL P ro n w0 ops Q l ((d, .int .u64 (a - b)) :: r) ds m H) : WL P ro n w0 ops Q (⟨some d, .binOp .sub t x y t', ty, pos, after, none⟩ :: l) r ds m H :=
 .sub hx hy hd (by rw [zAw hb]; exact h)
theorem WL.store1 {b o : Nat} {T : TypeId} {L : List Value} {v : Value} {H' : SHeap} (hx : r.ev x = some (.pointer (some ⟨b, o, none⟩))) (hy : r.ev y = some v)
  (hv : v.cells = [v].toArray) (hz : xI P t = some 1) (hr : Repl (.blk b (.cells L.toArray T (0, 0))) (.blk b (.cells (L.set o v).toArray T (0, 0))) H H')
  (hl : o < L.length) (ha : okCell v = true) (h : WL P ro n w0 ops Q l r ds m H') :
  WL P ro n w0 ops Q (⟨none, .store t x y, ty, pos, after, none⟩ :: l) r ds m H :=
 .store (L' := L.set o v) hx hy hv hz rfl hr (by rw [show laid L o [v] = L.set o v from rfl]; exact NF.self _) (by simp; omega) (.inl rfl) (by simp [ha]) h
theorem WL.slArrL {e : TypeId} {b k q : Nat} {kl : IntKind} {lo : Operand} {j : Int} (hx : r.ev x = some (.pointer (some ⟨b, 0, none⟩))) (hh : r.ev lo = some (.int kl j)) (hj : j = (q : Int)) (hu : P.underlying t = some (.array k e)) (hsz : xI P e = some 1)
  (hd : Nat.blt d n = true) (hb : q < k) (h : WL P ro n w0 ops Q l ((d, .slice (some ⟨b, q, none⟩) (k - q) (k - q)) :: r) ds m H) :
  WL P ro n w0 ops Q (⟨some d, .slice t x (some lo) none none, ty, pos, after, none⟩ :: l) r ds m H :=
 .val hd (fun _ h => by cases h) (fun tmps w ho _ => by
  subst hj
  have e2 := v6 (P := P) (i := (q : Int)) (k := kl) (y := k) (by omega) (by omega) .sliceB w
  have e3 : ¬ k = q := by omega
  simp only [execOp, Option.map_some, Option.map_none, Sem.run_bind, ho.ev hx, ho.ev hh, Instr.sliceAt, run_underlying hu, Instr.sureAddr, Instr.sliceBounds, Sem.run_pure, Result.andThen_ok]
  simp [e2, e3, Result.andThen, y8 hsz, xP]) h
theorem WL.bytesBlkO {src dst e : TypeId} {b o k cap : Nat} {T : TypeId} {fz : Nat × Nat} {L : List Value} {s : List UInt8} (hx : r.ev x = some (.slice (some ⟨b, o, none⟩) k cap)) (hm : Item.blk b (.cells L.toArray T fz) ∈ H)
  (hL : (L.drop o).take k = s.map fun b => Value.int .u8 (b.toNat : Int)) (hk : k = s.length) (hs1 : P.underlying src = some (.slice e)) (hs2 : P.underlying dst = some .string) (hs3 : P.underlying e = some (.int .u8)) (hsz : xI P e = some 1) (hd : Nat.blt d n = true)
  (h : WL P ro n w0 ops Q l ((d, str s) :: r) ds m H) : WL P ro n w0 ops Q (⟨some d, .convert src dst x, ty, pos, after, none⟩ :: l) r ds m H := by
 subst hk
 refine .bytesStr hx hs1 hs2 hs3 hsz (.inr ⟨_, _, rfl, fun w hs j v hj => ?_⟩) hd h
 rw [xP]
 rw [← hL, List.getElem?_take] at hj
 split at hj
 ·rw [List.getElem?_drop] at hj
  exact Cell.blk hm (by simpa using hj) w hs
 ·cases hj
end
theorem WQ.rowCap {n : Nat} {w0 : World} {Q : Exit → Act → World → Prop} {e : Exit} {r : Env} {ds : List Dfr} {m : Mem} {H : SHeap} {a : Option Addr} {cap : Nat} {T : TypeId} {sz : Nat} {es : List (List Value)} (hm : Item.row a cap T sz es ∈ H) (h : es.length ≤ cap → WQ n w0 Q e r ds m H) : WQ n w0 Q e r ds m H :=
 fun tmps w ho hs => h (zE2 hs hm) tmps w ho hs
theorem and15 (x : Nat) : x &&& 15 = x % 16 := Nat.and_two_pow_sub_one_eq_mod x 4
end Go.Eng
namespace Go.Eng
open Go Go.RowKit
def mapE (q : IntKind) : Nat → List (Int × Value) → List MapEntry
 | _, [] => []
 | i, p :: l => ⟨.int q p.1, p.2, i⟩ :: mapE q (i + 1) l
def mapO (q : IntKind) (l : List (Int × Value)) : Obj := .map (mapE q 0 l).toArray l.length
theorem zBh (q : IntKind) (x : Int × Value) : ∀ (l : List (Int × Value)) (i : Nat), mapE q i (l ++ [x]) = mapE q i l ++ [⟨.int q x.1, x.2, i + l.length⟩]
 | [], i => rfl
 | p :: l, i => by
  simp only [List.cons_append, mapE, zBh q x l, List.length_cons]
  congr 4
  omega
theorem jE (q q' : IntKind) (k : Int) : ∀ (l : List (Int × Value)) (i n : Nat), l.lookup k = none → Instr.findNow (.int q') (.int q k) (mapE q n l) i = some none
 | [], i, n, _ => rfl
 | (a, v) :: l, i, n, h => by
  rw [List.lookup_cons] at h
  cases hb : k == a with
  | true => rw [hb] at h; cases h
  | false =>
   rw [hb] at h
   simp only [mapE, Instr.findNow, Instr.sameNow, if_true, hb]
   exact jE q q' k l (i + 1) (n + 1) h
theorem zBr (q q' : IntKind) (k : Int) (z : Value) : ∀ (l : List (Int × Value)) (i n : Nat), l.lookup k = some z → ∃ j, Instr.findNow (.int q') (.int q k) (mapE q n l) i = some (some (j, z))
 | [], i, n, h => by cases h
 | (a, v) :: l, i, n, h => by
  rw [List.lookup_cons] at h
  cases hb : k == a with
  | true =>
   rw [hb] at h
   cases h
   exact ⟨i, by simp only [mapE, Instr.findNow, Instr.sameNow, if_true, hb]⟩
  | false =>
   rw [hb] at h
   obtain ⟨j, hj⟩ := zBr q q' k z l (i + 1) (n + 1) h
   exact ⟨j, by simp only [mapE, Instr.findNow, Instr.sameNow, if_true, hb]; exact hj⟩
theorem vU {P : Program} {q' q : IntKind} {kt : TypeId} {k : Int} {e : Bool} {w : World} (hk : P.underlying kt = some (.int q')) : (Instr.checkKey e 10000 kt (.int q k)).run P w = .ok () w := by
 have key : ∀ j, (Instr.checkKey e (j + 1) kt (.int q k)).run P w = .ok () w := by
  intro j
  rw [Instr.checkKey]
  simp [run_underlying hk]
 exact key 9999
section
variable {t : TypeId} {x y : Operand}
theorem WL.makeMap (q : IntKind) (hd : Nat.blt d n = true) (h : ∀ b, WL P ro n w0 ops Q l ((d, .map (some b)) :: r) ds m (.blk b (mapO q []) :: H)) :
  WL P ro n w0 ops Q (⟨some d, .makeMap t none, ty, pos, after, none⟩ :: l) r ds m H :=
 .gen (fun v m' H' => ∃ b, v = .map (some b) ∧ m' = m ∧ H' = .blk b (mapO q []) :: H) hd (fun _ h => by cases h)
  (fun tmps w ho hs => ⟨_, m, _, w.alloc (mapO q []), by
   simp only [execOp, Instr.makeMap, Option.map_none, Sem.run_bind, Sem.run_pure, run_newObj_alloc, Result.andThen_ok]
   rfl, hs.alloc _, w.heap.size, rfl, rfl, rfl⟩)
  (by rintro _ _ _ ⟨b, rfl, rfl, rfl⟩; exact h b)
theorem WL.lookOk {q q' : IntKind} {kt et : TypeId} {b : Nat} {k : Int} {z : Value} {kvs : List (Int × Value)} (hx : r.ev x = some (.map (some b))) (hy : r.ev y = some (.int q k)) (hm : Item.blk b (mapO q kvs) ∈ H)
  (hu : P.underlying t = some (.map kt et)) (hk : P.underlying kt = some (.int q')) (hz : ∀ w, (zeroValue et).run P w = .ok z w) (hd : Nat.blt d n = true)
  (h : WL P ro n w0 ops Q l ((d, .tuple #[(kvs.lookup k).getD z, .bool (kvs.lookup k).isSome]) :: r) ds m H) :
  WL P ro n w0 ops Q (⟨some d, .lookup t x y true, ty, pos, after, none⟩ :: l) r ds m H :=
 .gen (fun v m' H' => v = .tuple #[(kvs.lookup k).getD z, .bool (kvs.lookup k).isSome] ∧ m' = m ∧ H' = H) hd (fun _ h => by cases h)
  (fun tmps w ho hs => ⟨_, m, H, w, by
   have hb : w.heap[b]? = some (mapO q kvs) := hs.own _ hm
   have h1 : (getObj b).run P w = .ok (mapO q kvs) w := by simp [getObj, Sem.run, hb, mapO]
   have h2 : (Instr.lookup t (.map (some b)) (.int q k) true).run P w = .ok (.tuple #[(kvs.lookup k).getD z, .bool (kvs.lookup k).isSome]) w := by
    simp only [Instr.lookup, Sem.run_bind, run_underlying hu, Result.andThen_ok, h1]
    simp only [mapO, Sem.run_bind, Sem.run_pure, Result.andThen_ok, vU hk, Instr.findKey, run_underlying hk]
    cases hl : kvs.lookup k with
    | none =>
     rw [jE q q' k kvs 0 0 hl]
     simp [hz, Result.andThen]
    | some v =>
     obtain ⟨j, hj⟩ := zBr q q' k v kvs 0 0 hl
     rw [hj]
     simp [Result.andThen]
   simp only [execOp, ho.ev hx, ho.ev hy, Sem.run_bind, h2, Result.andThen_ok, Sem.run_pure], hs, rfl, rfl, rfl⟩)
  (by rintro _ _ _ ⟨rfl, rfl, rfl⟩; exact h)
theorem WL.mapNew {q q' : IntKind} {kt et : TypeId} {b : Nat} {k : Int} {v : Value} {u : Operand} {kvs : List (Int × Value)} {H' : SHeap} (hx : r.ev x = some (.map (some b))) (hy : r.ev y = some (.int q k)) (hv : r.ev u = some v)
  (hu : P.underlying t = some (.map kt et)) (hk : P.underlying kt = some (.int q')) (hr : Repl (.blk b (mapO q kvs)) (.blk b (mapO q (kvs ++ [(k, v)]))) H H') (hl : kvs.lookup k = none)
  (h : WL P ro n w0 ops Q l r ds m H') :
  WL P ro n w0 ops Q (⟨none, .mapUpdate t x y u, ty, pos, after, none⟩ :: l) r ds m H :=
 .act (fun m' H'' => m' = m ∧ H'' = H') rfl (fun _ h => by cases h)
  (fun tmps w ho hs => ⟨m, H', w.putObj b (mapO q (kvs ++ [(k, v)])), by
   have hb : w.heap[b]? = some (mapO q kvs) := hs.own _ hr.mem
   have h1 : (getObj b).run P w = .ok (mapO q kvs) w := by simp [getObj, Sem.run, hb, mapO]
   have h3 : ∀ o, (setObj b o).run P w = .ok () (w.putObj b o) := fun o => by simp [setObj, Sem.run, hb, mapO, World.putObj]
   have e1 : Obj.map ((mapE q 0 kvs).toArray.push ⟨.int q k, v, kvs.length⟩) (kvs.length + 1) = mapO q (kvs ++ [(k, v)]) := by
    unfold mapO
    rw [zBh, Nat.zero_add]
    simp
   have h2 : (Instr.mapUpdate t (.map (some b)) (.int q k) v).run P w = .ok () (w.putObj b (mapO q (kvs ++ [(k, v)]))) := by
    simp only [Instr.mapUpdate, Sem.run_bind, run_underlying hu, Result.andThen_ok, h1]
    simp only [mapO, Sem.run_bind, Sem.run_pure, Result.andThen_ok, vU hk, Instr.findKey, run_underlying hk]
    rw [jE q q' k kvs 0 0 hl]
    simp only [Sem.run_pure, Result.andThen_ok]
    rw [e1, h3]; rfl
   simp only [execOp, ho.ev hx, ho.ev hy, ho.ev hv, h2, Sem.run_bind, Result.andThen_ok]
   try rfl, hs.replObj hr, rfl, rfl⟩)
  (by rintro _ _ ⟨rfl, rfl⟩; exact h)
end
end Go.Eng
namespace Go.Eng
open Go Go.RowKit
theorem zIb {e : Int} (h : -32768 ≤ e ∧ e ≤ 32767) : IntKind.i16.wrap e = e := by
 simp [IntKind.wrap, IntKind.signed, IntKind.bits]; omega
section
variable {t t' : TypeId} {x y : Operand} {a b : Int}
theorem WL.add16 (hx : r.ev x = some (.int .i16 a)) (hy : r.ev y = some (.int .i16 b)) (hd : Nat.blt d n = true) (hb : -32768 ≤ a + b ∧ a + b ≤ 32767)
  (h : WL P ro n w0 ops Q l ((d, .int .i16 (a + b)) :: r) ds m H) : WL P ro n w0 ops Q (⟨some d, .binOp .add t x y t', ty, pos, after, none⟩ :: l) r ds m H :=
 .add hx hy hd (by rw [zIb hb]; exact h)
end
def tabL (T : TypeId) (c : Nat) (F : Nat → List (List Value)) (bs : List Nat) : SHeap := bs.mapIdx fun i b => .row (some ⟨b, 0, none⟩) c T 1 (F i)
theorem zEq {T : TypeId} {c : Nat} {F : Nat → List (List Value)} {bs : List Nat} {b : Nat} : tabL T c F (bs ++ [b]) = tabL T c F bs ++ [.row (some ⟨b, 0, none⟩) c T 1 (F bs.length)] := by
 unfold tabL
 rw [List.mapIdx_append]
 simp
theorem zB7 {T : TypeId} {c : Nat} {F : Nat → List (List Value)} {A B : List Nat} {b : Nat} : tabL T c F (A ++ b :: B) = tabL T c F A ++ .row (some ⟨b, 0, none⟩) c T 1 (F A.length) :: (B.mapIdx fun i b => .row (some ⟨b, 0, none⟩) c T 1 (F (i + 1 + A.length))) := by
 unfold tabL
 rw [List.mapIdx_append, List.mapIdx_cons]
 simp
theorem zAp {T : TypeId} {c : Nat} {F G : Nat → List (List Value)} {A : List Nat} (h : ∀ i, i < A.length → F i = G i) : tabL T c F A = tabL T c G A := by
 unfold tabL
 apply List.ext_getElem (by simp)
 intro i h1 h2
 simp only [List.length_mapIdx] at h1
 simp [h i h1]
theorem zDi {T : TypeId} {c : Nat} {F : Nat → List (List Value)} {bs : List Nat} {i b : Nat} (h : bs[i]? = some b) : Item.row (some ⟨b, 0, none⟩) c T 1 (F i) ∈ tabL T c F bs := by
 unfold tabL
 apply List.mem_of_getElem? (i := i)
 rw [List.getElem?_mapIdx, h]; rfl
theorem zF1 {T : TypeId} {c : Nat} {F G : Nat → List (List Value)} {bs : List Nat} {i b : Nat} (h : bs[i]? = some b) (hG : ∀ j, j ≠ i → F j = G j) :
  ∃ X : SHeap, List.Perm (tabL T c F bs) (.row (some ⟨b, 0, none⟩) c T 1 (F i) :: X) ∧ List.Perm (tabL T c G bs) (.row (some ⟨b, 0, none⟩) c T 1 (G i) :: X) ∧ ∀ j b', j ≠ i → bs[j]? = some b' → Item.row (some ⟨b', 0, none⟩) c T 1 (F j) ∈ X := by
 obtain ⟨hi, he⟩ := List.getElem?_eq_some_iff.1 h
 have hs : bs = bs.take i ++ b :: bs.drop (i + 1) := by
  conv => lhs; rw [← List.take_append_drop i bs, List.drop_eq_getElem_cons hi, he]
 have hl : (bs.take i).length = i := by rw [List.length_take]; omega
 refine ⟨tabL T c F (bs.take i) ++ ((bs.drop (i + 1)).mapIdx fun k b => .row (some ⟨b, 0, none⟩) c T 1 (F (k + 1 + i))), ?_, ?_, ?_⟩
 ·have := zB7 (T := T) (c := c) (F := F) (A := bs.take i) (B := bs.drop (i + 1)) (b := b)
  rw [← hs, hl] at this
  rw [this]
  exact List.perm_middle
 ·have := zB7 (T := T) (c := c) (F := G) (A := bs.take i) (B := bs.drop (i + 1)) (b := b)
  rw [← hs, hl] at this
  rw [this, zAp (F := G) (G := F) (A := bs.take i) (fun j hj => (hG j (by omega)).symm)]
  have e : ((bs.drop (i + 1)).mapIdx fun k b => Item.row (some ⟨b, 0, none⟩) c T 1 (G (k + 1 + i))) = (bs.drop (i + 1)).mapIdx fun k b => Item.row (some ⟨b, 0, none⟩) c T 1 (F (k + 1 + i)) := by
   congr 1
   funext k b
   rw [hG (k + 1 + i) (by omega)]
  rw [e]
  exact List.perm_middle
 ·intro j b' hj hb
  rcases Nat.lt_or_gt_of_ne hj with hlt | hgt
  ·refine List.mem_append.2 (.inl (zDi ?_))
   rw [List.getElem?_take, if_pos hlt]; exact hb
  ·refine List.mem_append.2 (.inr ?_)
   apply List.mem_of_getElem? (i := j - (i + 1))
   rw [List.getElem?_mapIdx, List.getElem?_drop, show i + 1 + (j - (i + 1)) = j by omega, hb]
   simp only [Option.map_some]
   rw [show j - (i + 1) + 1 + i = j by omega]
end Go.Eng
namespace Go.Eng
open Go
def yF : Code → List Code
 | .seq a b => yF a ++ yF b
 | .block _ c | .scope c => yF c
 | .loop c => .loop c :: yF c
 | .cond _ a b => yF a ++ yF b
 | .rangeFunc _ _ a b => yF a ++ yF b
 | _ => []
end Go.Eng
namespace Go.Eng
open Go Go.RowKit
def prE (p : Nat × Nat) : List Value := [.int .i64 (p.1 : Int), .int .i64 (p.2 : Int)]
def mid (A B : List Tx) (k : Nat) : List (Nat × Nat) := if A.length ≤ 1024 ∧ B.length ≤ 1024 then midL A B k k else []
def cut16 (A B : List Tx) (i k j : Nat) : Int := if k ≤ j then (lcs (A.drop i) (B.drop j) : Int) else 0
def rowP (A B : List Tx) (i k : Nat) : List (List Value) := (List.range (B.length + 1)).map fun j => [.int .i16 (cut16 A B i k j)]
theorem wH (A B : List Tx) (i k : Nat) : (rowP A B i k).length = B.length + 1 := by simp [rowP]
theorem uU {A B : List Tx} {i k j : Nat} (hj : j ≤ B.length) : (rowP A B i k)[j]? = some [.int .i16 (cut16 A B i k j)] := by
 unfold rowP
 rw [List.getElem?_map, List.getElem?_range (by omega)]; rfl
theorem vB {A B : List Tx} {i k j : Nat} (h : k ≤ j) : cut16 A B i k j = (lcs (A.drop i) (B.drop j) : Int) := if_pos h
theorem zIR {A B : List Tx} {i k : Nat} {v : Int} (hv : v = (lcs (A.drop i) (B.drop k) : Int)) : (rowP A B i (k + 1)).set k [.int .i16 v] = rowP A B i k := by
 apply List.ext_getElem? 
 intro j
 rw [List.getElem?_set]
 by_cases hj : j ≤ B.length
 ·rw [uU hj, uU hj, wH]
  by_cases e : k = j
  ·subst e
   rw [if_pos rfl, if_pos (by omega), vB (Nat.le_refl _), hv]
  ·rw [if_neg e]
   unfold cut16
   by_cases h : k + 1 ≤ j
   ·rw [if_pos h, if_pos (by omega)]
   ·rw [if_neg h, if_neg (by omega)]
 ·have h0 : ∀ k, (rowP A B i k)[j]? = none := fun k => List.getElem?_eq_none (by rw [wH]; omega)
  rw [h0, h0, wH]
  split
  ·rw [if_neg (by omega)]
  ·rfl
theorem zDZ {A B : List Tx} {i k : Nat} (h : B.length ≤ k ∨ A.length ≤ i) : rowP A B i k = List.replicate (B.length + 1) [.int .i16 0] := by
 apply List.ext_getElem?
 intro j
 by_cases hj : j ≤ B.length
 ·rw [uU hj, List.getElem?_replicate, if_pos (by omega)]
  congr 3
  unfold cut16
  split
  ·rcases h with h | h
   ·rw [List.drop_of_length_le (l := B) (by omega), vI]; rfl
   ·rw [List.drop_of_length_le (l := A) (by omega), wO]; rfl
  ·rfl
 ·rw [List.getElem?_eq_none (by rw [wH]; omega), List.getElem?_eq_none (by rw [List.length_replicate]; omega)]
def outE (bs : List Nat) (c N : Nat) : List (List Value) := (bs.map fun b => [.slice (some ⟨b, 0, none⟩) c c]) ++ List.replicate (N - bs.length) [.slice none 0 0]
theorem zFY {bs : List Nat} {c N b : Nat} (h : bs.length < N) : (outE bs c N).set bs.length [.slice (some ⟨b, 0, none⟩) c c] = outE (bs ++ [b]) c N := by
 unfold outE
 rw [List.set_append_right _ _ (by simp), List.map_append, List.append_assoc]
 congr 1
 rw [List.length_map, Nat.sub_self, List.length_append, List.length_singleton, show N - bs.length = (N - (bs.length + 1)) + 1 by omega, List.replicate_succ]
 rfl
theorem qN {bs : List Nat} {c N : Nat} (h : bs.length ≤ N) : (outE bs c N).length = N := by
 unfold outE
 rw [List.length_append, List.length_map, List.length_replicate]; omega
theorem zFn {bs : List Nat} {c N i b : Nat} (h : bs[i]? = some b) : (outE bs c N)[i]? = some [.slice (some ⟨b, 0, none⟩) c c] := by
 have hi := (List.getElem?_eq_some_iff.1 h).1
 unfold outE
 rw [List.getElem?_append_left (by simpa using hi), List.getElem?_map, h]; rfl
theorem xN {l : List Tx} {i : Nat} {x : Tx} (h : l[i]? = some x) : l.drop i = x :: l.drop (i + 1) := by
 obtain ⟨hi, he⟩ := List.getElem?_eq_some_iff.1 h
 rw [List.drop_eq_getElem_cons hi, he]
end Go.Eng
namespace ZP
open Go Go.Eng
attribute [local irreducible] WL WC WQ QFun zJ Does Q1 zD zB Go.Addr.add
attribute [local irreducible] midL yS rowP outE tabL strs
namespace ZD8a
theorem zal {G G' : Prop} (next : G') (h : Bx G' → G := by intro zzn; (first | (refine WL.makeRow (sz:=1) (by':=2) (zs:=[.int .i16 0]) rfl rfl (by exact znz) (by exact znz) rfl rfl rfl rfl rfl rfl (by decide) (by omega) (by omega) rfl ?_; intro zzf) | (refine WL.makeRow (sz:=1) (by':=24) (zs:=[.slice none 0 0]) rfl rfl (by exact znz) (by exact znz) rfl rfl rfl rfl rfl rfl (by decide) (by omega) (by omega) rfl ?_; intro zzf) | (refine WL.add16 rfl rfl rfl (by omega) ?_)); (repeat revert zzf); exact zzn.out) : G := h ⟨next⟩
end ZD8a
open ZD8a in
theorem zJ7 {A B : List Tx} {aa ab : Option Addr} {ca cb k0 i' q bi b1 bo : Nat} {x : Tx} {E : List (List Value)} {w0 : World} {m : Mem} {Y : SHeap} {Q : Exit → Act → World → Prop} (hA : A.length ≤ 1024) (hB : B.length ≤ 1024) (hx : A[i']? = some x) (hq : A.length + 1 = q)
  (hEl : E.length = q) (hE0 : E[i']? = some [Value.slice (some ⟨bi, 0, none⟩) (B.length + 1) (B.length + 1)]) (hE1 : E[i' + 1]? = some [Value.slice (some ⟨b1, 0, none⟩) (B.length + 1) (B.length + 1)])
  (hr1 : RowR w0 m Y 1 (some ⟨b1, 0, none⟩) (rowP A B (i' + 1) 0)) (hra : RowR w0 m Y 1 aa (strs A)) (hrb : RowR w0 m Y 1 ab (strs B))
  (hK : WQ 163 w0 Q (.exit 4) [(9, .int .i64 (i' : Int)), (7, .slice (some ⟨bo, 0, none⟩) q q), (0, .slice aa A.length ca), (1, .slice ab B.length cb), (2, .int .i64 (k0 : Int))] [] m (.row (some ⟨bi, 0, none⟩) (B.length + 1) 232 1 (rowP A B i' 0) :: .row (some ⟨bo, 0, none⟩) q 231 1 E :: Y)) :
  WC Tryz.prog none 163 w0 ((yF (Tryz.f101.body.getD .skip)).getD 2 .skip) Q [(10, .int .i64 ((B.length : Int) - 1)), (9, .int .i64 (i' : Int)), (7, .slice (some ⟨bo, 0, none⟩) q q), (0, .slice aa A.length ca), (1, .slice ab B.length cb), (2, .int .i64 (k0 : Int))] [] m
   (.row (some ⟨bi, 0, none⟩) (B.length + 1) 232 1 (rowP A B i' B.length) :: .row (some ⟨bo, 0, none⟩) q 231 1 E :: Y) := by
 have hxd := xN hx
 have hxi := (List.getElem?_eq_some_iff.1 hx).1
 have hgx : (strs A)[i']? = some [str x] := by unfold strs; rw [List.getElem?_map, hx]; rfl
 have hal : (strs A).length = A.length := by simp [strs]
 have hbl2 : (strs B).length = B.length := by simp [strs]
 refine lpz (fun j r ds m' H' => ∃ k, j = 2 * k ∧ r = [(10, .int .i64 ((k : Int) - 1)), (9, .int .i64 (i' : Int)), (7, .slice (some ⟨bo, 0, none⟩) q q), (0, .slice aa A.length ca), (1, .slice ab B.length cb), (2, .int .i64 (k0 : Int))] ∧ ds = [] ∧ m = m' ∧ H' = .row (some ⟨bi, 0, none⟩) (B.length + 1) 232 1 (rowP A B i' k) :: .row (some ⟨bo, 0, none⟩) q 231 1 E :: Y ∧ (k ≤ B.length)) (2 * (B.length)) ⟨B.length, rfl, rfl, rfl, rfl, rfl, by omega⟩ ?_
 rintro j r ds m' H' ⟨k, rfl, rfl, rfl, rfl, rfl, hk⟩
 by_cases hkz : k = 0
 ·subst hkz
  try (refine stg ?_; intros)
  exact WQ.weak zsb zpk hK
 ·obtain ⟨k', rfl⟩ : ∃ k', k = k' + 1 := ⟨k - 1, by omega⟩
  rw [show ((k' + 1 : Nat) : Int) - 1 = (k' : Int) by omega]
  obtain ⟨y, hy⟩ : ∃ y, B[k']? = some y := ⟨_, List.getElem?_eq_getElem (by omega : k' < B.length)⟩
  have hyd := xN hy
  have hgy : (strs B)[k']? = some [str y] := by unfold strs; rw [List.getElem?_map, hy]; rfl
  have hq0 := uU (A := A) (B := B) (i := i') (k := k' + 1) (j := k' + 1) (by omega)
  have hq1 := uU (A := A) (B := B) (i := i' + 1) (k := 0) (j := k') (by omega)
  have hq2 := uU (A := A) (B := B) (i := i' + 1) (k := 0) (j := k' + 1) (by omega)
  rw [vB (Nat.le_refl _)] at hq0
  rw [vB (Nat.zero_le _)] at hq1 hq2
  have hst : ∀ v : Int, v = (lcs (A.drop i') (B.drop k') : Int) → (rowP A B i' (k' + 1)).set k' [.int .i16 v] = rowP A B i' k' := fun v hv => zIR hv
  have hP0 := wH A B i' (k' + 1)
  have hP1 := wH A B (i' + 1) 0
  have hl0 := (uZ (A.drop i') (B.drop (k' + 1))).2
  have hl1 := (uZ (A.drop (i' + 1)) (B.drop k')).2
  have hl2 := (uZ (A.drop (i' + 1)) (B.drop (k' + 1))).2
  rw [List.length_drop] at hl0 hl1 hl2
  rw [hxd, hyd] at hst
  rw [hyd] at hq1 hl1
  rw [hxd] at hq0 hl0
  have hmx : ¬ x = y → max (lcs (A.drop (i' + 1)) (y :: B.drop (k' + 1)) : Int) (lcs (x :: A.drop (i' + 1)) (B.drop (k' + 1)) : Int) = (lcs (x :: A.drop (i' + 1)) (y :: B.drop (k' + 1)) : Int) := fun h => by rw [zAI h]; omega
  have heq : x = y → (lcs (A.drop (i' + 1)) (B.drop (k' + 1)) : Int) + 1 = (lcs (x :: A.drop (i' + 1)) (y :: B.drop (k' + 1)) : Int) := fun h => by rw [h, zBn]; omega
  generalize lcs (x :: A.drop (i' + 1)) (B.drop (k' + 1)) = n0 at *
  generalize lcs (A.drop (i' + 1)) (y :: B.drop (k' + 1)) = n1 at *
  generalize lcs (A.drop (i' + 1)) (B.drop (k' + 1)) = n2 at *
  generalize hP0e : rowP A B i' (k' + 1) = P0 at *
  generalize rowP A B (i' + 1) 0 = P1 at *
  have hr1' : RowR w0 m (.row (some ⟨bi, 0, none⟩) (B.length + 1) 232 1 P0 :: .row (some ⟨bo, 0, none⟩) q 231 1 E :: Y) 1 (some ⟨b1, 0, none⟩) P1 := hr1.more.more
  have hra' : RowR w0 m (.row (some ⟨bi, 0, none⟩) (B.length + 1) 232 1 P0 :: .row (some ⟨bo, 0, none⟩) q 231 1 E :: Y) 1 aa (strs A) := hra.more.more
  have hrb' : RowR w0 m (.row (some ⟨bi, 0, none⟩) (B.length + 1) 232 1 P0 :: .row (some ⟨bo, 0, none⟩) q 231 1 E :: Y) 1 ab (strs B) := hrb.more.more
  generalize strs A = SA at *
  generalize strs B = SB at *
  refine WC.rSome hra' (by omega) ?_
  rintro a0 rfl
  refine WC.rSome hrb' (by omega) ?_
  rintro b0 rfl
  by_cases hxy : x = y
  ·try (refine stg ?_; intros)
   rw [hst _ (heq hxy)]
   refine nxz (2 * (k')) ⟨k', rfl, rfl, rfl, rfl, rfl, ?_⟩
   ·omega
  ·try (refine stg ?_; intros)
   rw [hst _ (hmx hxy)]
   refine nxz (2 * (k')) ⟨k', rfl, rfl, rfl, rfl, rfl, ?_⟩
   ·omega
end ZP
namespace Go.Eng
open Go
theorem zBc {x y : Tx} {xs ys : List Tx} {n : Nat} : yS x xs n (y :: ys) = if x = y ∧ lcs xs ys + 1 = n then some 0 else (yS x xs n ys).map (· + 1) := rfl
theorem zAj {o : Option Nat} {a b c : Nat} (h : a + b = c) : (o.map (· + a)).map (· + b) = o.map (· + c) := by
 cases o with
 | none => rfl
 | some v => simp only [Option.map_some]; congr 1; omega
end Go.Eng
namespace ZP
open Go Go.Eng
attribute [local irreducible] WL WC WQ QFun zJ Does Q1 zD zB Go.Addr.add
attribute [local irreducible] midL yS rowP outE tabL strs
namespace ZD8ba
theorem zal {G G' : Prop} (next : G') (h : Bx G' → G := by intro zzn; (first | (refine WL.add16 rfl rfl rfl (by omega) ?_)); (repeat revert zzf); exact zzn.out) : G := h ⟨next⟩
end ZD8ba
open ZD8ba in
theorem zIT {A B : List Tx} {aa ab a : Option Addr} {ca cb cp k0 i k q bi b1 bo : Nat} {x : Tx} {E : List (List Value)} {L : List (Nat × Nat)} {w0 : World} {m : Mem} {Y : SHeap} {Q : Exit → Act → World → Prop} (hA : A.length ≤ 1024) (hB : B.length ≤ 1024) (hk0 : k0 ≤ 4194304) (hx : A[i]? = some x) (hk : k ≤ B.length) (hLl : L.length ≤ 1024) (hq : A.length + 1 = q)
  (hEl : E.length = q) (hE0 : E[i]? = some [Value.slice (some ⟨bi, 0, none⟩) (B.length + 1) (B.length + 1)]) (hE1 : E[i + 1]? = some [Value.slice (some ⟨b1, 0, none⟩) (B.length + 1) (B.length + 1)])
  (hr0 : RowR w0 m Y 1 (some ⟨bi, 0, none⟩) (rowP A B i 0)) (hr1 : RowR w0 m Y 1 (some ⟨b1, 0, none⟩) (rowP A B (i + 1) 0)) (hra : RowR w0 m Y 1 aa (strs A)) (hrb : RowR w0 m Y 1 ab (strs B))
  (hno : yS x (A.drop (i + 1)) (lcs (A.drop i) (B.drop k)) (B.drop k) = none → WQ 163 w0 Q (.exit 8) [(14, .int .i64 (i : Int)), (13, .int .i64 (k : Int)), (12, .slice a L.length cp), (110, .int .i64 (i : Int)), (109, .int .i64 (A.length : Int)), (7, .slice (some ⟨bo, 0, none⟩) q q), (0, .slice aa A.length ca), (1, .slice ab B.length cb), (2, .int .i64 (k0 : Int))] [] m (.row a cp 134 2 (L.map prE) :: .row (some ⟨bo, 0, none⟩) q 231 1 E :: Y))
  (hyes : ∀ (p : Nat) (a2 : Option Addr) (cp2 : Nat), k ≤ p → p < B.length → yS x (A.drop (i + 1)) (lcs (A.drop i) (B.drop k)) (B.drop k) = some (p - k) → WQ 163 w0 Q (.exit 7) [(13, .int .i64 ((p : Int) + 1)), (12, .slice a2 (L.length + 1) cp2), (110, .int .i64 (i : Int)), (109, .int .i64 (A.length : Int)), (7, .slice (some ⟨bo, 0, none⟩) q q), (0, .slice aa A.length ca), (1, .slice ab B.length cb), (2, .int .i64 (k0 : Int))] [] m (.row a2 cp2 134 2 (L.map prE ++ [[.int .i64 ((k0 : Int) + i), .int .i64 ((k0 : Int) + p)]]) :: .row (some ⟨bo, 0, none⟩) q 231 1 E :: Y)) :
  WC Tryz.prog none 163 w0 ((yF (Tryz.f101.body.getD .skip)).getD 4 .skip) Q [(15, .int .i64 (k : Int)), (14, .int .i64 (i : Int)), (13, .int .i64 (k : Int)), (12, .slice a L.length cp), (110, .int .i64 (i : Int)), (109, .int .i64 (A.length : Int)), (7, .slice (some ⟨bo, 0, none⟩) q q), (0, .slice aa A.length ca), (1, .slice ab B.length cb), (2, .int .i64 (k0 : Int))] [] m
   (.row a cp 134 2 (L.map prE) :: .row (some ⟨bo, 0, none⟩) q 231 1 E :: Y) := by
 have hxi := (List.getElem?_eq_some_iff.1 hx).1
 have hgx : (strs A)[i]? = some [str x] := by unfold strs; rw [List.getElem?_map, hx]; rfl
 have hal : (strs A).length = A.length := by simp [strs]
 have hbl2 : (strs B).length = B.length := by simp [strs]
 have hLm : (L.map prE).length = L.length := List.length_map _
 have hn1 := uU (A := A) (B := B) (i := i) (k := 0) (j := k) (by omega)
 rw [vB (Nat.zero_le _)] at hn1
 have hnl := (uZ (A.drop i) (B.drop k)).2
 rw [List.length_drop] at hnl
 have hP0 := wH A B i 0
 have hP1 := wH A B (i + 1) 0
 have hqs : ∀ p, p + 1 ≤ B.length → (rowP A B (i + 1) 0)[p + 1]? = some [.int .i16 (lcs (A.drop (i + 1)) (B.drop (p + 1)) : Int)] := fun p hp => by
  rw [uU hp, vB (Nat.zero_le _)]
 generalize rowP A B (i + 1) 0 = P1 at *
 generalize rowP A B i 0 = P0 at *
 have hr0' : RowR w0 m (.row a cp 134 2 (L.map prE) :: .row (some ⟨bo, 0, none⟩) q 231 1 E :: Y) 1 (some ⟨bi, 0, none⟩) P0 := hr0.more.more
 have hr1' : RowR w0 m (.row a cp 134 2 (L.map prE) :: .row (some ⟨bo, 0, none⟩) q 231 1 E :: Y) 1 (some ⟨b1, 0, none⟩) P1 := hr1.more.more
 have hra' : RowR w0 m (.row a cp 134 2 (L.map prE) :: .row (some ⟨bo, 0, none⟩) q 231 1 E :: Y) 1 aa (strs A) := hra.more.more
 have hrb' : RowR w0 m (.row a cp 134 2 (L.map prE) :: .row (some ⟨bo, 0, none⟩) q 231 1 E :: Y) 1 ab (strs B) := hrb.more.more
 have hgys : ∀ p y, B[p]? = some y → (strs B)[p]? = some [str y] := fun p y h => by unfold strs; rw [List.getElem?_map, h]; rfl
 generalize strs A = SA at *
 generalize strs B = SB at *
 generalize L.map prE = LE at *
 generalize hn : lcs (A.drop i) (B.drop k) = n at *
 refine WC.rSome hra' (by omega) ?_
 rintro a0 rfl
 refine lpz (fun j r ds m' H' => ∃ p, j = B.length - p ∧ r = [(15, .int .i64 (p : Int)), (14, .int .i64 (i : Int)), (13, .int .i64 (k : Int)), (12, .slice a L.length cp), (110, .int .i64 (i : Int)), (109, .int .i64 (A.length : Int)), (7, .slice (some ⟨bo, 0, none⟩) q q), (0, .slice (some a0) A.length ca), (1, .slice ab B.length cb), (2, .int .i64 (k0 : Int))] ∧ ds = [] ∧ m = m' ∧ H' = .row a cp 134 2 LE :: .row (some ⟨bo, 0, none⟩) q 231 1 E :: Y ∧ (k ≤ p) ∧ (p ≤ B.length) ∧ (yS x (A.drop (i + 1)) n (B.drop k) = (yS x (A.drop (i + 1)) n (B.drop p)).map (· + (p - k)))) (B.length - (k)) ⟨k, rfl, rfl, rfl, rfl, rfl, by omega, by omega, by rw [Nat.sub_self]; cases yS x (A.drop (i + 1)) n (B.drop k) <;> rfl⟩ ?_
 rintro j r ds m' H' ⟨p, rfl, rfl, rfl, rfl, rfl, hkp, hpB, hf⟩
 by_cases hlt : p < B.length
 ·obtain ⟨y, hy⟩ : ∃ y, B[p]? = some y := ⟨_, List.getElem?_eq_getElem hlt⟩
  have hyd := xN hy
  have hgy := hgys p y hy
  have hq1 := hqs p (by omega)
  rw [hyd, zBc] at hf
  have hl1 := (uZ (A.drop (i + 1)) (B.drop (p + 1))).2
  rw [List.length_drop] at hl1
  generalize hv : lcs (A.drop (i + 1)) (B.drop (p + 1)) = v at *
  refine WC.rSome hrb' (by omega) ?_
  rintro b0 rfl
  by_cases hxy : x = y
  ·by_cases hvn : v + 1 = n
   ·rw [if_pos ⟨hxy, hvn⟩] at hf
    have hfin := fun a2 cp2 => hyes p a2 cp2 hkp hlt (by rw [hf]; simp)
    have hvn' : (v : Int) + 1 = (n : Int) := by omega
    refine stg ?_; intros; rename_i a9 a2 cp2
    rw [hLm]
    exact WQ.weak zsb zpk (hfin _ _)
   ·rw [if_neg (fun h => hvn h.2), zAj (c := p + 1 - k) (by omega)] at hf
    have hvn' : ¬ (v : Int) + 1 = (n : Int) := by omega
    try (refine stg ?_; intros)
    refine nxz (B.length - (p + 1)) ⟨p + 1, rfl, rfl, rfl, rfl, rfl, ?_, ?_, ?_⟩
    ·omega
    ·omega
    ·exact hf
  ·rw [if_neg (fun h => hxy h.1), zAj (c := p + 1 - k) (by omega)] at hf
   try (refine stg ?_; intros)
   refine nxz (B.length - (p + 1)) ⟨p + 1, rfl, rfl, rfl, rfl, rfl, ?_, ?_, ?_⟩
   ·omega
   ·omega
   ·exact hf
 ·have hBp : B.drop p = [] := List.drop_of_length_le (by omega)
  rw [hBp] at hf
  have hf0 : yS x (A.drop (i + 1)) n (B.drop k) = none := by rw [hf]; unfold yS; rfl
  try (refine stg ?_; intros)
  exact WQ.weak zsb zpk (hno hf0)
end ZP
namespace ZP
open Go Go.Eng
attribute [local irreducible] WL WC WQ QFun zJ Does Q1 zD zB Go.Addr.add
attribute [local irreducible] midL yS rowP outE tabL strs
namespace ZD9a
theorem zal {G G' : Prop} (next : G') (h : Bx G' → G := by intro zzn; (first | (refine WL.makeRow (sz:=1) (by':=2) (zs:=[.int .i16 0]) rfl rfl (by exact znz) (by exact znz) rfl rfl rfl rfl rfl rfl (by decide) (by omega) (by omega) rfl ?_; intro zzf) | (refine WL.makeRow (sz:=1) (by':=24) (zs:=[.slice none 0 0]) rfl rfl (by exact znz) (by exact znz) rfl rfl rfl rfl rfl rfl (by decide) (by omega) (by omega) rfl ?_; intro zzf) | (refine WL.add16 rfl rfl rfl (by omega) ?_)); (repeat revert zzf); exact zzn.out) : G := h ⟨next⟩
end ZD9a
open ZD9a in
theorem zF7 {A B : List Tx} {aa ab : Option Addr} {ca cb k0 : Nat} {w0 : World} {m : Mem} {H : SHeap} (hA : A.length ≤ 4194304) (hB : B.length ≤ 4194304) (hk0 : k0 ≤ 4194304) (ha : RowR w0 m H 1 aa (strs A)) (hb : RowR w0 m H 1 ab (strs B)) :
  Does Tryz.prog 101 #[.slice aa A.length ca, .slice ab B.length cb, .int .i64 (k0 : Int)] w0 m H (fun v m' H' => m' = m ∧ ∃ a cp, v = .slice a (mid A B k0).length cp ∧ H' = .row a cp 134 2 ((mid A B k0).map prE) :: H) := by
 refine Does.of_body func101 rfl ntmps101 rfl ?_
 by_cases h0 : A.length = 0
 ·have hm : mid A B k0 = [] := by rw [List.eq_nil_of_length_eq_zero h0]; unfold mid; split <;> simp [midL]
  refine WC.newRow (T := 134) (sz := 2) ?_
  try (refine stg ?_; intros)
  exact q_fz (H0 := .row none 0 134 2 [] :: H) ⟨rfl, none, 0, by rw [hm], by rw [hm]; rfl⟩
 by_cases h1 : B.length = 0
 ·have hm : mid A B k0 = [] := by
   rw [List.eq_nil_of_length_eq_zero h1]; unfold mid
   split
   ·exact zEm (vI _)
   ·rfl
  refine WC.newRow (T := 134) (sz := 2) ?_
  try (refine stg ?_; intros)
  exact q_fz (H0 := .row none 0 134 2 [] :: H) ⟨rfl, none, 0, by rw [hm], by rw [hm]; rfl⟩
 by_cases h2 : 1024 < A.length
 ·have hm : mid A B k0 = [] := if_neg (by omega)
  refine WC.newRow (T := 134) (sz := 2) ?_
  try (refine stg ?_; intros)
  exact q_fz (H0 := .row none 0 134 2 [] :: H) ⟨rfl, none, 0, by rw [hm], by rw [hm]; rfl⟩
 by_cases h3 : 1024 < B.length
 ·have hm : mid A B k0 = [] := if_neg (by omega)
  refine WC.newRow (T := 134) (sz := 2) ?_
  try (refine stg ?_; intros)
  exact q_fz (H0 := .row none 0 134 2 [] :: H) ⟨rfl, none, 0, by rw [hm], by rw [hm]; rfl⟩
 have hm : mid A B k0 = midL A B k0 k0 := if_pos (by omega)
 rw [hm]
 have hcA : (A.length : Int) + 1 = ((A.length + 1 : Nat) : Int) := by omega
 have hcB : (B.length : Int) + 1 = ((B.length + 1 : Nat) : Int) := by omega
 refine stg ?_; intros; rename_i bo
 generalize hN : A.length + 1 = N at *
 rw [show List.replicate N [Value.slice none 0 0] = outE [] (B.length + 1) N by unfold outE; rfl]
 refine WC.heap (H' := .row (some ⟨bo, 0, none⟩) N 231 1 (outE [] (B.length + 1) N) :: (tabL 232 (B.length + 1) (fun _ => List.replicate (B.length + 1) [.int .i16 0]) [] ++ H)) (fun w h => by unfold tabL; exact h) ?_
 refine lpz (fun j r ds m' H' => ∃ (q : _) (bs : List Nat), j = N - q ∧ r = [(40, .int .i64 (q : Int)), (39, .int .i64 (N : Int)), (7, .slice (some ⟨bo, 0, none⟩) N N), (0, .slice aa A.length ca), (1, .slice ab B.length cb), (2, .int .i64 (k0 : Int))] ∧ ds = [] ∧ m = m' ∧ H' = .row (some ⟨bo, 0, none⟩) N 231 1 (outE bs (B.length + 1) N) :: (tabL 232 (B.length + 1) (fun _ => List.replicate (B.length + 1) [.int .i16 0]) bs ++ H) ∧ (bs.length = q) ∧ (q ≤ N)) (N - (0)) ⟨0, [], rfl, rfl, rfl, rfl, rfl, rfl, by omega⟩ ?_
 rintro j r ds m' H' ⟨q, bs, rfl, rfl, rfl, rfl, rfl, hbl, hjN⟩
 by_cases hlt : q < N
 ·have hol : (outE bs (B.length + 1) N).length = N := qN (by omega)
  have hset : ∀ b, (outE bs (B.length + 1) N).set q [.slice (some ⟨b, 0, none⟩) (B.length + 1) (B.length + 1)] = outE (bs ++ [b]) (B.length + 1) N := fun b => by rw [← hbl]; exact zFY (by omega)
  generalize hOE : outE bs (B.length + 1) N = OE at *
  refine stg ?_; intros; rename_i bn
  rw [hset]
  refine WQ.heapX (H' := .row (some ⟨bo, 0, none⟩) N 231 1 (outE (bs ++ [bn]) (B.length + 1) N) :: (tabL 232 (B.length + 1) (fun _ => List.replicate (B.length + 1) [.int .i16 0]) (bs ++ [bn]) ++ H)) (fun w h => h.perm ?_) ?_
  ·rw [zEq]
   exact (List.Perm.swap _ _ _).trans (List.Perm.cons _ ((List.perm_append_singleton _ _).symm.append_right H))
  ·refine nxz (N - (q + 1)) ⟨q + 1, bs ++ [bn], rfl, rfl, rfl, rfl, rfl, ?_, ?_⟩
   ·rw [List.length_append, List.length_singleton]; omega
   ·omega
 ·obtain rfl : q = N := by omega
  rw [zAp (G := fun i => rowP A B i (if i < A.length then B.length else 0)) (fun i hi => by
   split
   ·exact (zDZ (.inl (Nat.le_refl _))).symm
   ·exact (zDZ (.inr (by omega))).symm)]
  obtain ⟨E, hE⟩ : ∃ E, E = outE bs (B.length + 1) q := ⟨_, rfl⟩
  have hEl : E.length = q := by rw [hE]; exact qN (by omega)
  have hEg : ∀ i b, bs[i]? = some b → E[i]? = some [Value.slice (some ⟨b, 0, none⟩) (B.length + 1) (B.length + 1)] := fun i b h => by rw [hE]; exact zFn h
  rw [← hE]
  clear hE
  try (refine stg ?_; intros)
  refine lpz (fun j r ds m' H' => ∃ i, j = 2 * i ∧ r = [(9, .int .i64 ((i : Int) - 1)), (7, .slice (some ⟨bo, 0, none⟩) q q), (0, .slice aa A.length ca), (1, .slice ab B.length cb), (2, .int .i64 (k0 : Int))] ∧ ds = [] ∧ m = m' ∧ H' = .row (some ⟨bo, 0, none⟩) q 231 1 E :: (tabL 232 (B.length + 1) (fun k => rowP A B k (if k < i then B.length else 0)) bs ++ H) ∧ (i ≤ A.length)) (2 * (A.length)) ⟨A.length, rfl, rfl, rfl, rfl, rfl, by omega⟩ ?_
  rintro j r ds m' H' ⟨i, rfl, rfl, rfl, rfl, rfl, hi⟩
  by_cases hz : i = 0
  ·subst hz
   clear hi
   have hrows : ∀ i b, bs[i]? = some b → RowR w0 m (tabL 232 (B.length + 1) (fun k => rowP A B k (if k < 0 then B.length else 0)) bs ++ H) 1 (some ⟨b, 0, none⟩) (rowP A B i 0) := fun i b h => RowR.row (List.mem_append.2 (.inl (zDi h)))
   have hra : RowR w0 m (tabL 232 (B.length + 1) (fun k => rowP A B k (if k < 0 then B.length else 0)) bs ++ H) 1 aa (strs A) := ha.weak (fun w h => xR h)
   have hrb : RowR w0 m (tabL 232 (B.length + 1) (fun k => rowP A B k (if k < 0 then B.length else 0)) bs ++ H) 1 ab (strs B) := hb.weak (fun w h => xR h)
   have hdrop : ∀ w i, Sat w0 m (i :: .row (some ⟨bo, 0, none⟩) q 231 1 E :: (tabL 232 (B.length + 1) (fun k => rowP A B k (if k < 0 then B.length else 0)) bs ++ H)) w → Sat w0 m (i :: H) w := fun w i h => by
    have h2 := h.perm ((List.Perm.swap _ _ _).trans (List.Perm.cons _ (List.perm_middle (a := i)).symm))
    exact xR h2.drop
   generalize tabL 232 (B.length + 1) (fun k => rowP A B k (if k < 0 then B.length else 0)) bs ++ H = Y at hrows hra hrb hdrop ⊢
   clear ha hb hm
   try (refine stg ?_; intros)
   refine WC.newRow (T := 134) (sz := 2) ?_
   refine lpz (fun j r ds m' H' => ∃ (i : Nat) (k : Nat) (a : Option Addr) (cp : Nat) (L : List (Nat × Nat)), j = A.length - i ∧ r = [(110, .int .i64 (i : Int)), (109, .int .i64 (A.length : Int)), (13, .int .i64 (k : Int)), (12, .slice a L.length cp), (7, .slice (some ⟨bo, 0, none⟩) q q), (0, .slice aa A.length ca), (1, .slice ab B.length cb), (2, .int .i64 (k0 : Int))] ∧ ds = [] ∧ m = m' ∧ H' = .row a cp 134 2 (L.map prE) :: .row (some ⟨bo, 0, none⟩) q 231 1 E :: Y ∧ (i ≤ A.length) ∧ (k ≤ B.length) ∧ (L.length ≤ i) ∧ (L ++ midL (A.drop i) (B.drop k) (k0 + i) (k0 + k) = midL A B k0 k0)) (A.length - (0)) ⟨0, 0, none, 0, [], rfl, rfl, rfl, rfl, rfl, by omega, by omega, by simp, by simp⟩ ?_
   rintro j r ds m' H' ⟨i, k, a, cp, L, rfl, rfl, rfl, rfl, rfl, hi, hk, hLl, hL⟩
   by_cases hlt : i < A.length
   ·obtain ⟨x, hx⟩ : ∃ x, A[i]? = some x := ⟨_, List.getElem?_eq_getElem hlt⟩
    obtain ⟨bi, hbi⟩ : ∃ b, bs[i]? = some b := ⟨_, List.getElem?_eq_getElem (by omega : i < bs.length)⟩
    obtain ⟨b1, hb1⟩ : ∃ b, bs[i + 1]? = some b := ⟨_, List.getElem?_eq_getElem (by omega : i + 1 < bs.length)⟩
    have hstep := hL
    rw [xN hx, midL, ← xN hx] at hstep
    try (refine stg ?_; intros)
    refine WC.weak zsb zpk (zIT (L := L) (a := a) (cp := cp) (k := k) (k0 := k0) (i := i) (ca := ca) (cb := cb) (bo := bo) (by omega) (by omega) hk0 hx hk (by omega) hN hEl (hEg i bi hbi) (hEg (i + 1) b1 hb1) (hrows i bi hbi) (hrows (i + 1) b1 hb1) hra hrb ?_ ?_)
    ·intro hno
     rw [hno] at hstep
     try (refine stg ?_; intros)
     refine nxz (A.length - (i + 1)) ⟨i + 1, k, a, cp, L, rfl, rfl, rfl, rfl, rfl, ?_, ?_, ?_, ?_⟩
     ·omega
     ·omega
     ·omega
     ·exact hstep
    ·intro p a2 cp2 hkp hpB hyes
     rw [hyes] at hstep
     try (refine stg ?_; intros)
     rw [show (p : Int) + 1 = ((p + 1 : Nat) : Int) by omega, show L.length + 1 = (L ++ [(k0 + i, k0 + p)]).length by simp, show L.map prE ++ [[Value.int .i64 ((k0 : Int) + i), .int .i64 ((k0 : Int) + p)]] = (L ++ [(k0 + i, k0 + p)]).map prE by simp [prE]]
     refine nxz (A.length - (i + 1)) ⟨i + 1, p + 1, a2, cp2, L ++ [(k0 + i, k0 + p)], rfl, rfl, rfl, rfl, rfl, ?_, ?_, ?_, ?_⟩
     ·omega
     ·omega
     ·rw [List.length_append, List.length_singleton]; omega
     ·rw [List.append_assoc, List.singleton_append, ← hstep]
      simp only [List.drop_drop]
      rw [show k0 + k + (p - k) = k0 + p by omega, show k + (p - k + 1) = p + 1 by omega]
      rfl
   ·have hAe : A.drop i = [] := List.drop_of_length_le (by omega)
    rw [hAe, midL, List.append_nil] at hL
    subst hL
    try (refine stg ?_; intros)
    exact zR (H0 := .row a cp 134 2 ((midL A B k0 k0).map prE) :: H) ⟨rfl, a, cp, rfl, rfl⟩ (hd := fun w h => hdrop w _ h)
  ·obtain ⟨i', rfl⟩ : ∃ i', i = i' + 1 := ⟨i - 1, by omega⟩
   obtain ⟨x, hx⟩ : ∃ x, A[i']? = some x := ⟨_, List.getElem?_eq_getElem (by omega : i' < A.length)⟩
   obtain ⟨bi, hbi⟩ : ∃ b, bs[i']? = some b := ⟨_, List.getElem?_eq_getElem (by omega : i' < bs.length)⟩
   obtain ⟨b1, hb1⟩ : ∃ b, bs[i' + 1]? = some b := ⟨_, List.getElem?_eq_getElem (by omega : i' + 1 < bs.length)⟩
   obtain ⟨X, p1, p2, pX⟩ := zF1 (T := 232) (c := B.length + 1) (F := fun k => rowP A B k (if k < i' + 1 then B.length else 0)) (G := fun k => rowP A B k (if k < i' then B.length else 0)) hbi (fun k hk => by
    show rowP A B k _ = rowP A B k _
    congr 1
    split <;> split <;> omega)
   have pX1 := pX (i' + 1) b1 (by omega) hb1
   simp only [if_neg (Nat.lt_irrefl _), if_pos (Nat.lt_succ_self _)] at p1 p2 pX1
   rw [show ((i' + 1 : Nat) : Int) - 1 = (i' : Int) by omega]
   have hxd := xN hx
   have hgx : (strs A)[i']? = some [str x] := by unfold strs; rw [List.getElem?_map, hx]; rfl
   have hE0 := hEg i' bi hbi
   have hE1 := hEg (i' + 1) b1 hb1
   refine WC.heap (H' := .row (some ⟨bi, 0, none⟩) (B.length + 1) 232 1 (rowP A B i' B.length) :: .row (some ⟨bo, 0, none⟩) q 231 1 E :: (X ++ H)) (fun w h => h.perm ((List.Perm.cons _ (p1.append_right H)).trans (List.Perm.swap _ _ _))) ?_
   have hback : ∀ w, Sat w0 m (.row (some ⟨bi, 0, none⟩) (B.length + 1) 232 1 (rowP A B i' 0) :: .row (some ⟨bo, 0, none⟩) q 231 1 E :: (X ++ H)) w → Sat w0 m (.row (some ⟨bo, 0, none⟩) q 231 1 E :: (tabL 232 (B.length + 1) (fun k => rowP A B k (if k < i' then B.length else 0)) bs ++ H)) w :=
    fun w h => h.perm ((List.Perm.swap _ _ _).trans (List.Perm.cons _ (p2.append_right H).symm))
   have hr1 : RowR w0 m (X ++ H) 1 (some ⟨b1, 0, none⟩) (rowP A B (i' + 1) 0) := RowR.row (List.mem_append.2 (.inl pX1))
   have hra : RowR w0 m (X ++ H) 1 aa (strs A) := ha.weak (fun w h => xR h)
   have hrb : RowR w0 m (X ++ H) 1 ab (strs B) := hb.weak (fun w h => xR h)
   have hal : (strs A).length = A.length := by simp [strs]
   have hbl2 : (strs B).length = B.length := by simp [strs]
   clear pX pX1 p1 p2 hEg ha hb hm
   generalize X ++ H = Y at hback hr1 hra hrb ⊢
   try (refine stg ?_; intros)
   refine WC.weak zsb zpk (zJ7 (k0 := k0) (by omega) (by omega) hx hN hEl hE0 hE1 hr1 hra hrb ?_)
   try (refine stg ?_; intros)
   refine WQ.heapX hback ?_
   refine nxz (2 * (i')) ⟨i', rfl, rfl, rfl, rfl, rfl, ?_⟩
   ·omega
end ZP
