/-
  Parts of a walk, joined. No condition.
-/
import Derived.Test.YtgckeelnhafgaaaGreatDoorP7
set_option linter.all false
set_option maxRecDepth 100000
set_option maxHeartbeats 4000000
open Go.Proofs Go.Proofs.YtgckeelnhafgaaaGreatDoor
open Tryz
open Go Go.Eng
variable {P : Program} {ro : Option Nat} {n : Nat} {w0 : World} {Q : Exit → Act → World → Prop} {r : Env} {ds : List Dfr} {m : Mem} {H : SHeap} {ops : Array Oper} {l : List Oper} {d : Nat} {ty : TypeId} {pos : String} {after : Array Edge}
attribute [local irreducible] WL WC WQ QFun zJ Does Q1 zD zB Go.Addr.add
namespace Go.Eng
open Go Go.RowKit
def usE (us : List Un) : List (List Value) := us.map Un.cs2
theorem vO (us : List Un) : (usE us).length = us.length := List.length_map _
theorem zAA {us : List Un} {i : Nat} {u : Un} (h : us[i]? = some u) : (usE us)[i]? = some [.int .i64 (u.k : Int), .int .i64 (u.a : Int), .int .i64 (u.z : Int), .int .i32 (u.r : Int), .bool u.o] := by unfold usE; rw [List.getElem?_map, h]; rfl
def isU (us : List Un) (i k : Nat) : Bool := match us[i]? with
 | some u => decide (u.k = k)
 | none => false
def oneB (J : List Nat) (u : Un) : Bool := u.o && (decide (u.k ≠ 11) && J.contains u.r)
def oneU (us : List Un) (i : Nat) (J : List Nat) : Bool := match us[i]? with
 | some u => oneB J u
 | none => false
theorem zCL {us : List Un} {i k : Nat} (h : isU us i k = true) : ∃ u, us[i]? = some u ∧ u.k = k := by
 unfold isU at h
 cases hu : us[i]? with
 | none => rw [hu] at h; cases h
 | some u => rw [hu] at h; exact ⟨u, rfl, of_decide_eq_true h⟩
theorem zHT {us : List Un} {i : Nat} {J : List Nat} (h : oneU us i J = true) : ∃ u, us[i]? = some u ∧ oneB J u = true := by
 unfold oneU at h
 cases hu : us[i]? with
 | none => rw [hu] at h; cases h
 | some u => rw [hu] at h; exact ⟨u, rfl, h⟩
theorem zEH {us : List Un} {i k : Nat} {u : Un} (hu : us[i]? = some u) (h : isU us i k = false) : u.k ≠ k := by
 unfold isU at h
 rw [hu] at h
 exact of_decide_eq_false h
def jsE (J : List Nat) : List (List Value) := J.map fun r : Nat => [Value.int .i32 (r : Int)]
theorem zGn (J : List Nat) : (jsE J).length = J.length := List.length_map _
theorem zHv {k : Nat} {J : Un → Bool} {us : List Un} {n : Nat} (h : us[n]? = none) : runU k J (us.drop n) = 0 := by
 rw [List.drop_of_length_le (List.getElem?_eq_none_iff.1 h)]; rfl
theorem zDr {us : List Un} {n : Nat} {u : Un} (h : us[n]? = some u) : us.drop n = u :: us.drop (n + 1) := by
 obtain ⟨h1, h2⟩ := List.getElem?_eq_some_iff.1 h
 rw [List.drop_eq_getElem_cons h1, h2]
theorem zKb {k : Nat} {J : Un → Bool} {us : List Un} {n : Nat} {u : Un} (h : us[n]? = some u) (hk : u.k = k) : runU k J (us.drop n) = runU k J (us.drop (n + 1)) + 1 := by
 rw [zDr h]
 cases hd : us.drop (n + 1) with
 | nil => simp [runU, hk]
 | cons v vs => rw [runU, if_pos hk]
theorem zGx {k : Nat} {J : Un → Bool} {us : List Un} {n : Nat} {u v : Un} (h : us[n]? = some u) (hk : u.k ≠ k) (hJ : J u = true) (h2 : us[n + 1]? = some v) (hv : v.k = k) : runU k J (us.drop n) = runU k J (us.drop (n + 2)) + 2 := by
 rw [zDr h, zDr h2, runU, if_neg hk, if_pos ⟨hJ, hv⟩]
theorem zDW {k : Nat} {J : Un → Bool} {us : List Un} {n : Nat} {u : Un} (h : us[n]? = some u) (hk : u.k ≠ k) (hJ : J u = false ∨ isU us (n + 1) k = false) : runU k J (us.drop n) = 0 := by
 rw [zDr h]
 cases hd : us.drop (n + 1) with
 | nil => simp [runU, hk]
 | cons v vs =>
  rw [runU, if_neg hk, if_neg]
  rintro ⟨g1, g2⟩
  rcases hJ with hJ | hJ
  ·rw [hJ] at g1; cases g1
  ·have : us[n + 1]? = some v := by
    have := congrArg (·[0]?) hd
    simpa [List.getElem?_drop] using this
   unfold isU at hJ
   rw [this] at hJ
   simp [g2] at hJ
end Go.Eng
namespace ZP
open Go Go.Eng
attribute [local irreducible] usE jsE
theorem zHD {us : List Un} {a : Option Addr} {c i k : Nat} {w0 : World} {m : Mem} {H : SHeap} (hl : us.length ≤ 4194304) (ha : RowR w0 m H 5 a (usE us)) :
  Does Tryz.prog 173 #[.slice a us.length c, .int .i64 (i : Int), .int .i64 (k : Int)] w0 m H (Gives (.bool (isU us i k)) m H) := by
 refine Does.of_body func173 rfl ntmps173 rfl ?_
 have hn := vO us
 by_cases hlt : i < us.length
 ·obtain ⟨u, hu⟩ : ∃ u, us[i]? = some u := ⟨_, List.getElem?_eq_getElem hlt⟩
  have hg := zAA hu
  generalize usE us = E at *
  refine WC.rSome ha (by omega) ?_
  rintro a0 rfl
  by_cases hk : u.k = k
  ·try (refine st ?_; intros)
   refine zR ?_
   exact Gives.mk (congrArg _ (by simp [isU, hu, hk, y6]))
  ·try (refine st ?_; intros)
   refine zR ?_
   exact Gives.mk (congrArg _ (by simp [isU, hu, hk, y6]; omega))
 ·try (refine st ?_; intros)
  refine zR ?_
  exact Gives.mk (congrArg _ (by simp [isU, List.getElem?_eq_none (Nat.le_of_not_lt hlt)]))
theorem zKf {us : List Un} {J : List Nat} {a b : Option Addr} {c cb i : Nat} {w0 : World} {m : Mem} {H : SHeap} (hl : us.length ≤ 4194304) (hJl : J.length ≤ 100) (ha : RowR w0 m H 5 a (usE us)) (hb : RowR w0 m H 1 b (jsE J)) :
  Does Tryz.prog 209 #[.slice a us.length c, .int .i64 (i : Int), .slice b J.length cb] w0 m H (Gives (.bool (oneU us i J)) m H) := by
 refine Does.of_body func209 rfl ntmps209 rfl ?_
 have hn := vO us
 have hj := zGn J
 try (refine st ?_; intros)
 refine lpz (fun j r ds m' H' => ∃ q, j = J.length - q ∧ r = [(11, .int .i64 (q : Int)), (10, .int .i64 (J.length : Int)), (9, .slice b J.length cb), (0, .slice a us.length c), (1, .int .i64 (i : Int)), (2, .slice b J.length cb)] ∧ ds = [] ∧ m = m' ∧ H' = H ∧ (q ≤ J.length) ∧ (oneU us i (J.take q) = false)) (J.length - (0)) ⟨0, rfl, rfl, rfl, rfl, rfl, by omega, by unfold oneU oneB; cases us[i]? <;> simp⟩ ?_
 rintro j r ds m' H' ⟨q, rfl, rfl, rfl, rfl, rfl, hq, hno⟩
 by_cases hlt : q < J.length
 ·obtain ⟨x, hx⟩ : ∃ x, J[q]? = some x := ⟨_, List.getElem?_eq_getElem hlt⟩
  have hgx : (jsE J)[q]? = some [.int .i32 (x : Int)] := by unfold jsE; rw [List.getElem?_map, hx]; rfl
  have htk : J.take (q + 1) = J.take q ++ [x] := by rw [List.take_succ, hx]; rfl
  have hxm : x ∈ J := List.mem_of_getElem? hx
  generalize hEJ : jsE J = EJ at *
  refine WC.rSome hb (by omega) ?_
  rintro b0 rfl
  by_cases hi : i < us.length
  ·obtain ⟨u, hu⟩ : ∃ u, us[i]? = some u := ⟨_, List.getElem?_eq_getElem hi⟩
   have hg := zAA hu
   have hone : ∀ J', oneU us i J' = oneB J' u := fun J' => by unfold oneU; rw [hu]
   rw [hone] at hno
   generalize hEU : usE us = E at *
   refine WC.rSome ha (by omega) ?_
   rintro a0 rfl
   cases huo : u.o with
   | false =>
    rw [huo] at hg
    try (refine st ?_; intros)
    refine nxz (J.length - (q + 1)) ⟨q + 1, rfl, rfl, rfl, rfl, rfl, ?_, ?_⟩
    ·omega
    ·rw [hone]; unfold oneB; rw [huo]; rfl
   | true =>
    rw [huo] at hg
    by_cases hk : u.k = 11
    ·try (refine st ?_; intros)
     refine nxz (J.length - (q + 1)) ⟨q + 1, rfl, rfl, rfl, rfl, rfl, ?_, ?_⟩
     ·omega
     ·rw [hone]; unfold oneB; simp [hk]
    ·by_cases hr : u.r = x
     ·try (refine st ?_; intros)
      refine zR ?_
      exact Gives.mk (congrArg _ (by rw [hone]; unfold oneB; simp [huo, hk, hr, hxm]))
     ·try (refine st ?_; intros)
      refine nxz (J.length - (q + 1)) ⟨q + 1, rfl, rfl, rfl, rfl, rfl, ?_, ?_⟩
      ·omega
      ·rw [hone, htk]
       unfold oneB at hno ⊢
       rw [huo] at hno ⊢
       simp only [Bool.true_and, decide_eq_true (show u.k ≠ 11 from hk)] at hno ⊢
       simp at hno ⊢
       exact ⟨hno, hr⟩
  ·try (refine st ?_; intros)
   refine nxz (J.length - (q + 1)) ⟨q + 1, rfl, rfl, rfl, rfl, rfl, ?_, ?_⟩
   ·omega
   ·unfold oneU; rw [List.getElem?_eq_none (by omega)]
 ·rw [List.take_of_length_le (by omega)] at hno
  try (refine st ?_; intros)
  refine zR ?_
  exact Gives.mk (congrArg _ hno.symm)
theorem zCF {us : List Un} {J : List Nat} {a b : Option Addr} {c cb k : Nat} {w0 : World} {m : Mem} {H : SHeap} (hl : us.length ≤ 4194304) (hl0 : 1 ≤ us.length) (hJl : J.length ≤ 100) (ha : RowR w0 m H 5 a (usE us)) (hb : RowR w0 m H 1 b (jsE J)) :
  Does Tryz.prog 172 #[.slice a us.length c, .int .i64 (k : Int), .slice b J.length cb] w0 m H (Gives (.int .i64 ((1 + runU k (oneB J) (us.drop 1) : Nat) : Int)) m H) := by
 refine Does.of_body func172 rfl ntmps172 rfl ?_
 try (refine st ?_; intros)
 refine lpz (fun j r ds m' H' => ∃ n, j = us.length - n ∧ r = [(7, .int .i64 (n : Int)), (0, .slice a us.length c), (1, .int .i64 (k : Int)), (2, .slice b J.length cb)] ∧ ds = [] ∧ m = m' ∧ H' = H ∧ (n ≤ us.length) ∧ (1 + runU k (oneB J) (us.drop 1) = n + runU k (oneB J) (us.drop n))) (us.length - (1)) ⟨1, rfl, rfl, rfl, rfl, rfl, by omega, rfl⟩ ?_
 rintro j r ds m' H' ⟨n, rfl, rfl, rfl, rfl, rfl, hn, hr⟩
 have hcast1 : (n : Int) + 1 = ((n + 1 : Nat) : Int) := by omega
 try (refine st ?_; intros)
 refine zA func173 ?_ (hs := zHD (i := n) (k := k) hl ha)
 rintro v m H ⟨rfl, rfl, rfl⟩
 cases h1 : isU us n k with
 | true =>
  obtain ⟨u, hu, hk⟩ := zCL h1
  have hlt := (List.getElem?_eq_some_iff.1 hu).1
  rw [zKb hu hk] at hr
  try (refine st ?_; intros)
  rw [hcast1]
  refine nxz (us.length - (n + 1)) ⟨n + 1, rfl, rfl, rfl, rfl, rfl, ?_, ?_⟩
  ·omega
  ·omega
 | false =>
  try (refine st ?_; intros)
  refine zA func209 ?_ (hs := zKf (i := n) (J := J) hl hJl ha hb)
  rintro v m H ⟨rfl, rfl, rfl⟩
  cases h2 : oneU us n J with
  | false =>
   have hz : runU k (oneB J) (us.drop n) = 0 := by
    cases hu : us[n]? with
    | none => exact zHv hu
    | some u => exact zDW hu (zEH hu h1) (.inl (by unfold oneU at h2; rw [hu] at h2; exact h2))
   rw [hz, Nat.add_zero] at hr
   try (refine st ?_; intros)
   exact q_fz (Gives.mk (by rw [hr]))
  | true =>
   obtain ⟨u, hu, hJ⟩ := zHT h2
   have hlt := (List.getElem?_eq_some_iff.1 hu).1
   try (refine st ?_; intros)
   rw [hcast1]
   refine zA func173 ?_ (hs := zHD (i := n + 1) (k := k) hl ha)
   rintro v m H ⟨rfl, rfl, rfl⟩
   cases h3 : isU us (n + 1) k with
   | true =>
    obtain ⟨w, hw, hwk⟩ := zCL h3
    have hlt2 := (List.getElem?_eq_some_iff.1 hw).1
    rw [zGx hu (zEH hu h1) hJ hw hwk] at hr
    try (refine st ?_; intros)
    rw [show (n : Int) + 2 = ((n + 2 : Nat) : Int) by omega]
    refine nxz (us.length - (n + 2)) ⟨n + 2, rfl, rfl, rfl, rfl, rfl, ?_, ?_⟩
    ·omega
    ·omega
   | false =>
    rw [zDW hu (zEH hu h1) (.inr h3), Nat.add_zero] at hr
    try (refine st ?_; intros)
    exact q_fz (Gives.mk (by rw [hr]))
end ZP
namespace ZP
open Go Go.Eng
theorem zBp (r : Int) : Utf8.valid r = true ↔ (0 ≤ r ∧ r ≤ 1114111) ∧ ¬ (55296 ≤ r ∧ r ≤ 57343) := by
 rw [kZ]; unfold okr; omega
theorem zCI (r : Int) (w0 : World) (m : Mem) (H : SHeap) : Does Tryz.prog 248 #[.int .i32 r] w0 m H (Gives (.bool (dcd (Utf8.valid r = false))) m H) := by
 have hv := zBp r
 have hf : (Utf8.valid r = false) ↔ ¬ ((0 ≤ r ∧ r ≤ 1114111) ∧ ¬ (55296 ≤ r ∧ r ≤ 57343)) := by rw [← hv]; simp
 refine Does.of_body func248 rfl ntmps248 rfl ?_
 (repeat' (first | (refine st ?_; intros) | (first | refine wG (fun h1 => ?_) (fun h1 => ?_) | refine xF (fun h1 => ?_) (fun h1 => ?_) | refine xA (fun h1 => ?_) (fun h1 => ?_) | refine yK (fun h1 => ?_) (fun h1 => ?_))))
 all_goals ((refine zR ?_); refine Gives.mk ?_; first | exact vb_t (hf.2 (by omega)) | exact vb_f (fun h => absurd (hf.1 h) (by omega)) | exact zKJ (by rw [hf]; omega))
def rwd (r : Int) : Nat := if Utf8.valid r = false then 0 else wd r.toNat
theorem zB9 (r : Int) (w0 : World) (m : Mem) (H : SHeap) : Does Tryz.prog 249 #[.int .i32 r] w0 m H (Gives (.int .i64 (rwd r : Int)) m H) := by
 have hv := zBp r
 refine Does.of_body func249 rfl ntmps249 rfl ?_
 try (refine st ?_; intros)
 refine zA func248 ?_ (hs := zCI _ _ _ _)
 rintro _ _ _ ⟨rfl, rfl, rfl⟩
 (repeat' (first | (refine st ?_; intros) | (first | refine wG (fun h1 => ?_) (fun h1 => ?_) | refine xF (fun h1 => ?_) (fun h1 => ?_) | refine xA (fun h1 => ?_) (fun h1 => ?_) | refine yK (fun h1 => ?_) (fun h1 => ?_))))
 all_goals ((refine zR ?_); refine Gives.mk ?_; unfold rwd wd)
 ·rw [if_pos h1]; rfl
 all_goals (have := hv.1 (by simpa using ‹¬ Utf8.valid r = false›); rw [if_neg ‹¬ Utf8.valid r = false›]; refine vi ?_; repeat' split)
 all_goals omega
theorem zEW {c : Nat} (h : okr c) : rwd (c : Int) = wd c := by
 unfold rwd; rw [if_neg (by rw [(uN c).2 h]; simp), Int.toNat_natCast]
theorem zFG (r : Int) : (Utf8.valid r = false ∧ rn r = 65533) ∨ (Utf8.valid r = true ∧ r = (rn r : Int)) := by
 unfold rn
 cases h : Utf8.valid r with
 | false => exact .inl ⟨rfl, rfl⟩
 | true => have := ((kZ r).1 h).1; exact .inr ⟨rfl, by simp; omega⟩
def byV (x : Nat) : List Value := [.int .u8 (x : Int)]
theorem zI8 {c : Nat} (hc : c ≤ 1114111) : ((fmb c).map fun b => [Value.int .u8 (b.toNat : Int)]) = (fm c).map byV := by
 unfold fmb
 rw [List.map_map]
 apply List.map_congr_left
 intro x hx
 have : x < 256 := by
  unfold fm at hx
  split at hx
  ·simp at hx; omega
  ·split at hx
   ·simp at hx; omega
   ·split at hx
    ·simp at hx; omega
    ·simp at hx; omega
 simp [byV]; omega
theorem zKK {c i : Nat} (h1 : 1 ≤ i) (h2 : i < wd c) : (fm c).drop i = (128 + c / 64 ^ (wd c - 1 - i) % 64) :: (fm c).drop (i + 1) := by
 unfold wd at h2 ⊢
 unfold fm
 split at h2 <;> rename_i h3
 ·omega
 ·rw [if_neg h3]
  split at h2 <;> rename_i h4
  ·rw [if_pos h4, if_neg h3, if_pos h4]
   have : i = 1 := by omega
   subst this; simp
  ·rw [if_neg h4]
   split at h2 <;> rename_i h5
   ·rw [if_pos h5, if_neg h3, if_neg h4, if_pos h5]
    obtain rfl | rfl : i = 1 ∨ i = 2 := by omega
    ·simp
    ·simp
   ·rw [if_neg h5, if_neg h3, if_neg h4, if_neg h5]
    obtain rfl | rfl | rfl : i = 1 ∨ i = 2 ∨ i = 3 := by omega
    ·simp
    ·simp
    ·simp
theorem zKy (c : Nat) (h : 2 ≤ wd c) : fm c = (256 - 2 ^ (8 - wd c) + c / 64 ^ (wd c - 1)) :: (fm c).drop 1 := by
 unfold wd at h ⊢
 unfold fm
 split at h <;> rename_i h3
 ·omega
 ·rw [if_neg h3]
  split at h <;> rename_i h4
  ·rw [if_pos h4, if_neg h3, if_pos h4]; simp
  ·rw [if_neg h4]
   split at h <;> rename_i h5
   ·rw [if_pos h5, if_neg h3, if_neg h4, if_pos h5]; simp
   ·rw [if_neg h5, if_neg h3, if_neg h4, if_neg h5]; simp
def encA (c i : Nat) : List (List Value) := List.replicate (i + 1) (byV 0) ++ ((fm c).drop (i + 1)).map byV
theorem zJB {c i : Nat} (h1 : 1 ≤ i) (h2 : i < wd c) : (encA c i).set i (byV (128 + c / 64 ^ (wd c - 1 - i) % 64)) = encA c (i - 1) := by
 unfold encA
 rw [show i - 1 + 1 = i by omega, zKK h1 h2, List.replicate_succ', List.append_assoc, List.set_append_right _ _ (by simp)]
 simp
theorem zJn {c : Nat} (hc : c ≤ 1114111) (h : 2 ≤ wd c) : ∃ p, 2 ^ (8 - wd c) = p ∧ c / 64 ^ (wd c - 1) < p ∧ p ≤ 64 := by
 refine ⟨_, rfl, ?_⟩
 unfold wd at h ⊢
 split at h <;> rename_i h3
 ·omega
 ·rw [if_neg h3]
  split at h <;> rename_i h4
  ·rw [if_pos h4]; simp; omega
  ·rw [if_neg h4]
   split at h <;> rename_i h5
   ·rw [if_pos h5]; simp; omega
   ·rw [if_neg h5]; simp; omega
theorem zEQ (c i : Nat) (h : i < wd c) : (encA c i).length = wd c := by
 have := zAf c
 simp [encA]; omega
theorem zE0 (r : Int) (w0 : World) (m : Mem) (H : SHeap) : Does Tryz.prog 250 #[.int .i32 r] w0 m H (Gives (str (fmb (rn r))) m H) := by
 have hok := zKV r
 refine Does.of_body func250 rfl ntmps250 rfl ?_
 try (refine st ?_; intros)
 refine zA func248 ?_ (hs := zCI _ _ _ _)
 rintro _ m H ⟨rfl, rfl, rfl⟩
 try (refine st ?_; intros)
 refine WC.join (fun r' ds' m' H' => r' = [(0, .int .i32 (rn r : Int)), (2, str [])] ∧ ds' = [] ∧ m' = m ∧ H' = H) ?_ ?_
 ·rcases zFG r with ⟨hf, hr⟩ | ⟨hf, hr⟩
  ·refine WC.rename 7 (u := .bool true) rfl (by rw [zE hf]) ?_
   try (refine st ?_; intros)
   exact WQ.join ⟨rfl, rfl, rfl, rfl⟩ (Env.Sub.cons (by rw [hr]; rfl) (Env.Sub.cons rfl .nil)) (fun w h => h)
  ·refine WC.rename 7 (u := .bool false) rfl (by rw [zH (by rw [hf]; simp)]) ?_
   try (refine st ?_; intros)
   exact WQ.join ⟨rfl, rfl, rfl, rfl⟩ (Env.Sub.cons (by rw [← hr]; rfl) (Env.Sub.cons rfl .nil)) (fun w h => h)
 rintro _ _ _ _ ⟨rfl, rfl, rfl, rfl⟩
 generalize rn r = c at hok ⊢
 have hc := qZ hok
 have hw := zBB c
 try (refine st ?_; intros)
 refine zA func249 ?_ (hs := zB9 _ _ _ _)
 rw [zEW hok]
 rintro _ m H ⟨rfl, rfl, rfl⟩
 try (refine st ?_; intros)
 (first | refine wG (fun h1 => ?_) (fun h1 => ?_) | refine xF (fun h1 => ?_) (fun h1 => ?_) | refine xA (fun h1 => ?_) (fun h1 => ?_) | refine yK (fun h1 => ?_) (fun h1 => ?_))
 ·have h2 : c < 128 := by unfold wd at h1; split at h1 <;> (try split at h1) <;> (try split at h1) <;> omega
  try (refine st ?_; intros)
  apply WL.blkStr (s := fmb c)
  ·exact rfl
  ·(repeat (first | exact List.Mem.head _ | apply List.Mem.tail))
  ·rw [show fmb c = [UInt8.ofNat c] by unfold fmb fm; rw [if_pos h2]; rfl]
   simp; omega
  ·rw [xS]; omega
  ·exact rfl
  ·exact rfl
  ·exact rfl
  ·exact rfl
  ·exact rfl
  try (refine st ?_; intros)
  refine zR ?_
  exact Gives.mk rfl
 ·have h2 : 128 ≤ c := by
   rcases Nat.lt_or_ge c 128 with h | h
   ·exfalso; apply h1; unfold wd; rw [if_pos h]; rfl
   ·exact h
  refine st ?_; intros; rename_i bk
  refine WC.loopW [(0, .int .i32 (c : Int)), (2, str []), (3, .int .i64 (wd c : Int)), (4, .slice (some ⟨bk, 0, none⟩) (wd c) (wd c)), (5, .int .i64 ((wd c : Int) - 1))] ?_
   (fun j r ds m' H' => r = [(0, .int .i32 (c / 64 ^ (wd c - 1 - j) : Nat)), (2, str []), (3, .int .i64 (wd c : Int)), (4, .slice (some ⟨bk, 0, none⟩) (wd c) (wd c)), (5, .int .i64 (j : Int))] ∧ ds = [] ∧ m' = m ∧ H' = .row (some ⟨bk, 0, none⟩) (wd c) 5 1 (encA c j) :: H ∧ j < wd c) (wd c - 1) ⟨?_, rfl, rfl, ?_, ?_⟩ ?_
  ·(repeat (first | exact Env.Sub.nil | refine Env.Sub.cons rfl ?_))
  ·simp; omega
  ·rw [encA, show wd c - 1 + 1 = wd c by omega, List.drop_eq_nil_of_le (by rw [zAf]; omega), List.map_nil, List.append_nil]; rfl
  ·omega
  rintro j r ds m1 H1 ⟨rfl, rfl, rfl, rfl, hj⟩
  have hel := zEQ c j hj
  have hcc : c / 64 ^ (wd c - 1 - j) ≤ c := Nat.div_le_self _ _
  generalize hq : c / 64 ^ (wd c - 1 - j) = q at hcc ⊢
  by_cases hj1 : 1 ≤ j
  ·have he : (encA c j).set j [Value.int .u8 (128 + (q : Int) % 64)] = encA c (j - 1) := by
    have := zJB hj1 hj
    rw [hq] at this
    rw [← this]; simp [byV]
   have hn : c / 64 ^ (wd c - 1 - (j - 1)) = q / 64 := by rw [← hq, Nat.div_div_eq_div_mul, ← Nat.pow_succ, show wd c - 1 - (j - 1) = wd c - 1 - j + 1 by omega]
   try (refine st ?_; intros)
   rw [he]
   refine WQ.next (j - 1) ⟨rfl, rfl, rfl, rfl, by omega⟩ (by omega) ?_ (fun w h => h)
   rw [hn, show ((j - 1 : Nat) : Int) = (j : Int) - 1 by omega]
   (repeat (first | exact Env.Sub.nil | refine Env.Sub.cons rfl ?_))
  ·obtain rfl : j = 0 := by omega
   obtain ⟨p, hp, hqp, hp6⟩ := zJn hc (by omega)
   rw [Nat.sub_zero] at hq
   rw [hq] at hqp
   have hfin : (encA c 0).set 0 [Value.int .u8 (256 - (p : Int) + q)] = (fmb c).map fun b => [Value.int .u8 (b.toNat : Int)] := by
    rw [zI8 hc, zKy c (by omega), hq, hp]
    simp [encA, byV]
    omega
   try (refine st ?_; intros)
   apply WL.shl (e := 8 - wd c)
   ·exact rfl
   ·exact rfl
   ·omega
   ·simp [IntKind.bits]; omega
   ·exact rfl
   refine WL.rename 36 (u := .int .i64 (p : Int)) rfl (vi ?_) ?_
   ·rw [IntKind.wrap_i64, show (1 * 2 ^ (8 - wd c) : Int) = (p : Int) by rw [← hp]; simp]; omega
   try (refine st ?_; intros)
   rw [hfin]
   apply WL.rowStr (s := fmb c)
   ·exact rfl
   ·rw [xS]
   ·(repeat (first | exact List.Mem.head _ | apply List.Mem.tail))
   ·exact rfl
   ·exact rfl
   ·exact rfl
   ·exact rfl
   ·exact rfl
   try (refine st ?_; intros)
   refine zR ?_
   exact Gives.mk rfl
end ZP
namespace ZP
open Go Go.Eng
namespace ZDR2a
theorem zal {G G' : Prop} (next : G') (h : Bx G' → G := by intro zzn; (first | (refine iF 198 rfl ?_; refine zU func198 ?_ (hs := zDm _ _ (by omega) (by omega) _ _ _)) | (refine iF 248 rfl ?_; refine zU func248 ?_ (hs := zCI _ _ _ _)) | (refine iF 249 rfl ?_; refine zU func249 ?_ (hs := zB9 _ _ _ _)) | (refine iF 250 rfl ?_; refine zU func250 ?_ (hs := zE0 _ _ _ _))); (repeat revert zzf); exact zzn.out) : G := h ⟨next⟩
end ZDR2a
open ZDR2a in
theorem zG0 (l : List UInt8) (k : Nat) : gb l k ≤ 255 := by
 have : ∀ x : UInt8, x.toNat ≤ 255 := fun x => by have := x.toNat_lt; omega
 exact this _
def zeroP : Value := .agg #[.int .i64 0, .int .i64 0, .int .i32 0, .bool false]
open ZDR2a in
def formN (l : List UInt8) : Nat × Nat := if dl l = (65533, 1) then (0, 0) else dl l
def cv (l : List UInt8) (n : Nat) : Nat → Int
 | 0 => if n = 1 then (gb l 0 : Int) else (gb l 0 : Int) - (256 - 2 ^ (8 - n))
 | i + 1 => cv l n i * 64 + gb l (i + 1) - 128
open ZDR2a in
theorem zIV {l : List UInt8} {n i : Nat} (h1 : 2 ≤ n) (h2 : n ≤ 4) (h3 : i ≤ 3) : -64000000 ≤ cv l n i ∧ cv l n i ≤ 64000000 ∧ (i ≤ 2 → -1000000 ≤ cv l n i ∧ cv l n i ≤ 1000000) := by
 have g0 := zG0 l 0
 have g1 := zG0 l 1
 have g2 := zG0 l 2
 have g3 := zG0 l 3
 have hp : (16 : Int) ≤ 2 ^ (8 - n) ∧ (2 : Int) ^ (8 - n) ≤ 64 := by
  obtain rfl | rfl | rfl : n = 2 ∨ n = 3 ∨ n = 4 := by omega
  all_goals decide
 have c0 : cv l n 0 = (gb l 0 : Int) - (256 - 2 ^ (8 - n)) := by rw [cv, if_neg (by omega)]
 have c1 : cv l n 1 = cv l n 0 * 64 + gb l 1 - 128 := rfl
 have c2 : cv l n 2 = cv l n 1 * 64 + gb l 2 - 128 := rfl
 have c3 : cv l n 3 = cv l n 2 * 64 + gb l 3 - 128 := rfl
 generalize (2 : Int) ^ (8 - n) = p at *
 obtain rfl | rfl | rfl | rfl : i = 0 ∨ i = 1 ∨ i = 2 ∨ i = 3 := by omega
 all_goals omega
open ZDR2a in
theorem zEf {L : List UInt8} {c : Nat} (hc : okr c) (h : begins L c) : cv L (wd c) (wd c - 1) = (c : Int) := by
 have hc' := qZ hc
 have g := h.2
 have c0 : cv L (wd c) 0 = if wd c = 1 then (gb L 0 : Int) else (gb L 0 : Int) - (256 - 2 ^ (8 - wd c)) := rfl
 have c1 : cv L (wd c) 1 = cv L (wd c) 0 * 64 + gb L 1 - 128 := rfl
 have c2 : cv L (wd c) 2 = cv L (wd c) 1 * 64 + gb L 2 - 128 := rfl
 have c3 : cv L (wd c) 3 = cv L (wd c) 2 * 64 + gb L 3 - 128 := rfl
 have g0 : 0 < wd c → gb L 0 = (fm c).getD 0 0 := g 0
 have g1 : 1 < wd c → gb L 1 = (fm c).getD 1 0 := g 1
 have g2 : 2 < wd c → gb L 2 = (fm c).getD 2 0 := g 2
 have g3 : 3 < wd c → gb L 3 = (fm c).getD 3 0 := g 3
 unfold fm at g0 g1 g2 g3
 unfold wd at *
 by_cases h3 : c < 128
 ·simp only [h3, if_true] at *
  simp at g0
  simp [c0, g0]
 ·simp only [h3, if_false] at *
  by_cases h4 : c < 2048
  ·simp only [h4, if_true] at *
   simp at g0 g1 c0 ⊢
   rw [c1, c0]; omega
  ·simp only [h4, if_false] at *
   by_cases h5 : c < 65536
   ·simp only [h5, if_true] at *
    simp at g0 g1 g2 c0 ⊢
    rw [c2, c1, c0]; omega
   ·simp only [h5, if_false] at *
    simp at g0 g1 g2 g3 c0 ⊢
    rw [c3, c2, c1, c0]; omega
open ZDR2a in
theorem zJk {L : List UInt8} {n : Nat} (hv : ¬ Utf8.valid (cv L n (n - 1)) = false) (hw : rwd (cv L n (n - 1)) = n) (hn : n ≤ L.length) (he : fmb (rn (cv L n (n - 1))) = L.take n) : formN L = (rn (cv L n (n - 1)), n) ∧ cv L n (n - 1) = (rn (cv L n (n - 1)) : Int) := by
 generalize cv L n (n - 1) = q at *
 obtain ⟨h1, _⟩ | ⟨_, h2⟩ := zFG q
 ·exact absurd h1 hv
 have hok := zKV q
 generalize rn q = c at *
 subst h2
 rw [zEW hok] at hw
 subst hw
 have hd := uY hok ((qI L c (qZ hok)).2 he.symm)
 refine ⟨?_, rfl⟩
 rw [formN, if_neg, hd]
 rw [hd]
 intro h
 have h1 : c = 65533 := congrArg Prod.fst h
 have h2 : wd c = 1 := congrArg Prod.snd h
 rw [h1] at h2
 cases h2
open ZDR2a in
theorem zJ9 {L : List UInt8} {n : Nat} (h : ¬ (¬ Utf8.valid (cv L n (n - 1)) = false ∧ rwd (cv L n (n - 1)) = n ∧ fmb (rn (cv L n (n - 1))) = L.take n)) : ∀ c, okr c → wd c = n → ¬ begins L c := by
 rintro c hok rfl hb
 have hcv := zEf hok hb
 apply h
 rw [hcv, zEW hok, zHQ hok, (uN c).2 hok]
 exact ⟨by simp, rfl, ((qI L c (qZ hok)).1 hb).symm⟩
open ZDR2a in
theorem zJJ (l : List UInt8) (k : Nat) (hl : l.length ≤ 9223372036854775804) (hk : k < l.length) (w0 : World) (m : Mem) (H : SHeap) :
  Does Tryz.prog 241 #[str l, .int .i64 (k : Int)] w0 m H (Gives (.tuple #[.int .i32 ((formN (l.drop k)).1 : Int), .int .i64 ((formN (l.drop k)).2 : Int)]) m H) := by
 refine Does.of_body func241 rfl ntmps241 rfl ?_
 try (refine stg ?_; intros)
 refine WC.loopW [(6, .int .i64 1), (0, str l), (1, .int .i64 (k : Int))] ?_ (fun j r ds m' H' => ∃ n : Nat, j = 5 - n ∧ 1 ≤ n ∧ n ≤ 5 ∧ r = [(6, .int .i64 (n : Int)), (0, str l), (1, .int .i64 (k : Int))] ∧ ds = [] ∧ m' = m ∧ H' = H ∧ ∀ c, okr c → wd c < n → ¬ begins (l.drop k) c) 4
  ⟨1, rfl, by omega, by omega, rfl, rfl, rfl, rfl, fun c _ h => by have := zBB c; omega⟩ ?_
 ·(repeat (first | exact Env.Sub.nil | refine Env.Sub.cons rfl ?_))
 rintro j r ds m' H' ⟨n, rfl, h1, h2, rfl, rfl, rfl, rfl, hno⟩
 have hb := zG0 l k
 generalize hL : l.drop k = L at hno ⊢
 have hLl : L.length = l.length - k := by rw [← hL, List.length_drop]
 have hg : ∀ i, gb L i = gb l (k + i) := fun i => by rw [← hL]; exact zG5 l k i
 have hg0 : gb L 0 = gb l k := hg 0
 try (refine stg ?_; intros)
 (first | refine wG (fun h3 => ?_) (fun h3 => ?_) | refine xF (fun h3 => ?_) (fun h3 => ?_) | refine xA (fun h3 => ?_) (fun h3 => ?_) | refine yK (fun h3 => ?_) (fun h3 => ?_))
 ·try (refine stg ?_; intros)
  (first | refine wG (fun h4 => ?_) (fun h4 => ?_) | refine xF (fun h4 => ?_) (fun h4 => ?_) | refine xA (fun h4 => ?_) (fun h4 => ?_) | refine yK (fun h4 => ?_) (fun h4 => ?_))
  ·try (refine stg ?_; intros)
   refine WC.join (fun r' ds' m1 H1 => r' = [(6, .int .i64 (n : Int)), (0, str l), (1, .int .i64 (k : Int)), (7, .int .i32 (cv L n 0))] ∧ ds' = [] ∧ m1 = m' ∧ H1 = H') ?_ ?_
   ·try (refine stg ?_; intros)
    (first | refine wG (fun h5 => ?_) (fun h5 => ?_) | refine xF (fun h5 => ?_) (fun h5 => ?_) | refine xA (fun h5 => ?_) (fun h5 => ?_) | refine yK (fun h5 => ?_) (fun h5 => ?_))
    ·try (refine stg ?_; intros)
     apply WL.shl (e := 8 - n)
     ·exact rfl
     ·exact rfl
     ·omega
     ·simp [IntKind.bits]; omega
     ·exact rfl
     obtain ⟨p, hp, hp1, hp2⟩ : ∃ p : Nat, p = 2 ^ (8 - n) ∧ 16 ≤ p ∧ p ≤ 64 := by
      obtain rfl | rfl | rfl : n = 2 ∨ n = 3 ∨ n = 4 := by omega
      all_goals exact ⟨_, rfl, by decide, by decide⟩
     refine WL.rename 30 (u := .int .i32 (p : Int)) rfl (vi ?_) ?_
     ·rw [IntKind.wrap_i32, show (1 * 2 ^ (8 - n) : Int) = (p : Int) by rw [hp]; simp]; omega
     try (refine stg ?_; intros)
     refine WQ.join ⟨rfl, rfl, rfl, rfl⟩ ?_ (fun w h => h)
     rw [cv, if_neg (by omega), hg0, show (2 ^ (8 - n) : Int) = (p : Int) by rw [hp]; simp]
     (repeat (first | exact Env.Sub.nil | refine Env.Sub.cons rfl ?_))
    ·try (refine stg ?_; intros)
     refine WQ.join ⟨rfl, rfl, rfl, rfl⟩ ?_ (fun w h => h)
     rw [cv, if_pos (by omega), hg0]
     (repeat (first | exact Env.Sub.nil | refine Env.Sub.cons rfl ?_))
   rintro _ _ m' H' ⟨rfl, rfl, rfl, rfl⟩
   try (refine stg ?_; intros)
   refine WC.loopW [(8, .int .i64 1), (6, .int .i64 (n : Int)), (0, str l), (1, .int .i64 (k : Int)), (7, .int .i32 (cv L n 0))] ?_ (fun j r ds m1 H1 => ∃ i : Nat, j = n - i ∧ 1 ≤ i ∧ i ≤ n ∧ r = [(8, .int .i64 (i : Int)), (6, .int .i64 (n : Int)), (0, str l), (1, .int .i64 (k : Int)), (7, .int .i32 (cv L n (i - 1)))] ∧ ds = [] ∧ m1 = m' ∧ H1 = H') (n - 1)
    ⟨1, rfl, by omega, by omega, rfl, rfl, rfl, rfl⟩ ?_
   ·(repeat (first | exact Env.Sub.nil | refine Env.Sub.cons rfl ?_))
   rintro j r ds m1 H1 ⟨i, rfl, hi1, hi2, rfl, rfl, rfl, rfl⟩
   try (refine stg ?_; intros)
   (first | refine wG (fun h5 => ?_) (fun h5 => ?_) | refine xF (fun h5 => ?_) (fun h5 => ?_) | refine xA (fun h5 => ?_) (fun h5 => ?_) | refine yK (fun h5 => ?_) (fun h5 => ?_))
   ·have hcb := zIV (l := L) (n := n) (i := i - 1) (by omega) (by omega) (by omega)
    have hcs : cv L n i = cv L n (i - 1) * 64 + gb l (k + i) - 128 := by
     obtain ⟨i', rfl⟩ : ∃ i', i = i' + 1 := ⟨i - 1, by omega⟩
     rw [← hg]; rfl
    generalize cv L n (i - 1) = q at *
    have hb2 := zG0 l (k + i)
    try (refine stg ?_; intros)
    rw [← hcs]
    refine WQ.next (n - (i + 1)) ⟨i + 1, rfl, by omega, by omega, rfl, rfl, rfl, rfl⟩ (by omega) ?_ (fun w h => h)
    rw [Nat.add_sub_cancel]
    (repeat (first | exact Env.Sub.nil | refine Env.Sub.cons rfl ?_))
   ·obtain rfl : i = n := by omega
    have hA := zJk (L := L) (n := i)
    have hB := zJ9 (L := L) (n := i)
    generalize cv L i (i - 1) = q at *
    have hsl : (l.take (k + i)).drop k = L.take i := by rw [qA, hL]
    by_cases hv : Utf8.valid q = false
    ·try (refine stg ?_; intros)
     exact WQ.next (5 - (i + 1)) ⟨i + 1, rfl, by omega, by omega, rfl, rfl, rfl, rfl, fun c hc hcw => by
      rcases Nat.lt_or_ge (wd c) i with h | h
      ·exact hno c hc h
      ·exact hB (fun h => h.1 hv) c hc (by omega)⟩ (by omega) zsb (fun w h => h)
    ·by_cases hw : rwd q = i
     ·try (refine stg ?_; intros)
      (first | refine wG (fun h6 => ?_) (fun h6 => ?_) | refine xF (fun h6 => ?_) (fun h6 => ?_) | refine xA (fun h6 => ?_) (fun h6 => ?_) | refine yK (fun h6 => ?_) (fun h6 => ?_))
      ·obtain ⟨e1, e2⟩ := hA hv hw (by omega) (by rw [← hsl]; exact h6)
       try (refine stg ?_; intros)
       refine zR ?_
       rw [e1, ← e2]
       exact Gives.mk rfl
      ·try (refine stg ?_; intros)
       exact WQ.next (5 - (i + 1)) ⟨i + 1, rfl, by omega, by omega, rfl, rfl, rfl, rfl, fun c hc hcw => by
      rcases Nat.lt_or_ge (wd c) i with h | h
      ·exact hno c hc h
      ·exact hB (fun h => h6 (by rw [hsl]; exact h.2.2)) c hc (by omega)⟩ (by omega) zsb (fun w h => h)
     ·try (refine stg ?_; intros)
      exact WQ.next (5 - (i + 1)) ⟨i + 1, rfl, by omega, by omega, rfl, rfl, rfl, rfl, fun c hc hcw => by
      rcases Nat.lt_or_ge (wd c) i with h | h
      ·exact hno c hc h
      ·exact hB (fun h => hw h.2.1) c hc (by omega)⟩ (by omega) zsb (fun w h => h)
  ·try (refine stg ?_; intros)
   refine zR ?_
   have : formN L = (0, 0) := by
    rcases vZ L (by omega) with ⟨g1, g2, g3⟩ | ⟨g1, _⟩
    ·exact absurd g3 (hno _ g1 (by have := g3.1; omega))
    ·rw [formN, if_pos g1]
   rw [this]
   exact Gives.mk rfl
 ·try (refine stg ?_; intros)
  refine zR ?_
  have : formN L = (0, 0) := by
   rcases vZ L (by omega) with ⟨g1, g2, g3⟩ | ⟨g1, _⟩
   ·exact absurd g3 (hno _ g1 (by have := zBB (dl L).1; omega))
   ·rw [formN, if_pos g1]
  rw [this]
  exact Gives.mk rfl
end ZP
namespace ZP
open Go Go.Eng
namespace ZDR3a
theorem zal {G G' : Prop} (next : G') (h : Bx G' → G := by intro zzn; (first | (refine iF 198 rfl ?_; refine zU func198 ?_ (hs := zKM _ (by exact znz) (by omega) (by omega) _ _ _)) | (refine iF 241 rfl ?_; refine zU func241 ?_ (hs := zJJ _ _ (by omega) (by omega) _ _ _))); (repeat revert zzf); exact zzn.out) : G := h ⟨next⟩
end ZDR3a
open ZDR3a in
theorem zKM (l : List UInt8) {z : Int} {k : Nat} (hz : z = (k : Int)) (hl : l.length ≤ 9223372036854775804) (hk : k < l.length) (w0 : World) (m : Mem) (H : SHeap) :
  Does Tryz.prog 198 #[str l, .int .i64 z] w0 m H (Gives (zK l k).v m H) := by subst hz; exact zDm l k hl hk w0 m H
open ZDR3a in
theorem zHS (l : List UInt8) (k : Nat) (hl : l.length ≤ 9223372036854775804) (hk : k < l.length) (w0 : World) (m : Mem) (H : SHeap) :
  Does Tryz.prog 229 #[str l, .int .i64 (k : Int)] w0 m H (Gives (zK l k).v m H) := by
 refine Does.of_body func229 rfl ntmps229 rfl ?_
 have hc := vZ (l.drop k) (by simp; omega)
 by_cases hA : dl (l.drop k) = (65533, 1)
 ·have h1 : formN (l.drop k) = (0, 0) := by rw [formN, if_pos hA]
  have h2 : zK l k = ⟨k, 1, 65533, true⟩ := by unfold zK; rw [if_pos hA]
  rw [h2]
  try (refine stg ?_; intros)
  rw [h1]
  try (refine stg ?_; intros)
  refine zR ?_
  exact Gives.mk rfl
 ·have h1 : formN (l.drop k) = dl (l.drop k) := by rw [formN, if_neg hA]
  have h2 : zK l k = ⟨k, (dl (l.drop k)).2, (dl (l.drop k)).1, false⟩ := by unfold zK; rw [if_neg hA]
  have hw := wQ hk
  rw [qG] at hw
  rw [h2]
  try (refine stg ?_; intros)
  rw [h1]
  try (refine stg ?_; intros)
  refine zR ?_
  exact Gives.mk rfl
namespace ZDR3b
theorem zal {G G' : Prop} (next : G') (h : Bx G' → G := by intro zzn; (first | (refine ZDR3a.zal ?_; (repeat intro zzf)) | (refine iF 229 rfl ?_; refine zU func229 ?_ (hs := zHS _ _ (by omega) (by omega) _ _ _))); (repeat revert zzf); exact zzn.out) : G := h ⟨next⟩
end ZDR3b
open ZDR3b in
theorem zBu (l : List UInt8) : ∀ d k, l.length - k ≤ d → (xD l k).length ≤ l.length - k
 | 0, k, h => by rw [xZ (by omega)]; simp
 | d + 1, k, h => by
  by_cases hk : k < l.length
  ·have hw := wQ hk
   rw [yQ hk, List.length_cons]
   have := zBu l d (k + (zK l k).w) (by omega)
   omega
  ·rw [xZ hk]; simp
open ZDR3b in
theorem zAm (l : List UInt8) : (zC l).length ≤ l.length := zBu l l.length 0 (by omega)
open ZDR3b in
theorem zCZ (l : List UInt8) (hl : l.length ≤ 5000000000000) (w0 : World) (m : Mem) (H : SHeap) :
  Does Tryz.prog 207 #[str l] w0 m H (MakesRow 253 4 ((zC l).map Pc.cs) m H) := by
 refine Does.of_body func207 rfl ntmps207 rfl ?_
 have hpl := zAm l
 try (refine stg ?_; intros)
 refine WC.newRow (T := 253) (sz := 4) ?_
 refine WC.loopW [(4, .int .i64 0), (0, str l), (3, .slice none 0 0)] ?_ (fun j r ds m' H' => ∃ k a cap pre, j = l.length - k ∧ r = [(4, .int .i64 (k : Int)), (0, str l), (3, .slice a pre.length cap)] ∧ ds = [] ∧ m' = m ∧ H' = .row a cap 253 4 (pre.map Pc.cs) :: H ∧ zC l = pre ++ xD l k ∧ k ≤ l.length) l.length
  ⟨0, none, 0, [], rfl, rfl, rfl, rfl, rfl, rfl, by omega⟩ ?_
 ·(repeat (first | exact Env.Sub.nil | refine Env.Sub.cons rfl ?_))
 rintro j r ds m' H' ⟨k, a, cap, pre, rfl, rfl, rfl, rfl, rfl, hp, hk⟩
 have hpre : pre.length ≤ l.length := by have := congrArg List.length hp; simp at this; omega
 try (refine stg ?_; intros)
 (first | refine wG (fun h1 => ?_) (fun h1 => ?_) | refine xF (fun h1 => ?_) (fun h1 => ?_) | refine xA (fun h1 => ?_) (fun h1 => ?_) | refine yK (fun h1 => ?_) (fun h1 => ?_))
 ·have hw := wQ (l := l) (k := k) (by omega)
  refine stg ?_; intros; rename_i ak ck
  refine WQ.next (l.length - (k + (zK l k).w)) ⟨k + (zK l k).w, ak, ck, pre ++ [zK l k], rfl, rfl, rfl, rfl, rfl, by rw [hp, yQ (by omega)]; simp, by omega⟩ (by omega) ?_ ?_
  ·rw [show (pre ++ [zK l k]).length = (List.map Pc.cs pre).length + 1 by simp]
   (repeat (first | exact Env.Sub.nil | refine Env.Sub.cons rfl ?_))
  ·rw [List.map_append]
   exact (fun w h => h.sublist (by repeat (first | exact List.Sublist.refl _ | apply List.Sublist.cons_cons | apply List.Sublist.cons)))
 ·have hpe : zC l = pre := by rw [hp, xZ (by omega), List.append_nil]
  try (refine stg ?_; intros)
  refine zKY ?_
  rw [hpe]
  exact ⟨a, cap, by rw [List.length_map], rfl, rfl⟩
end ZP
namespace ZP
open Go Go.Eng
attribute [local irreducible] Great Small Wide kindN
theorem zKU (a b c : Int) (w0 : World) (m : Mem) (H : SHeap) : Does Tryz.prog 230 #[.int .i32 a, .int .i32 b, .int .i32 c] w0 m H (Gives (.bool (dcd (b ≤ a ∧ a ≤ c))) m H) := by
 refine Does.of_body func230 rfl ntmps230 rfl ?_
 (repeat' (first | (refine st ?_; intros) | (first | refine wG (fun h1 => ?_) (fun h1 => ?_) | refine xF (fun h1 => ?_) (fun h1 => ?_) | refine xA (fun h1 => ?_) (fun h1 => ?_) | refine yK (fun h1 => ?_) (fun h1 => ?_))))
 all_goals ((refine zR ?_); refine Gives.mk (congrArg _ ?_))
 all_goals first | (refine kQ ?_; omega) | (refine zAu ?_; omega) | (refine xW ?_; omega)
namespace ZC3a
theorem zal {G G' : Prop} (next : G') (h : Bx G' → G := by intro zzn; (first | (refine iF 230 rfl ?_; refine zU func230 ?_ (hs := zKU _ _ _ _ _ _))); (repeat revert zzf); exact zzn.out) : G := h ⟨next⟩
end ZC3a
open ZC3a in
theorem zD4 (r : Nat) (hr : r ≤ 1114111) (w0 : World) (m : Mem) (H : SHeap) : Does Tryz.prog 231 #[.int .i32 (r : Int)] w0 m H (Gives (.bool (dcd (Great r))) m H) := by
 refine Does.of_body func231 rfl ntmps231 rfl ?_
 (repeat' (first | (refine stg ?_; intros) | (first | refine wG (fun h1 => ?_) (fun h1 => ?_) | refine xF (fun h1 => ?_) (fun h1 => ?_) | refine xA (fun h1 => ?_) (fun h1 => ?_) | refine yK (fun h1 => ?_) (fun h1 => ?_))))
 all_goals ((refine zR ?_); refine Gives.mk (congrArg _ ?_))
 all_goals first | (refine kQ ?_; unfold Great; omega) | (refine zAu ?_; unfold Great; omega) | (refine xW ?_; unfold Great; omega) | (rw [zDo]; refine xW ?_; unfold Great; omega)
open ZC3a in
theorem zD6 (r : Nat) (hr : r ≤ 1114111) (w0 : World) (m : Mem) (H : SHeap) : Does Tryz.prog 232 #[.int .i32 (r : Int)] w0 m H (Gives (.bool (dcd (Small r))) m H) := by
 refine Does.of_body func232 rfl ntmps232 rfl ?_
 (repeat' (first | (refine stg ?_; intros) | (first | refine wG (fun h1 => ?_) (fun h1 => ?_) | refine xF (fun h1 => ?_) (fun h1 => ?_) | refine xA (fun h1 => ?_) (fun h1 => ?_) | refine yK (fun h1 => ?_) (fun h1 => ?_))))
 all_goals ((refine zR ?_); refine Gives.mk (congrArg _ ?_))
 all_goals first | (refine kQ ?_; unfold Small; omega) | (refine zAu ?_; unfold Small; omega) | (refine xW ?_; unfold Small; omega) | (rw [zDo]; refine xW ?_; unfold Small; omega)
namespace ZC3b
theorem zal {G G' : Prop} (next : G') (h : Bx G' → G := by intro zzn; (first | (refine ZC3a.zal ?_; (repeat intro zzf)) | (refine iF 231 rfl ?_; refine zU func231 ?_ (hs := zD4 _ (by omega) _ _ _)) | (refine iF 232 rfl ?_; refine zU func232 ?_ (hs := zD6 _ (by omega) _ _ _))); (repeat revert zzf); exact zzn.out) : G := h ⟨next⟩
end ZC3b
open ZC3b in
theorem zFa (r : Nat) (hr : r ≤ 1114111) (ho : r < 55296 ∨ 57343 < r) (w0 : World) (m : Mem) (H : SHeap) : Does Tryz.prog 208 #[.int .i32 (r : Int)] w0 m H (Gives (.int .i64 (kindN r : Int)) m H) := by
 refine Does.of_body func208 rfl ntmps208 rfl ?_
 (repeat' (first | (refine stg ?_; intros) | (first | refine wG (fun h1 => ?_) (fun h1 => ?_) | refine xF (fun h1 => ?_) (fun h1 => ?_) | refine xA (fun h1 => ?_) (fun h1 => ?_) | refine yK (fun h1 => ?_) (fun h1 => ?_))))
 all_goals ((refine zR ?_); refine Gives.mk (congrArg _ ?_))
 all_goals first | (have hk := kI (r := r) (.inl (by assumption)); omega) | (have hk := kI (r := r) (.inr (by assumption)); omega) | (have hk := zEv (r := r) (not_or.2 ⟨by assumption, by assumption⟩); unfold Blank Dash Quote Point Ctl at hk; omega)
end ZP
namespace Go.Eng
open Go
def optU : Option Un → List Un
 | none => []
 | some u => [u]
end Go.Eng
namespace ZP
open Go Go.Eng
attribute [local irreducible] Wide kindN wR colP zK zC dl xD uGo usE
namespace ZD22a
theorem zal {G G' : Prop} (next : G') (h : Bx G' → G := by intro zzn; (first | (refine iF 208 rfl ?_; refine zU func208 ?_ (hs := zFa _ (by omega) (by omega) _ _ _))); (repeat revert zzf); exact zzn.out) : G := h ⟨next⟩
end ZD22a
open ZD22a in
theorem zDD (l : List UInt8) (hl : l.length ≤ 4194304) (w0 : World) (m : Mem) (H : SHeap) :
  Does Tryz.prog 171 #[str l] w0 m H (fun v m' H' => m.le m' ∧ ∃ a cp, v = .slice a (yB l).length cp ∧ H' = .row a cp 274 5 (usE (yB l)) :: H) := by
 refine Does.of_body func171 rfl ntmps171 rfl ?_
 have hpl := zAm l
 try (refine stg ?_; intros)
 refine zA func207 ?_ (hs := zCZ l (by omega) _ _ _)
 rintro v m H0 ⟨pa, pc, rfl, rfl, rfl⟩
 have hpm : ((zC l).map Pc.cs).length = (zC l).length := List.length_map _
 rw [hpm]
 try (refine stg ?_; intros)
 refine WC.newRow (T := 274) (sz := 5) ?_
 rw [show ([] : List (List Value)) = usE ([] ++ optU none) from by unfold usE optU; rfl]
 refine lpz (fun j r ds m' H' => ∃ (i : Nat) (D : List Un) (o : Option Un) (a : Option Addr) (cp : Nat), j = (zC l).length - i ∧ r = [(11, .int .i64 (i : Int)), (10, .int .i64 ((zC l).length : Int)), (9, .slice pa (zC l).length pc), (3, .slice a (D ++ optU o).length cp)] ∧ ds = [] ∧ m = m' ∧ H' = .row a cp 274 5 (usE (D ++ optU o)) :: .row pa pc 253 4 ((zC l).map Pc.cs) :: H ∧ (i ≤ (zC l).length) ∧ (yB l = D ++ uGo o ((zC l).drop i)) ∧ ((D ++ optU o).length ≤ i) ∧ (o = none → D = []) ∧ (∀ u, o = some u → u.z ≤ l.length + 4 * i)) ((zC l).length - (0)) ⟨0, [], none, none, 0, rfl, rfl, rfl, rfl, rfl, Nat.zero_le _, rfl, Nat.zero_le _, fun _ => rfl, fun _ h => by cases h⟩ ?_
 rintro j r ds m' H' ⟨i, D, o, a, cp, rfl, rfl, rfl, rfl, rfl, hi, hD, hDl, hoD, hoz⟩
 by_cases hlt : i < (zC l).length
 ·obtain ⟨p, hp⟩ : ∃ p, (zC l)[i]? = some p := ⟨_, List.getElem?_eq_getElem hlt⟩
  have hdr : (zC l).drop i = p :: (zC l).drop (i + 1) := by
   obtain ⟨h1, h2⟩ := List.getElem?_eq_some_iff.1 hp
   rw [List.drop_eq_getElem_cons h1, h2]
  have hpm2 : p ∈ zC l := List.mem_of_getElem? hp
  have hmw := zKF hpm2
  have hrm := vT hpm2
  have hpr : okr p.r := by rw [hrm.2.2]; exact jZ hrm.2.1
  have hr1 := qZ hpr
  have hr2 : p.r < 55296 ∨ 57343 < p.r := by unfold okr at hpr; omega
  have hgp : ((zC l).map Pc.cs)[i]? = some [.int .i64 (p.at_ : Int), .int .i64 (p.w : Int), .int .i32 (p.r : Int), .bool p.b] := by rw [List.getElem?_map, hp]; rfl
  have hap : (p.at_ : Int) + (p.w : Int) = ((p.at_ + p.w : Nat) : Int) := by omega
  rw [hdr] at hD
  generalize hPE : (zC l).map Pc.cs = PE at *
  generalize hNE : (zC l).length = NE at *
  refine WC.rowSome (a := pa) (es := PE) zhs (by omega) ?_
  rintro p0 rfl
  cases o with
  | none =>
   have hD0 := hoD rfl
   subst hD0
   have hu1 : usE ([] ++ optU (some (wY p))) = usE ([] ++ optU none) ++ [[.int .i64 (wR p : Int), .int .i64 (p.at_ : Int), .int .i64 ((p.at_ + p.w : Nat) : Int), .int .i32 (p.r : Int), .bool true]] := by unfold usE optU; rfl
   have hul : (usE ([] ++ optU none)).length = 0 := by unfold usE optU; rfl
   have hl0 : (([] : List Un) ++ optU none).length = 0 := rfl
   have hl1 : (([] : List Un) ++ optU (some (wY p))).length = 0 + 1 := rfl
   rw [zAS] at hD
   generalize usE ([] ++ optU none) = UE at *
   rw [hl0]
   cases hb : p.b with
   | true =>
    rw [hb] at hgp
    rw [zC9 hb, show ((11 : Nat) : Int) = 11 from rfl] at hu1
    refine stg ?_; intros; rename_i bp b9 a2 cp2
    rw [hul, hap, ← hu1, ← hl1]
    subst hPE hNE
    refine nxz ((zC l).length - (i + 1)) ⟨i + 1, [], some (wY p), a2, cp2, rfl, rfl, rfl, rfl, rfl, ?_, ?_, ?_, ?_, ?_⟩
    ·omega
    ·exact hD
    ·rw [hl1]; omega
    ·intro h; cases h
    ·intro u h; cases h; show p.at_ + p.w ≤ _; omega
   | false =>
    rw [hb] at hgp
    rw [zCE hb] at hu1
    by_cases hk : kindN p.r = 2
    all_goals
     refine stg ?_; intros; rename_i bp b9 a2 cp2
     rw [hul, hap, ← hu1, ← hl1]
     subst hPE hNE
     refine nxz ((zC l).length - (i + 1)) ⟨i + 1, [], some (wY p), a2, cp2, rfl, rfl, rfl, rfl, rfl, ?_, ?_, ?_, ?_, ?_⟩
     ·omega
     ·exact hD
     ·rw [hl1]; omega
     ·intro h; cases h
     ·intro u h; cases h; show p.at_ + p.w ≤ _; omega
  | some u =>
   have hlen : (D ++ optU (some u)).length = D.length + 1 := by simp [optU]
   have hgl : (usE (D ++ optU (some u)))[D.length + 1 - 1]? = some [.int .i64 (u.k : Int), .int .i64 (u.a : Int), .int .i64 (u.z : Int), .int .i32 (u.r : Int), .bool u.o] := zAA (by simp [optU])
   have hul : (usE (D ++ optU (some u))).length = D.length + 1 := by rw [vO, hlen]
   rw [hlen] at hDl ⊢
   by_cases hg : wR p = 2 ∧ ¬ bareK u.k
   ·obtain ⟨hk, hnb⟩ := hg
    rw [zA2 ⟨hk, hnb⟩] at hD
    have hb : p.b = false := by
     cases hb : p.b with
     | false => rfl
     | true => rw [zC9 hb] at hk; cases hk
    rw [hb] at hgp
    rw [zCE hb] at hk
    obtain ⟨n1, n2, n3⟩ : u.k ≠ 11 ∧ u.k ≠ 4 ∧ u.k ≠ 9 := by unfold bareK at hnb; omega
    have hset : ((usE (D ++ optU (some u))).set (D.length + 1 - 1) [.int .i64 (u.k : Int), .int .i64 (u.a : Int), .int .i64 ((u.z : Int) + (p.w : Int)), .int .i32 (u.r : Int), .bool u.o]).set (D.length + 1 - 1) [.int .i64 (u.k : Int), .int .i64 (u.a : Int), .int .i64 ((u.z : Int) + (p.w : Int)), .int .i32 (u.r : Int), .bool false] = usE (D ++ optU (some (u.ext p))) := by
     unfold usE optU
     rw [List.set_set, Nat.add_sub_cancel, List.map_append, List.map_append, List.set_append_right _ _ (by rw [List.length_map]; exact Nat.le_refl _), List.length_map, Nat.sub_self]
     simp [Un.cs2, Un.ext]
    have hg2 : ((usE (D ++ optU (some u))).set (D.length + 1 - 1) [.int .i64 (u.k : Int), .int .i64 (u.a : Int), .int .i64 ((u.z : Int) + (p.w : Int)), .int .i32 (u.r : Int), .bool u.o])[D.length + 1 - 1]? = some [.int .i64 (u.k : Int), .int .i64 (u.a : Int), .int .i64 ((u.z : Int) + (p.w : Int)), .int .i32 (u.r : Int), .bool u.o] := List.getElem?_set_self (by rw [hul]; omega)
    have hl1 : (D ++ optU (some (u.ext p))).length = D.length + 1 := by simp [optU]
    generalize usE (D ++ optU (some u)) = UE at *
    refine WC.rowSome (a := a) (es := UE) zhs (by omega) ?_
    rintro q0 rfl
    have huz := hoz u rfl
    have huw : (u.z : Int) + (p.w : Int) = ((u.z + p.w : Nat) : Int) := by omega
    refine stg ?_; intros; rename_i bp
    rw [hset, ← hl1]
    subst hPE hNE
    refine nxz ((zC l).length - (i + 1)) ⟨i + 1, D, some (u.ext p), some q0, cp, rfl, rfl, rfl, rfl, rfl, ?_, ?_, ?_, ?_, ?_⟩
    ·omega
    ·exact hD
    ·rw [hl1]; omega
    ·intro h; cases h
    ·intro u' h; cases h; show u.z + p.w ≤ _; omega
   ·rw [jS hg] at hD
    have hD2 : yB l = (D ++ [u]) ++ uGo (some (wY p)) ((zC l).drop (i + 1)) := by rw [hD]; simp
    have hu1 : usE ((D ++ [u]) ++ optU (some (wY p))) = usE (D ++ optU (some u)) ++ [[.int .i64 (wR p : Int), .int .i64 (p.at_ : Int), .int .i64 ((p.at_ + p.w : Nat) : Int), .int .i32 (p.r : Int), .bool true]] := by unfold usE optU; simp [Un.cs2, wY]
    have hl1 : ((D ++ [u]) ++ optU (some (wY p))).length = D.length + 1 + 1 := by simp [optU]
    generalize usE (D ++ optU (some u)) = UE at *
    refine WC.rowSome (a := a) (es := UE) zhs (by omega) ?_
    rintro q0 rfl
    have hcase : wR p ≠ 2 ∨ (wR p = 2 ∧ (u.k = 11 ∨ (u.k ≠ 11 ∧ u.k = 4) ∨ (u.k ≠ 11 ∧ u.k ≠ 4 ∧ u.k = 9))) := by
     unfold bareK at hg; omega
    cases hb : p.b with
    | true =>
     rw [hb] at hgp
     rw [zC9 hb, show ((11 : Nat) : Int) = 11 from rfl] at hu1
     refine stg ?_; intros; rename_i bp b9 a2 cp2
     rw [hul, hap, ← hu1, ← hl1]
     subst hPE hNE
     refine nxz ((zC l).length - (i + 1)) ⟨i + 1, D ++ [u], some (wY p), a2, cp2, rfl, rfl, rfl, rfl, rfl, ?_, ?_, ?_, ?_, ?_⟩
     ·omega
     ·exact hD2
     ·rw [hl1]; omega
     ·intro h; cases h
     ·intro u h; cases h; show p.at_ + p.w ≤ _; omega
    | false =>
     rw [hb] at hgp
     rw [zCE hb] at hu1 hcase
     rcases hcase with hk | ⟨hk, hk2 | ⟨hk3, hk2⟩ | ⟨hk4, hk3, hk2⟩⟩
     all_goals
      refine stg ?_; intros; rename_i bp b9 a2 cp2
      rw [hul, hap, ← hu1, ← hl1]
      subst hPE hNE
      refine nxz ((zC l).length - (i + 1)) ⟨i + 1, D ++ [u], some (wY p), a2, cp2, rfl, rfl, rfl, rfl, rfl, ?_, ?_, ?_, ?_, ?_⟩
      ·omega
      ·exact hD2
      ·rw [hl1]; omega
      ·intro h; cases h
      ·intro u h; cases h; show p.at_ + p.w ≤ _; omega
 ·rw [List.drop_of_length_le (by omega)] at hD
  have hend : yB l = D ++ optU o := by
   rw [hD]
   cases o with
   | none => unfold uGo optU; rfl
   | some u => unfold uGo optU; rfl
  try (refine stg ?_; intros)
  exact zR (H0 := .row a cp 274 5 (usE (yB l)) :: H) ⟨Mem.le.refl _, a, cp, by rw [hend], rfl⟩ (hd := by rw [hend]; exact zpk)
end ZP
namespace Go.Eng
open Go
theorem jX {k : Nat} {J K : Un → Bool} : ∀ us : List Un, (∀ u ∈ us, J u = K u) → runU k J us = runU k K us
 | [], _ => rfl
 | [v], _ => rfl
 | v :: w :: ws, h => by
  have h1 := jX (k := k) (w :: ws) (fun u hu => h u (List.mem_cons_of_mem _ hu))
  have h2 := jX (k := k) ws (fun u hu => h u (List.mem_cons_of_mem _ (List.mem_cons_of_mem _ hu)))
  unfold runU
  rw [h1, h2, h v List.mem_cons_self]
theorem zGP {u : Un} (h : UOk u) : oneB [39, 8217, 45, 8208] u = jointB u := by
 unfold oneB
 cases hj : jointB u with
 | true =>
  have hk := zCh h hj
  obtain ⟨h1, h2⟩ := of_decide_eq_true hj
  simp only [List.contains_eq_mem, List.mem_cons, List.not_mem_nil, or_false, h2, Bool.true_and, Bool.and_eq_true, decide_eq_true_eq]
  exact ⟨by omega, h1⟩
 | false =>
  have hn : ¬ jointU u := of_decide_eq_false hj
  unfold jointU at hn
  cases ho : u.o with
  | false => rfl
  | true =>
   have : ¬ (u.r = 39 ∨ u.r = 8217 ∨ u.r = 45 ∨ u.r = 8208) := fun g => hn ⟨g, ho⟩
   simp [not_or.1 this |>.1, not_or.1 (not_or.1 this |>.2) |>.1, not_or.1 (not_or.1 (not_or.1 this |>.2) |>.2) |>.1, not_or.1 (not_or.1 (not_or.1 this |>.2) |>.2) |>.2]
theorem zJj {u : Un} (h : UOk u) : oneB [44, 46] u = dotB u := by
 unfold oneB
 cases hj : dotB u with
 | true =>
  have hk := zF0 h hj
  obtain ⟨h1, h2⟩ := of_decide_eq_true hj
  simp only [List.contains_eq_mem, List.mem_cons, List.not_mem_nil, or_false, h2, Bool.true_and, Bool.and_eq_true, decide_eq_true_eq]
  exact ⟨by omega, h1⟩
 | false =>
  have hn : ¬ dotU u := of_decide_eq_false hj
  unfold dotU at hn
  cases ho : u.o with
  | false => rfl
  | true =>
   have : ¬ (u.r = 44 ∨ u.r = 46) := fun g => hn ⟨g, ho⟩
   simp [not_or.1 this |>.1, not_or.1 this |>.2]
theorem zEu : oneB [] = fun _ => false := by funext u; unfold oneB; simp
theorem zHy {u v : Un} {us : List Un} {n : Nat} (h : (u :: us)[n]? = some v) : lastZ u.z us n = v.z := by
 unfold lastZ
 cases n with
 | zero => cases h; rfl
 | succ n => rw [List.getElem?_cons_succ] at h; rw [if_neg (by omega), Nat.add_sub_cancel, h]; rfl
theorem zEr : ∀ (f g : Nat) (us : List Un), us.length ≤ f → us.length ≤ g → rTok f us = rTok g us
 | 0, 0, _, _, _ => rfl
 | 0, g + 1, us, h, _ => by obtain rfl := List.eq_nil_of_length_eq_zero (Nat.le_zero.1 h); rfl
 | f + 1, 0, us, _, h => by obtain rfl := List.eq_nil_of_length_eq_zero (Nat.le_zero.1 h); rfl
 | f + 1, g + 1, [], _, _ => rfl
 | f + 1, g + 1, u :: us, h, h2 => by
  rw [List.length_cons] at h h2
  rw [rTok, rTok, zEr f g _ (by rw [List.length_drop]; omega) (by rw [List.length_drop]; omega)]
def rToks (us : List Un) : List Tk := rTok us.length us
theorem zHC : rToks [] = [] := rfl
theorem zGG {u v : Un} {us : List Un} (h : (u :: us)[xH u us]? = some v) : rToks (u :: us) = ⟨(zI u).1, u.a, v.z⟩ :: rToks (us.drop (xH u us)) := by
 unfold rToks
 rw [List.length_cons, rTok, zHy h, zEr us.length (us.drop (xH u us)).length _ (by rw [List.length_drop]; omega) (Nat.le_refl _)]
theorem zD3 (l : List UInt8) : yW l = rToks (yB l) := zCf l
theorem zGX {u : Un} {us : List Un} (ho : ∀ v ∈ us, UOk v) (h : u.k = 1) : xH u us = runU 1 (oneB [39, 8217, 45, 8208]) us := by
 unfold xH
 rw [if_pos h]
 exact jX us (fun v hv => (zGP (ho v hv)).symm)
theorem zDy {u : Un} {us : List Un} (ho : ∀ v ∈ us, UOk v) (h : u.k = 3) : xH u us = runU 3 (oneB [44, 46]) us := by
 unfold xH
 rw [if_neg (by omega), if_pos h]
 exact jX us (fun v hv => (zJj (ho v hv)).symm)
theorem zEP {u : Un} {us : List Un} (h : u.k = 5) : xH u us = runU 5 (oneB []) us := by
 unfold xH
 rw [if_neg (by omega), if_neg (by omega), if_pos h, zEu]
theorem zDS {u : Un} {us : List Un} (h : u.k = 11) : xH u us = runU 11 (oneB []) us := by
 unfold xH
 rw [if_neg (by omega), if_neg (by omega), if_neg (by omega), if_pos h, zEu]
theorem zEU {u v : Un} {us : List Un} (h : u.k = 4) (hr : u.r = 13) (hv : us[0]? = some v) (h2 : v.k = 4) (h3 : v.r = 10) : xH u us = 1 := by
 unfold xH
 cases us with
 | nil => cases hv
 | cons w ws =>
  cases hv
  rw [if_neg (by omega), if_neg (by omega), if_neg (by omega), if_neg (by omega), if_pos ⟨h, hr⟩]
  exact if_pos ⟨h2, h3⟩
theorem qO {u : Un} {us : List Un} (h : u.k ≠ 1 ∧ u.k ≠ 3 ∧ u.k ≠ 5 ∧ u.k ≠ 11) (h2 : ¬ (u.k = 4 ∧ u.r = 13) ∨ ∀ v, us[0]? = some v → ¬ (v.k = 4 ∧ v.r = 10)) : xH u us = 0 := by
 unfold xH
 rw [if_neg h.1, if_neg h.2.1, if_neg h.2.2.1, if_neg h.2.2.2]
 split
 ·next g =>
  rcases h2 with h2 | h2
  ·exact absurd g h2
  ·cases us with
   | nil => rfl
   | cons w ws => exact if_neg (h2 w rfl)
 ·rfl
end Go.Eng
