/-
  Parts of a walk, joined. No condition.
-/
import Derived.Test.YtgckeelnhafgaaaGreatDoorP8
set_option linter.all false
set_option maxRecDepth 100000
set_option maxHeartbeats 4000000
open Go.Proofs Go.Proofs.YtgckeelnhafgaaaGreatDoor
open Tryz
open Go Go.Eng
variable {P : Program} {ro : Option Nat} {n : Nat} {w0 : World} {Q : Exit → Act → World → Prop} {r : Env} {ds : List Dfr} {m : Mem} {H : SHeap} {ops : Array Oper} {l : List Oper} {d : Nat} {ty : TypeId} {pos : String} {after : Array Edge}
attribute [local irreducible] WL WC WQ QFun zJ Does Q1 zD zB Go.Addr.add
namespace ZP
open Go Go.Eng
attribute [local irreducible] mapT
end ZP
namespace Go.Eng
open Go
end Go.Eng
namespace Go.Eng
open Go
def lst (pre : List Nat) (k : Nat) : Nat := (pre.getLast?).getD (k + 1)
def txts (L : List Dr) (n : Nat) : List (List UInt8) := (List.range n).map (txOf L)
end Go.Eng
namespace Go.Eng
open Go
end Go.Eng
namespace ZP
open Go Go.Eng
attribute [local irreducible] lnM mapO lnGo lnStep
end ZP
namespace ZP
open Go Go.Eng
attribute [local irreducible] logK
end ZP
namespace Go.Eng
open Go Go.RowKit
def rowQ (A B : List Tx) (i k : Nat) : List (List Value) := (List.range (B.length + 1)).map fun j => [.int .i64 (cut16 A B i k j)]
end Go.Eng
namespace ZP
open Go Go.Eng
attribute [local irreducible] midL yS rowQ outE tabL strs
end ZP
namespace ZP
open Go Go.Eng
attribute [local irreducible] midL yS rowQ outE tabL strs
end ZP
namespace ZP
open Go Go.Eng
attribute [local irreducible] midL yS rowQ outE tabL strs
namespace ZD27a
theorem zal {G G' : Prop} (next : G') (h : Bx G' → G := by intro zzn; (first | (refine WL.makeRow (sz:=1) (by':=8) (zs:=[.int .i64 0]) rfl rfl (by exact znz) (by exact znz) rfl rfl rfl rfl rfl rfl (by decide) (by omega) (by omega) rfl ?_; intro zzf) | (refine WL.makeRow (sz:=1) (by':=24) (zs:=[.slice none 0 0]) rfl rfl (by exact znz) (by exact znz) rfl rfl rfl rfl rfl rfl (by decide) (by omega) (by omega) rfl ?_; intro zzf)); (repeat revert zzf); exact zzn.out) : G := h ⟨next⟩
end ZD27a
end ZP
namespace Go.Eng
open Go Go.RowKit
theorem PrOk.mem {a b : List Tx} : ∀ {l : List (Nat × Nat)} {i k n m : Nat}, PrOk a b i k l n m → ∀ p ∈ l, p.1 < n ∧ p.2 < m
 | [], _, _, _, _, _, p, hp => by cases hp
 | q :: l, i, k, n, m, ⟨_, _, h3, h4, _, h6⟩, p, hp => by
  rcases List.mem_cons.1 hp with rfl | hp
  ·exact ⟨h3, h4⟩
  ·exact PrOk.mem h6 p hp
def tailP (a b t : Nat) : List (Nat × Nat) := (List.range t).map fun i => (a - 1 - i, b - 1 - i)
end Go.Eng
namespace ZP
open Go Go.Eng
attribute [local irreducible] midL strs yA mid yI tailP
namespace ZD28a
theorem zal {G G' : Prop} (next : G') (h : Bx G' → G := by intro zzn; (first | (refine WL.indexAddrA rfl rfl (by exact znz) rfl rfl (by omega) rfl rfl ?_)); (repeat revert zzf); exact zzn.out) : G := h ⟨next⟩
end ZD28a
end ZP
namespace Go.Eng
open Go Go.RowKit
def usE (us : List Un) : List (List Value) := us.map Un.cs2
def isU (us : List Un) (i k : Nat) : Bool := match us[i]? with
 | some u => decide (u.k = k)
 | none => false
def oneB (J : List Nat) (u : Un) : Bool := u.o && (decide (u.k ≠ 11) && J.contains u.r)
def oneU (us : List Un) (i : Nat) (J : List Nat) : Bool := match us[i]? with
 | some u => oneB J u
 | none => false
def jsE (J : List Nat) : List (List Value) := J.map fun r : Nat => [Value.int .i32 (r : Int)]
end Go.Eng
namespace ZP
open Go Go.Eng
attribute [local irreducible] usE jsE
end ZP
namespace ZP
open Go Go.Eng
theorem zBp (r : Int) : Utf8.valid r = true ↔ (0 ≤ r ∧ r ≤ 1114111) ∧ ¬ (55296 ≤ r ∧ r ≤ 57343) := by
 rw [kZ]; unfold okr; omega
theorem zCI (r : Int) (w0 : World) (m : Mem) (H : SHeap) : Does Tryz.prog 248 #[.int .i32 r] w0 m H (Gives (.bool (dcd (Utf8.valid r = false))) m H) := by
 have hv := zBp r
 have hf : (Utf8.valid r = false) ↔ ¬ ((0 ≤ r ∧ r ≤ 1114111) ∧ ¬ (55296 ≤ r ∧ r ≤ 57343)) := by rw [← hv]; simp
 refine Does.of_body func248 rfl ntmps248 rfl ?_
 (repeat' (first | (refine st ?_; intros) | (first | refine wG (fun h1 => ?_) (fun h1 => ?_) | refine xF (fun h1 => ?_) (fun h1 => ?_) | refine xA (fun h1 => ?_) (fun h1 => ?_) | refine yK (fun h1 => ?_) (fun h1 => ?_))))
 all_goals ((refine zR ?_); refine Gives.mk ?_; first | exact vb_t (hf.2 (by omega)) | exact vb_f (fun h => absurd (hf.1 h) (by omega)) | exact zKJ (by rw [hf]; omega))
def rwd (r : Int) : Nat := if Utf8.valid r = false then 0 else wd r.toNat
theorem zB9 (r : Int) (w0 : World) (m : Mem) (H : SHeap) : Does Tryz.prog 249 #[.int .i32 r] w0 m H (Gives (.int .i64 (rwd r : Int)) m H) := by
 have hv := zBp r
 refine Does.of_body func249 rfl ntmps249 rfl ?_
 try (refine st ?_; intros)
 refine zA func248 ?_ (hs := zCI _ _ _ _)
 rintro _ _ _ ⟨rfl, rfl, rfl⟩
 (repeat' (first | (refine st ?_; intros) | (first | refine wG (fun h1 => ?_) (fun h1 => ?_) | refine xF (fun h1 => ?_) (fun h1 => ?_) | refine xA (fun h1 => ?_) (fun h1 => ?_) | refine yK (fun h1 => ?_) (fun h1 => ?_))))
 all_goals ((refine zR ?_); refine Gives.mk ?_; unfold rwd wd)
 ·rw [if_pos h1]; rfl
 all_goals (have := hv.1 (by simpa using ‹¬ Utf8.valid r = false›); rw [if_neg ‹¬ Utf8.valid r = false›]; refine vi ?_; repeat' split)
 all_goals omega
theorem zEW {c : Nat} (h : okr c) : rwd (c : Int) = wd c := by
 unfold rwd; rw [if_neg (by rw [(uN c).2 h]; simp), Int.toNat_natCast]
theorem zFG (r : Int) : (Utf8.valid r = false ∧ rn r = 65533) ∨ (Utf8.valid r = true ∧ r = (rn r : Int)) := by
 unfold rn
 cases h : Utf8.valid r with
 | false => exact .inl ⟨rfl, rfl⟩
 | true => have := ((kZ r).1 h).1; exact .inr ⟨rfl, by simp; omega⟩
def byV (x : Nat) : List Value := [.int .u8 (x : Int)]
theorem zI8 {c : Nat} (hc : c ≤ 1114111) : ((fmb c).map fun b => [Value.int .u8 (b.toNat : Int)]) = (fm c).map byV := by
 unfold fmb
 rw [List.map_map]
 apply List.map_congr_left
 intro x hx
 have : x < 256 := by
  unfold fm at hx
  split at hx
  ·simp at hx; omega
  ·split at hx
   ·simp at hx; omega
   ·split at hx
    ·simp at hx; omega
    ·simp at hx; omega
 simp [byV]; omega
theorem zKK {c i : Nat} (h1 : 1 ≤ i) (h2 : i < wd c) : (fm c).drop i = (128 + c / 64 ^ (wd c - 1 - i) % 64) :: (fm c).drop (i + 1) := by
 unfold wd at h2 ⊢
 unfold fm
 split at h2 <;> rename_i h3
 ·omega
 ·rw [if_neg h3]
  split at h2 <;> rename_i h4
  ·rw [if_pos h4, if_neg h3, if_pos h4]
   have : i = 1 := by omega
   subst this; simp
  ·rw [if_neg h4]
   split at h2 <;> rename_i h5
   ·rw [if_pos h5, if_neg h3, if_neg h4, if_pos h5]
    obtain rfl | rfl : i = 1 ∨ i = 2 := by omega
    ·simp
    ·simp
   ·rw [if_neg h5, if_neg h3, if_neg h4, if_neg h5]
    obtain rfl | rfl | rfl : i = 1 ∨ i = 2 ∨ i = 3 := by omega
    ·simp
    ·simp
    ·simp
theorem zKy (c : Nat) (h : 2 ≤ wd c) : fm c = (256 - 2 ^ (8 - wd c) + c / 64 ^ (wd c - 1)) :: (fm c).drop 1 := by
 unfold wd at h ⊢
 unfold fm
 split at h <;> rename_i h3
 ·omega
 ·rw [if_neg h3]
  split at h <;> rename_i h4
  ·rw [if_pos h4, if_neg h3, if_pos h4]; simp
  ·rw [if_neg h4]
   split at h <;> rename_i h5
   ·rw [if_pos h5, if_neg h3, if_neg h4, if_pos h5]; simp
   ·rw [if_neg h5, if_neg h3, if_neg h4, if_neg h5]; simp
def encA (c i : Nat) : List (List Value) := List.replicate (i + 1) (byV 0) ++ ((fm c).drop (i + 1)).map byV
theorem zJB {c i : Nat} (h1 : 1 ≤ i) (h2 : i < wd c) : (encA c i).set i (byV (128 + c / 64 ^ (wd c - 1 - i) % 64)) = encA c (i - 1) := by
 unfold encA
 rw [show i - 1 + 1 = i by omega, zKK h1 h2, List.replicate_succ', List.append_assoc, List.set_append_right _ _ (by simp)]
 simp
theorem zJn {c : Nat} (hc : c ≤ 1114111) (h : 2 ≤ wd c) : ∃ p, 2 ^ (8 - wd c) = p ∧ c / 64 ^ (wd c - 1) < p ∧ p ≤ 64 := by
 refine ⟨_, rfl, ?_⟩
 unfold wd at h ⊢
 split at h <;> rename_i h3
 ·omega
 ·rw [if_neg h3]
  split at h <;> rename_i h4
  ·rw [if_pos h4]; simp; omega
  ·rw [if_neg h4]
   split at h <;> rename_i h5
   ·rw [if_pos h5]; simp; omega
   ·rw [if_neg h5]; simp; omega
theorem zEQ (c i : Nat) (h : i < wd c) : (encA c i).length = wd c := by
 have := zAf c
 simp [encA]; omega
theorem zE0 (r : Int) (w0 : World) (m : Mem) (H : SHeap) : Does Tryz.prog 250 #[.int .i32 r] w0 m H (Gives (str (fmb (rn r))) m H) := by
 have hok := zKV r
 refine Does.of_body func250 rfl ntmps250 rfl ?_
 try (refine st ?_; intros)
 refine zA func248 ?_ (hs := zCI _ _ _ _)
 rintro _ m H ⟨rfl, rfl, rfl⟩
 try (refine st ?_; intros)
 refine WC.join (fun r' ds' m' H' => r' = [(0, .int .i32 (rn r : Int)), (2, str [])] ∧ ds' = [] ∧ m' = m ∧ H' = H) ?_ ?_
 ·rcases zFG r with ⟨hf, hr⟩ | ⟨hf, hr⟩
  ·refine WC.rename 7 (u := .bool true) rfl (by rw [zE hf]) ?_
   try (refine st ?_; intros)
   exact WQ.join ⟨rfl, rfl, rfl, rfl⟩ (Env.Sub.cons (by rw [hr]; rfl) (Env.Sub.cons rfl .nil)) (fun w h => h)
  ·refine WC.rename 7 (u := .bool false) rfl (by rw [zH (by rw [hf]; simp)]) ?_
   try (refine st ?_; intros)
   exact WQ.join ⟨rfl, rfl, rfl, rfl⟩ (Env.Sub.cons (by rw [← hr]; rfl) (Env.Sub.cons rfl .nil)) (fun w h => h)
 rintro _ _ _ _ ⟨rfl, rfl, rfl, rfl⟩
 generalize rn r = c at hok ⊢
 have hc := qZ hok
 have hw := zBB c
 try (refine st ?_; intros)
 refine zA func249 ?_ (hs := zB9 _ _ _ _)
 rw [zEW hok]
 rintro _ m H ⟨rfl, rfl, rfl⟩
 try (refine st ?_; intros)
 (first | refine wG (fun h1 => ?_) (fun h1 => ?_) | refine xF (fun h1 => ?_) (fun h1 => ?_) | refine xA (fun h1 => ?_) (fun h1 => ?_) | refine yK (fun h1 => ?_) (fun h1 => ?_))
 ·have h2 : c < 128 := by unfold wd at h1; split at h1 <;> (try split at h1) <;> (try split at h1) <;> omega
  try (refine st ?_; intros)
  apply WL.blkStr (s := fmb c)
  ·exact rfl
  ·(repeat (first | exact List.Mem.head _ | apply List.Mem.tail))
  ·rw [show fmb c = [UInt8.ofNat c] by unfold fmb fm; rw [if_pos h2]; rfl]
   simp; omega
  ·rw [xS]; omega
  ·exact rfl
  ·exact rfl
  ·exact rfl
  ·exact rfl
  ·exact rfl
  try (refine st ?_; intros)
  refine zR ?_
  exact Gives.mk rfl
 ·have h2 : 128 ≤ c := by
   rcases Nat.lt_or_ge c 128 with h | h
   ·exfalso; apply h1; unfold wd; rw [if_pos h]; rfl
   ·exact h
  refine st ?_; intros; rename_i bk
  refine WC.loopW [(0, .int .i32 (c : Int)), (2, str []), (3, .int .i64 (wd c : Int)), (4, .slice (some ⟨bk, 0, none⟩) (wd c) (wd c)), (5, .int .i64 ((wd c : Int) - 1))] ?_
   (fun j r ds m' H' => r = [(0, .int .i32 (c / 64 ^ (wd c - 1 - j) : Nat)), (2, str []), (3, .int .i64 (wd c : Int)), (4, .slice (some ⟨bk, 0, none⟩) (wd c) (wd c)), (5, .int .i64 (j : Int))] ∧ ds = [] ∧ m' = m ∧ H' = .row (some ⟨bk, 0, none⟩) (wd c) 5 1 (encA c j) :: H ∧ j < wd c) (wd c - 1) ⟨?_, rfl, rfl, ?_, ?_⟩ ?_
  ·(repeat (first | exact Env.Sub.nil | refine Env.Sub.cons rfl ?_))
  ·simp; omega
  ·rw [encA, show wd c - 1 + 1 = wd c by omega, List.drop_eq_nil_of_le (by rw [zAf]; omega), List.map_nil, List.append_nil]; rfl
  ·omega
  rintro j r ds m1 H1 ⟨rfl, rfl, rfl, rfl, hj⟩
  have hel := zEQ c j hj
  have hcc : c / 64 ^ (wd c - 1 - j) ≤ c := Nat.div_le_self _ _
  generalize hq : c / 64 ^ (wd c - 1 - j) = q at hcc ⊢
  by_cases hj1 : 1 ≤ j
  ·have he : (encA c j).set j [Value.int .u8 (128 + (q : Int) % 64)] = encA c (j - 1) := by
    have := zJB hj1 hj
    rw [hq] at this
    rw [← this]; simp [byV]
   have hn : c / 64 ^ (wd c - 1 - (j - 1)) = q / 64 := by rw [← hq, Nat.div_div_eq_div_mul, ← Nat.pow_succ, show wd c - 1 - (j - 1) = wd c - 1 - j + 1 by omega]
   try (refine st ?_; intros)
   rw [he]
   refine WQ.next (j - 1) ⟨rfl, rfl, rfl, rfl, by omega⟩ (by omega) ?_ (fun w h => h)
   rw [hn, show ((j - 1 : Nat) : Int) = (j : Int) - 1 by omega]
   (repeat (first | exact Env.Sub.nil | refine Env.Sub.cons rfl ?_))
  ·obtain rfl : j = 0 := by omega
   obtain ⟨p, hp, hqp, hp6⟩ := zJn hc (by omega)
   rw [Nat.sub_zero] at hq
   rw [hq] at hqp
   have hfin : (encA c 0).set 0 [Value.int .u8 (256 - (p : Int) + q)] = (fmb c).map fun b => [Value.int .u8 (b.toNat : Int)] := by
    rw [zI8 hc, zKy c (by omega), hq, hp]
    simp [encA, byV]
    omega
   try (refine st ?_; intros)
   apply WL.shl (e := 8 - wd c)
   ·exact rfl
   ·exact rfl
   ·omega
   ·simp [IntKind.bits]; omega
   ·exact rfl
   refine WL.rename 36 (u := .int .i64 (p : Int)) rfl (vi ?_) ?_
   ·rw [IntKind.wrap_i64, show (1 * 2 ^ (8 - wd c) : Int) = (p : Int) by rw [← hp]; simp]; omega
   try (refine st ?_; intros)
   rw [hfin]
   apply WL.rowStr (s := fmb c)
   ·exact rfl
   ·rw [xS]
   ·(repeat (first | exact List.Mem.head _ | apply List.Mem.tail))
   ·exact rfl
   ·exact rfl
   ·exact rfl
   ·exact rfl
   ·exact rfl
   try (refine st ?_; intros)
   refine zR ?_
   exact Gives.mk rfl
end ZP
namespace ZP
open Go Go.Eng
namespace ZDR2a
theorem zal {G G' : Prop} (next : G') (h : Bx G' → G := by intro zzn; (first | (refine iF 198 rfl ?_; refine zU func198 ?_ (hs := zDm _ _ (by omega) (by omega) _ _ _)) | (refine iF 248 rfl ?_; refine zU func248 ?_ (hs := zCI _ _ _ _)) | (refine iF 249 rfl ?_; refine zU func249 ?_ (hs := zB9 _ _ _ _)) | (refine iF 250 rfl ?_; refine zU func250 ?_ (hs := zE0 _ _ _ _))); (repeat revert zzf); exact zzn.out) : G := h ⟨next⟩
end ZDR2a
open ZDR2a in
theorem zG0 (l : List UInt8) (k : Nat) : gb l k ≤ 255 := by
 have : ∀ x : UInt8, x.toNat ≤ 255 := fun x => by have := x.toNat_lt; omega
 exact this _
def zeroP : Value := .agg #[.int .i64 0, .int .i64 0, .int .i32 0, .bool false]
open ZDR2a in
def formN (l : List UInt8) : Nat × Nat := if dl l = (65533, 1) then (0, 0) else dl l
def cv (l : List UInt8) (n : Nat) : Nat → Int
 | 0 => if n = 1 then (gb l 0 : Int) else (gb l 0 : Int) - (256 - 2 ^ (8 - n))
 | i + 1 => cv l n i * 64 + gb l (i + 1) - 128
open ZDR2a in
theorem zIV {l : List UInt8} {n i : Nat} (h1 : 2 ≤ n) (h2 : n ≤ 4) (h3 : i ≤ 3) : -64000000 ≤ cv l n i ∧ cv l n i ≤ 64000000 ∧ (i ≤ 2 → -1000000 ≤ cv l n i ∧ cv l n i ≤ 1000000) := by
 have g0 := zG0 l 0
 have g1 := zG0 l 1
 have g2 := zG0 l 2
 have g3 := zG0 l 3
 have hp : (16 : Int) ≤ 2 ^ (8 - n) ∧ (2 : Int) ^ (8 - n) ≤ 64 := by
  obtain rfl | rfl | rfl : n = 2 ∨ n = 3 ∨ n = 4 := by omega
  all_goals decide
 have c0 : cv l n 0 = (gb l 0 : Int) - (256 - 2 ^ (8 - n)) := by rw [cv, if_neg (by omega)]
 have c1 : cv l n 1 = cv l n 0 * 64 + gb l 1 - 128 := rfl
 have c2 : cv l n 2 = cv l n 1 * 64 + gb l 2 - 128 := rfl
 have c3 : cv l n 3 = cv l n 2 * 64 + gb l 3 - 128 := rfl
 generalize (2 : Int) ^ (8 - n) = p at *
 obtain rfl | rfl | rfl | rfl : i = 0 ∨ i = 1 ∨ i = 2 ∨ i = 3 := by omega
 all_goals omega
open ZDR2a in
theorem zEf {L : List UInt8} {c : Nat} (hc : okr c) (h : begins L c) : cv L (wd c) (wd c - 1) = (c : Int) := by
 have hc' := qZ hc
 have g := h.2
 have c0 : cv L (wd c) 0 = if wd c = 1 then (gb L 0 : Int) else (gb L 0 : Int) - (256 - 2 ^ (8 - wd c)) := rfl
 have c1 : cv L (wd c) 1 = cv L (wd c) 0 * 64 + gb L 1 - 128 := rfl
 have c2 : cv L (wd c) 2 = cv L (wd c) 1 * 64 + gb L 2 - 128 := rfl
 have c3 : cv L (wd c) 3 = cv L (wd c) 2 * 64 + gb L 3 - 128 := rfl
 have g0 : 0 < wd c → gb L 0 = (fm c).getD 0 0 := g 0
 have g1 : 1 < wd c → gb L 1 = (fm c).getD 1 0 := g 1
 have g2 : 2 < wd c → gb L 2 = (fm c).getD 2 0 := g 2
 have g3 : 3 < wd c → gb L 3 = (fm c).getD 3 0 := g 3
 unfold fm at g0 g1 g2 g3
 unfold wd at *
 by_cases h3 : c < 128
 ·simp only [h3, if_true] at *
  simp at g0
  simp [c0, g0]
 ·simp only [h3, if_false] at *
  by_cases h4 : c < 2048
  ·simp only [h4, if_true] at *
   simp at g0 g1 c0 ⊢
   rw [c1, c0]; omega
  ·simp only [h4, if_false] at *
   by_cases h5 : c < 65536
   ·simp only [h5, if_true] at *
    simp at g0 g1 g2 c0 ⊢
    rw [c2, c1, c0]; omega
   ·simp only [h5, if_false] at *
    simp at g0 g1 g2 g3 c0 ⊢
    rw [c3, c2, c1, c0]; omega
open ZDR2a in
theorem zJk {L : List UInt8} {n : Nat} (hv : ¬ Utf8.valid (cv L n (n - 1)) = false) (hw : rwd (cv L n (n - 1)) = n) (hn : n ≤ L.length) (he : fmb (rn (cv L n (n - 1))) = L.take n) : formN L = (rn (cv L n (n - 1)), n) ∧ cv L n (n - 1) = (rn (cv L n (n - 1)) : Int) := by
 generalize cv L n (n - 1) = q at *
 obtain ⟨h1, _⟩ | ⟨_, h2⟩ := zFG q
 ·exact absurd h1 hv
 have hok := zKV q
 generalize rn q = c at *
 subst h2
 rw [zEW hok] at hw
 subst hw
 have hd := uY hok ((qI L c (qZ hok)).2 he.symm)
 refine ⟨?_, rfl⟩
 rw [formN, if_neg, hd]
 rw [hd]
 intro h
 have h1 : c = 65533 := congrArg Prod.fst h
 have h2 : wd c = 1 := congrArg Prod.snd h
 rw [h1] at h2
 cases h2
open ZDR2a in
theorem zJ9 {L : List UInt8} {n : Nat} (h : ¬ (¬ Utf8.valid (cv L n (n - 1)) = false ∧ rwd (cv L n (n - 1)) = n ∧ fmb (rn (cv L n (n - 1))) = L.take n)) : ∀ c, okr c → wd c = n → ¬ begins L c := by
 rintro c hok rfl hb
 have hcv := zEf hok hb
 apply h
 rw [hcv, zEW hok, zHQ hok, (uN c).2 hok]
 exact ⟨by simp, rfl, ((qI L c (qZ hok)).1 hb).symm⟩
open ZDR2a in
theorem zJJ (l : List UInt8) (k : Nat) (hl : l.length ≤ 9223372036854775804) (hk : k < l.length) (w0 : World) (m : Mem) (H : SHeap) :
  Does Tryz.prog 241 #[str l, .int .i64 (k : Int)] w0 m H (Gives (.tuple #[.int .i32 ((formN (l.drop k)).1 : Int), .int .i64 ((formN (l.drop k)).2 : Int)]) m H) := by
 refine Does.of_body func241 rfl ntmps241 rfl ?_
 try (refine stg ?_; intros)
 refine WC.loopW [(6, .int .i64 1), (0, str l), (1, .int .i64 (k : Int))] ?_ (fun j r ds m' H' => ∃ n : Nat, j = 5 - n ∧ 1 ≤ n ∧ n ≤ 5 ∧ r = [(6, .int .i64 (n : Int)), (0, str l), (1, .int .i64 (k : Int))] ∧ ds = [] ∧ m' = m ∧ H' = H ∧ ∀ c, okr c → wd c < n → ¬ begins (l.drop k) c) 4
  ⟨1, rfl, by omega, by omega, rfl, rfl, rfl, rfl, fun c _ h => by have := zBB c; omega⟩ ?_
 ·(repeat (first | exact Env.Sub.nil | refine Env.Sub.cons rfl ?_))
 rintro j r ds m' H' ⟨n, rfl, h1, h2, rfl, rfl, rfl, rfl, hno⟩
 have hb := zG0 l k
 generalize hL : l.drop k = L at hno ⊢
 have hLl : L.length = l.length - k := by rw [← hL, List.length_drop]
 have hg : ∀ i, gb L i = gb l (k + i) := fun i => by rw [← hL]; exact zG5 l k i
 have hg0 : gb L 0 = gb l k := hg 0
 try (refine stg ?_; intros)
 (first | refine wG (fun h3 => ?_) (fun h3 => ?_) | refine xF (fun h3 => ?_) (fun h3 => ?_) | refine xA (fun h3 => ?_) (fun h3 => ?_) | refine yK (fun h3 => ?_) (fun h3 => ?_))
 ·try (refine stg ?_; intros)
  (first | refine wG (fun h4 => ?_) (fun h4 => ?_) | refine xF (fun h4 => ?_) (fun h4 => ?_) | refine xA (fun h4 => ?_) (fun h4 => ?_) | refine yK (fun h4 => ?_) (fun h4 => ?_))
  ·try (refine stg ?_; intros)
   refine WC.join (fun r' ds' m1 H1 => r' = [(6, .int .i64 (n : Int)), (0, str l), (1, .int .i64 (k : Int)), (7, .int .i32 (cv L n 0))] ∧ ds' = [] ∧ m1 = m' ∧ H1 = H') ?_ ?_
   ·try (refine stg ?_; intros)
    (first | refine wG (fun h5 => ?_) (fun h5 => ?_) | refine xF (fun h5 => ?_) (fun h5 => ?_) | refine xA (fun h5 => ?_) (fun h5 => ?_) | refine yK (fun h5 => ?_) (fun h5 => ?_))
    ·try (refine stg ?_; intros)
     apply WL.shl (e := 8 - n)
     ·exact rfl
     ·exact rfl
     ·omega
     ·simp [IntKind.bits]; omega
     ·exact rfl
     obtain ⟨p, hp, hp1, hp2⟩ : ∃ p : Nat, p = 2 ^ (8 - n) ∧ 16 ≤ p ∧ p ≤ 64 := by
      obtain rfl | rfl | rfl : n = 2 ∨ n = 3 ∨ n = 4 := by omega
      all_goals exact ⟨_, rfl, by decide, by decide⟩
     refine WL.rename 30 (u := .int .i32 (p : Int)) rfl (vi ?_) ?_
     ·rw [IntKind.wrap_i32, show (1 * 2 ^ (8 - n) : Int) = (p : Int) by rw [hp]; simp]; omega
     try (refine stg ?_; intros)
     refine WQ.join ⟨rfl, rfl, rfl, rfl⟩ ?_ (fun w h => h)
     rw [cv, if_neg (by omega), hg0, show (2 ^ (8 - n) : Int) = (p : Int) by rw [hp]; simp]
     (repeat (first | exact Env.Sub.nil | refine Env.Sub.cons rfl ?_))
    ·try (refine stg ?_; intros)
     refine WQ.join ⟨rfl, rfl, rfl, rfl⟩ ?_ (fun w h => h)
     rw [cv, if_pos (by omega), hg0]
     (repeat (first | exact Env.Sub.nil | refine Env.Sub.cons rfl ?_))
   rintro _ _ m' H' ⟨rfl, rfl, rfl, rfl⟩
   try (refine stg ?_; intros)
   refine WC.loopW [(8, .int .i64 1), (6, .int .i64 (n : Int)), (0, str l), (1, .int .i64 (k : Int)), (7, .int .i32 (cv L n 0))] ?_ (fun j r ds m1 H1 => ∃ i : Nat, j = n - i ∧ 1 ≤ i ∧ i ≤ n ∧ r = [(8, .int .i64 (i : Int)), (6, .int .i64 (n : Int)), (0, str l), (1, .int .i64 (k : Int)), (7, .int .i32 (cv L n (i - 1)))] ∧ ds = [] ∧ m1 = m' ∧ H1 = H') (n - 1)
    ⟨1, rfl, by omega, by omega, rfl, rfl, rfl, rfl⟩ ?_
   ·(repeat (first | exact Env.Sub.nil | refine Env.Sub.cons rfl ?_))
   rintro j r ds m1 H1 ⟨i, rfl, hi1, hi2, rfl, rfl, rfl, rfl⟩
   try (refine stg ?_; intros)
   (first | refine wG (fun h5 => ?_) (fun h5 => ?_) | refine xF (fun h5 => ?_) (fun h5 => ?_) | refine xA (fun h5 => ?_) (fun h5 => ?_) | refine yK (fun h5 => ?_) (fun h5 => ?_))
   ·have hcb := zIV (l := L) (n := n) (i := i - 1) (by omega) (by omega) (by omega)
    have hcs : cv L n i = cv L n (i - 1) * 64 + gb l (k + i) - 128 := by
     obtain ⟨i', rfl⟩ : ∃ i', i = i' + 1 := ⟨i - 1, by omega⟩
     rw [← hg]; rfl
    generalize cv L n (i - 1) = q at *
    have hb2 := zG0 l (k + i)
    try (refine stg ?_; intros)
    rw [← hcs]
    refine WQ.next (n - (i + 1)) ⟨i + 1, rfl, by omega, by omega, rfl, rfl, rfl, rfl⟩ (by omega) ?_ (fun w h => h)
    rw [Nat.add_sub_cancel]
    (repeat (first | exact Env.Sub.nil | refine Env.Sub.cons rfl ?_))
   ·obtain rfl : i = n := by omega
    have hA := zJk (L := L) (n := i)
    have hB := zJ9 (L := L) (n := i)
    generalize cv L i (i - 1) = q at *
    have hsl : (l.take (k + i)).drop k = L.take i := by rw [qA, hL]
    by_cases hv : Utf8.valid q = false
    ·try (refine stg ?_; intros)
     exact WQ.next (5 - (i + 1)) ⟨i + 1, rfl, by omega, by omega, rfl, rfl, rfl, rfl, fun c hc hcw => by
      rcases Nat.lt_or_ge (wd c) i with h | h
      ·exact hno c hc h
      ·exact hB (fun h => h.1 hv) c hc (by omega)⟩ (by omega) zsb (fun w h => h)
    ·by_cases hw : rwd q = i
     ·try (refine stg ?_; intros)
      (first | refine wG (fun h6 => ?_) (fun h6 => ?_) | refine xF (fun h6 => ?_) (fun h6 => ?_) | refine xA (fun h6 => ?_) (fun h6 => ?_) | refine yK (fun h6 => ?_) (fun h6 => ?_))
      ·obtain ⟨e1, e2⟩ := hA hv hw (by omega) (by rw [← hsl]; exact h6)
       try (refine stg ?_; intros)
       refine zR ?_
       rw [e1, ← e2]
       exact Gives.mk rfl
      ·try (refine stg ?_; intros)
       exact WQ.next (5 - (i + 1)) ⟨i + 1, rfl, by omega, by omega, rfl, rfl, rfl, rfl, fun c hc hcw => by
      rcases Nat.lt_or_ge (wd c) i with h | h
      ·exact hno c hc h
      ·exact hB (fun h => h6 (by rw [hsl]; exact h.2.2)) c hc (by omega)⟩ (by omega) zsb (fun w h => h)
     ·try (refine stg ?_; intros)
      exact WQ.next (5 - (i + 1)) ⟨i + 1, rfl, by omega, by omega, rfl, rfl, rfl, rfl, fun c hc hcw => by
      rcases Nat.lt_or_ge (wd c) i with h | h
      ·exact hno c hc h
      ·exact hB (fun h => hw h.2.1) c hc (by omega)⟩ (by omega) zsb (fun w h => h)
  ·try (refine stg ?_; intros)
   refine zR ?_
   have : formN L = (0, 0) := by
    rcases vZ L (by omega) with ⟨g1, g2, g3⟩ | ⟨g1, _⟩
    ·exact absurd g3 (hno _ g1 (by have := g3.1; omega))
    ·rw [formN, if_pos g1]
   rw [this]
   exact Gives.mk rfl
 ·try (refine stg ?_; intros)
  refine zR ?_
  have : formN L = (0, 0) := by
   rcases vZ L (by omega) with ⟨g1, g2, g3⟩ | ⟨g1, _⟩
   ·exact absurd g3 (hno _ g1 (by have := zBB (dl L).1; omega))
   ·rw [formN, if_pos g1]
  rw [this]
  exact Gives.mk rfl
end ZP
namespace ZP
open Go Go.Eng
namespace ZDR3a
theorem zal {G G' : Prop} (next : G') (h : Bx G' → G := by intro zzn; (first | (refine iF 198 rfl ?_; refine zU func198 ?_ (hs := zKM _ (by exact znz) (by omega) (by omega) _ _ _)) | (refine iF 241 rfl ?_; refine zU func241 ?_ (hs := zJJ _ _ (by omega) (by omega) _ _ _))); (repeat revert zzf); exact zzn.out) : G := h ⟨next⟩
end ZDR3a
open ZDR3a in
theorem zKM (l : List UInt8) {z : Int} {k : Nat} (hz : z = (k : Int)) (hl : l.length ≤ 9223372036854775804) (hk : k < l.length) (w0 : World) (m : Mem) (H : SHeap) :
  Does Tryz.prog 198 #[str l, .int .i64 z] w0 m H (Gives (zK l k).v m H) := by subst hz; exact zDm l k hl hk w0 m H
open ZDR3a in
theorem zHS (l : List UInt8) (k : Nat) (hl : l.length ≤ 9223372036854775804) (hk : k < l.length) (w0 : World) (m : Mem) (H : SHeap) :
  Does Tryz.prog 229 #[str l, .int .i64 (k : Int)] w0 m H (Gives (zK l k).v m H) := by
 refine Does.of_body func229 rfl ntmps229 rfl ?_
 have hc := vZ (l.drop k) (by simp; omega)
 by_cases hA : dl (l.drop k) = (65533, 1)
 ·have h1 : formN (l.drop k) = (0, 0) := by rw [formN, if_pos hA]
  have h2 : zK l k = ⟨k, 1, 65533, true⟩ := by unfold zK; rw [if_pos hA]
  rw [h2]
  try (refine stg ?_; intros)
  rw [h1]
  try (refine stg ?_; intros)
  refine zR ?_
  exact Gives.mk rfl
 ·have h1 : formN (l.drop k) = dl (l.drop k) := by rw [formN, if_neg hA]
  have h2 : zK l k = ⟨k, (dl (l.drop k)).2, (dl (l.drop k)).1, false⟩ := by unfold zK; rw [if_neg hA]
  have hw := wQ hk
  rw [qG] at hw
  rw [h2]
  try (refine stg ?_; intros)
  rw [h1]
  try (refine stg ?_; intros)
  refine zR ?_
  exact Gives.mk rfl
namespace ZDR3b
theorem zal {G G' : Prop} (next : G') (h : Bx G' → G := by intro zzn; (first | (refine ZDR3a.zal ?_; (repeat intro zzf)) | (refine iF 229 rfl ?_; refine zU func229 ?_ (hs := zHS _ _ (by omega) (by omega) _ _ _))); (repeat revert zzf); exact zzn.out) : G := h ⟨next⟩
end ZDR3b
end ZP
