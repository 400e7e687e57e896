/-
  Parts of a walk, joined. No condition.
-/
import Derived.Test.YtgckeelnhafgaaaGreatDoorP15
set_option linter.all false
set_option maxRecDepth 100000
set_option maxHeartbeats 4000000
open Go.Proofs Go.Proofs.YtgckeelnhafgaaaGreatDoor
open Tryz
open Go Go.Eng
variable {P : Program} {ro : Option Nat} {n : Nat} {w0 : World} {Q : Exit → Act → World → Prop} {r : Env} {ds : List Dfr} {m : Mem} {H : SHeap} {ops : Array Oper} {l : List Oper} {d : Nat} {ty : TypeId} {pos : String} {after : Array Edge}
attribute [local irreducible] WL WC WQ QFun zJ Does Q1 zD zB Go.Addr.add
namespace Go.Eng
open Go
theorem zNR {s : List UInt8} {a : Nat} (h : a < s.length) : UInt8.ofNat (gb s a) = s[a] := by unfold gb; rw [List.getD_eq_getElem?_getD, List.getElem?_eq_getElem h]; simp
theorem zLO (s : List UInt8) : ∀ (f a : Nat), ∀ c ∈ sub s a (numE s f a), 48 ≤ c.toNat ∧ c.toNat ≤ 57
 | 0, a, c, h => by rw [numE, zNC] at h; cases h
 | f + 1, a, c, h => by
  rw [numE] at h
  split at h
  ·next h1 =>
   have h2 := zLh s f (a + 1) h1.1
   have e : sub s a (numE s f (a + 1)) = UInt8.ofNat (gb s a) :: sub s (a + 1) (numE s f (a + 1)) := by
    unfold sub
    rw [List.drop_eq_getElem_cons h1.1, show numE s f (a + 1) - a = (numE s f (a + 1) - (a + 1)) + 1 by omega, List.take_succ_cons]
    rw [← zNR h1.1]
   rw [e] at h
   rcases List.mem_cons.1 h with rfl | h
   ·have := zIz s a
    rw [UInt8.toNat_ofNat']; omega
   ·exact zLO s f (a + 1) c h
  ·rw [zNC] at h; cases h
end Go.Eng
namespace ZP
open Go Go.Eng
attribute [local irreducible] decV
namespace ZEQ3a
theorem zal {G G' : Prop} (next : G') (h : Bx G' → G := by intro zzn; (first | (refine WL.neqNilI rfl (.inl ⟨rfl, rfl⟩) rfl rfl ?_) | (refine WL.neqNilI rfl (.inr ⟨_, _, rfl, rfl⟩) rfl rfl ?_)); (repeat revert zzf); exact zzn.out) : G := h ⟨next⟩
end ZEQ3a
open ZEQ3a in
theorem zMq (b : Nat) (s : List UInt8) (a : Nat) (wr : Int) (fr tO : Nat) (hs : s.length ≤ 1000000000) (ha : a ≤ s.length) (hfr : fr ≤ 65536) (hto : tO ≤ 65536) {w0 : World} {m : Mem} {H : SHeap} (hg : GTabsR Tryz.prog m) :
  Does Tryz.prog 180 #[.pp b] w0 m (.bl b [str s, .int .i64 (a : Int), .int .i64 wr, .int .i64 (fr : Int), .int .i64 (tO : Int)] 221 :: H) (fun v m' H' => m' = m ∧ ((∃ e n, numF s a fr tO = .yes e n ∧ v = .tuple #[.int .i64 (n : Int), .bool true] ∧ H' = .bl b [str s, .int .i64 (e : Int), .int .i64 wr, .int .i64 (fr : Int), .int .i64 (tO : Int)] 221 :: H) ∨
   (∃ (w e : Nat), numF s a fr tO = .no w ∧ v = .tuple #[.int .i64 0, .bool false] ∧ H' = .bl b [str s, .int .i64 (e : Int), .int .i64 (w : Int), .int .i64 (fr : Int), .int .i64 (tO : Int)] 221 :: H))) := by
 refine Does.of_body func180 rfl ntmps180 rfl ?_
 by_cases h1 : a < s.length ∧ 49 ≤ gb s a ∧ gb s a ≤ 57
 ·generalize hE : numE s (s.length + 1) a = E
  have hEb := zLh s (s.length + 1) a ha
  rw [hE] at hEb
  have hdg := zLO s (s.length + 1) a
  rw [hE] at hdg
  have hEa : a < E := by
   rw [numE, if_pos ⟨h1.1, by omega, h1.2.2⟩] at hE
   have := zLh s s.length (a + 1) h1.1
   omega
  have hn : numF s a fr tO = if 65536 - fr < decV (sub s a E) ∨ 65536 - tO < decV (sub s a E) then .no a else .yes E (decV (sub s a E)) := by unfold numF; rw [if_pos h1, hE]
  try (refine stg ?_; intros)
  refine lpz (fun j r ds m' H' => ∃ (f : Nat) (e : Nat), j = 2 * f ∧ r = [(4, .int .i64 (a : Int)), (0, .pp b)] ∧ ds = [] ∧ m = m' ∧ H' = .bl b [str s, .int .i64 (e : Int), .int .i64 wr, .int .i64 (fr : Int), .int .i64 (tO : Int)] 221 :: H ∧ (s.length < e + f) ∧ (a ≤ e ∧ e ≤ s.length) ∧ (numE s f e = E)) (2 * (s.length + 1)) ⟨s.length + 1, a, rfl, rfl, rfl, rfl, rfl, by omega, ⟨Nat.le_refl _, ha⟩, hE⟩ ?_
  rintro j r ds m' H' ⟨f, e, rfl, rfl, rfl, rfl, rfl, hf, hea, hR⟩
  obtain ⟨f, rfl⟩ : ∃ g, f = g + 1 := ⟨f - 1, by omega⟩
  have hge := zIz s e
  by_cases h4 : e < s.length ∧ 48 ≤ gb s e ∧ gb s e ≤ 57
  ·rw [numE, if_pos h4] at hR
   have ee : (e : Int) + 1 = ((e + 1 : Nat) : Int) := by omega
   obtain ⟨h5, h6, h7⟩ := h4
   by_cases h8 : a < e
   ·try (refine stg ?_; intros)
    rw [ee]
    refine nxz (2 * (f)) ⟨f, e + 1, rfl, rfl, rfl, rfl, rfl, ?_, ?_, ?_⟩
    ·omega
    ·omega
    ·exact hR
   ·obtain rfl : a = e := by omega
    have h9 : ¬ (gb s a : Int) = 48 := by omega
    try (refine stg ?_; intros)
    rw [ee]
    refine nxz (2 * (f)) ⟨f, a + 1, rfl, rfl, rfl, rfl, rfl, ?_, ?_, ?_⟩
    ·omega
    ·omega
    ·exact hR
  ·rw [numE, if_neg h4] at hR
   subst hR
   have key : ¬ e < s.length ∨ (e < s.length ∧ ¬ 48 ≤ gb s e) ∨ (e < s.length ∧ 48 ≤ gb s e ∧ ¬ gb s e ≤ 57) := by omega
   have hea2 : ¬ (e : Int) = (a : Int) := by omega
   have hsub : sub s a e ≠ [] := by intro h; have := congrArg List.length h; rw [zLW hea.2, List.length_nil] at this; omega
   have hsl : (sub s a e).length ≤ 281474976710656 := by rw [zLW hea.2]; omega
   have hst : (s.take e).drop a = sub s a e := by unfold sub; rw [List.drop_take]
   rcases key with k1 | ⟨k1, k2⟩ | ⟨k1, k2, k3⟩
   all_goals
    try (refine stg ?_; intros)
    refine wdw 16 ([.bl b [str s, .int .i64 (e : Int), .int .i64 wr, .int .i64 (fr : Int), .int .i64 (tO : Int)] 221]) ?_
    refine cmg ?_
    refine wa1 10 ?_
    try (refine stg ?_; intros)
    rw [hst]
    refine zA func129 ?_ (hs := zNE hsub hdg hsl hg)
    rintro v m H1 ⟨rfl, rfl, (⟨g1, rfl⟩ | ⟨g1, z, T, p, rfl⟩)⟩
    ·try (refine stg ?_; intros)
     refine waz [] zml ?_
     refine cmg ?_
     refine wdz ?_
     by_cases g2 : 65536 - fr < decV (sub s a e)
     ·rw [if_pos (.inl g2)] at hn
      try (refine stg ?_; intros)
      refine zA func182 ?_ (hs := z1 b s e wr fr tO (a : Int) _ _ _)
      rintro v m H1 ⟨rfl, rfl, rfl⟩
      try (refine stg ?_; intros)
      exact q_fz ⟨rfl, .inr ⟨a, e, hn, rfl, rfl⟩⟩
     ·by_cases g3 : 65536 - tO < decV (sub s a e)
      ·rw [if_pos (.inr g3)] at hn
       try (refine stg ?_; intros)
       refine zA func182 ?_ (hs := z1 b s e wr fr tO (a : Int) _ _ _)
       rintro v m H1 ⟨rfl, rfl, rfl⟩
       try (refine stg ?_; intros)
       exact q_fz ⟨rfl, .inr ⟨a, e, hn, rfl, rfl⟩⟩
      ·rw [if_neg (fun h => h.elim g2 g3)] at hn
       try (refine stg ?_; intros)
       exact q_fz ⟨rfl, .inl ⟨e, decV (sub s a e), hn, rfl, rfl⟩⟩
    ·rw [if_pos (.inl (by omega))] at hn
     try (refine stg ?_; intros)
     refine waz [] zml ?_
     refine cmg ?_
     refine wdz ?_
     try (refine stg ?_; intros)
     refine zA func182 ?_ (hs := z1 b s e wr fr tO (a : Int) _ _ _)
     rintro v m H1 ⟨rfl, rfl, rfl⟩
     try (refine stg ?_; intros)
     exact q_fz ⟨rfl, .inr ⟨a, e, hn, rfl, rfl⟩⟩
 ·have hn : numF s a fr tO = .no a := by unfold numF; rw [if_neg h1]
  have hga := zIz s a
  try (refine stg ?_; intros)
  refine lpz (fun j r ds m' H' => ∃ (z : Nat), j = 0 ∧ r = [(4, .int .i64 (a : Int)), (0, .pp b)] ∧ ds = [] ∧ m = m' ∧ H' = .bl b [str s, .int .i64 (a : Int), .int .i64 wr, .int .i64 (fr : Int), .int .i64 (tO : Int)] 221 :: H) (0) ⟨0, rfl, rfl, rfl, rfl, rfl⟩ ?_
  rintro j r ds m' H' ⟨z, rfl, rfl, rfl, rfl, rfl⟩
  have key : ¬ a < s.length ∨ (a < s.length ∧ ¬ 48 ≤ gb s a) ∨ (a < s.length ∧ 48 ≤ gb s a ∧ ¬ gb s a ≤ 57) ∨ (a < s.length ∧ gb s a = 48) := by omega
  rcases key with k1 | ⟨k1, k2⟩ | ⟨k1, k2, k3⟩ | ⟨k1, k2⟩
  all_goals
   try (refine stg ?_; intros)
   refine zA func182 ?_ (hs := z1 b s a wr fr tO (a : Int) _ _ _)
   rintro v m H1 ⟨rfl, rfl, rfl⟩
   try (refine stg ?_; intros)
   exact q_fz ⟨rfl, .inr ⟨a, a, hn, rfl, rfl⟩⟩
end ZP
