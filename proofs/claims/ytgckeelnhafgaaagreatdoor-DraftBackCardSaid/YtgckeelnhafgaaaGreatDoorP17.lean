/-
  Parts of a walk, joined. No condition.
-/
import Derived.Test.YtgckeelnhafgaaaGreatDoorP16
set_option linter.all false
set_option maxRecDepth 100000
set_option maxHeartbeats 4000000
open Go.Proofs Go.Proofs.YtgckeelnhafgaaaGreatDoor
open Tryz
open Go Go.Eng
variable {P : Program} {ro : Option Nat} {n : Nat} {w0 : World} {Q : Exit → Act → World → Prop} {r : Env} {ds : List Dfr} {m : Mem} {H : SHeap} {ops : Array Oper} {l : List Oper} {d : Nat} {ty : TypeId} {pos : String} {after : Array Edge}
attribute [local irreducible] WL WC WQ QFun zJ Does Q1 zD zB Go.Addr.add
namespace Go.Eng
open Go
theorem zNt {s : List UInt8} {a e : Nat} {t : List UInt8} (h : partF s a = .yes e t) : a + t.length ≤ e + 1 := by
 unfold partF at h
 split at h
 ·cases h; simp
 ·split at h
  ·next h1 =>
   have h2 := zK1 s 2 0 (a + 1) h1.1
   split at h
   ·cases h
   ·cases h; simp only [List.length_singleton]; omega
  ·split at h
   ·next h1 =>
    have h2 := zK1 s 6 0 (a + 1) h1.1
    split at h
    ·cases h
    ·next h3 =>
     cases h
     have h4 : ¬ (digF s 6 0 (a + 1)).1 = 0 := fun h => h3 (.inl h)
     have h7 := zBB (rn ((digF s 6 0 (a + 1)).2.1 : Int))
     have h8 := xS (rn ((digF s 6 0 (a + 1)).2.1 : Int))
     omega
   ·cases h
end Go.Eng
namespace ZP
open Go Go.Eng
attribute [local irreducible] partF yG
namespace ZEQ4a
theorem zal {G G' : Prop} (next : G') (h : Bx G' → G := by intro zzn; (first | (refine iF 131 rfl ?_; refine zU func131 ?_ (hs := zLZ zhs (by omega) (by omega) (by omega))) | (refine iF 119 rfl ?_; refine zU func119 ?_ (hs := zEC _ (by omega) (by assumption)))); (repeat revert zzf); exact zzn.out) : G := h ⟨next⟩
end ZEQ4a
open ZEQ4a in
theorem zLo (b : Nat) (s : List UInt8) (a : Nat) (wr : Int) (fr tO : Nat) (drop : Bool) (hs : s.length ≤ 1048576) (ha : a ≤ s.length) (hfr : fr ≤ 65536) (hto : tO ≤ 65536) {w0 : World} {m : Mem} {H : SHeap} (hg : GTabs Tryz.prog m) :
  Does Tryz.prog 181 #[.pp b, .bool drop] w0 m (.bl b [str s, .int .i64 (a : Int), .int .i64 wr, .int .i64 (fr : Int), .int .i64 (tO : Int)] 221 :: H) (fun v m' H' => m' = m ∧ ((∃ e t, qokF s a (65536 - if drop = true then fr else tO) = .yes e t ∧ v = .tuple #[str t, .bool true] ∧ H' = .bl b [str s, .int .i64 (e : Int), .int .i64 wr, .int .i64 (fr : Int), .int .i64 (tO : Int)] 221 :: H) ∨
   (∃ (w e : Nat), qokF s a (65536 - if drop = true then fr else tO) = .no w ∧ v = .tuple #[str [], .bool false] ∧ H' = .bl b [str s, .int .i64 (e : Int), .int .i64 (w : Int), .int .i64 (fr : Int), .int .i64 (tO : Int)] 221 :: H))) := by
 refine Does.of_body func181 rfl ntmps181 rfl ?_
 generalize hroom : (65536 - if drop = true then fr else tO) = room
 by_cases h1 : a < s.length ∧ gb s a = 34
 ·have hq : quotF s a = quoF s (s.length + 1) (a + 1) [] := by unfold quotF; rw [if_pos h1]
  have hqo : ∀ room, qokF s a room = match quotF s a with | .no w => .no w | .yes e t => if t = [] ∨ yG t ≠ sub s a e ∨ room < t.length then .no a else .yes e t := fun _ => rfl
  generalize hR : quotF s a = R at *
  refine WC.newRow (T := 5) (sz := 1) ?_
  have ea : (a : Int) + 1 = ((a + 1 : Nat) : Int) := by omega
  obtain ⟨h1, h34⟩ := h1
  try (refine stg ?_; intros)
  rw [ea]
  refine lpz (fun j r ds m' H' => ∃ (f : Nat) (e : Nat) (a9 : Option Addr) (c9 : Nat) (n9 : Nat) (O : List UInt8), j = 2 * f ∧ r = [(7, .slice a9 n9 c9), (6, .int .i64 (a : Int)), (0, .pp b), (1, .bool drop)] ∧ ds = [] ∧ m = m' ∧ H' = .row a9 c9 5 1 (bCs O) :: .bl b [str s, .int .i64 (e : Int), .int .i64 wr, .int .i64 (fr : Int), .int .i64 (tO : Int)] 221 :: H ∧ (n9 = O.length) ∧ (O.length ≤ e ∧ e ≤ s.length) ∧ (a ≤ e + 1) ∧ (s.length < e + f) ∧ (quoF s f e O = R)) (2 * (s.length + 1)) ⟨s.length + 1, a + 1, none, 0, 0, ([] : List UInt8), rfl, rfl, rfl, rfl, rfl, rfl, ⟨by simp, h1⟩, by omega, by omega, hq.symm⟩ ?_
  rintro j r ds m' H' ⟨f, e, a9, c9, n9, O, rfl, rfl, rfl, rfl, rfl, hn9, hOl, hae0, hf, hQ⟩
  subst hn9
  have hbl := zS O
  obtain ⟨hOl, hes⟩ := hOl
  have ee : (e : Int) + 1 = ((e + 1 : Nat) : Int) := by omega
  have hge := zIz s e
  obtain ⟨f, rfl⟩ : ∃ g, f = g + 1 := ⟨f - 1, by omega⟩
  rw [quoF] at hQ
  by_cases h3 : e < s.length ∧ gb s e = 34
  ·rw [if_pos h3] at hQ
   rw [← hQ] at hqo
   obtain ⟨h3, h30⟩ := h3
   have hst : (s.take (e + 1)).drop a = sub s a (e + 1) := by unfold sub; rw [List.drop_take]
   simp only [ne_eq, ← hst] at hqo
   have hae : a ≤ e + 1 := hae0
   try (refine stg ?_; intros)
   rw [ee]
   refine WL.rowStr (s := O) rfl rfl zhs rfl rfl rfl rfl rfl ?_
   cases drop with
   | true =>
    replace hqo := hqo room
    have hroom2 : 65536 - fr = room := hroom
    by_cases g1 : O = []
    ·rw [if_pos (.inl g1)] at hqo
     try (refine stg ?_; intros)
     refine zN func182 ?_ (hs := z1 b s (e + 1) wr (fr : Int) (tO : Int) (a : Int) _ _ _)
     rintro v m H1 ⟨rfl, rfl, rfl⟩
     try (refine stg ?_; intros)
     exact q_fz ⟨rfl, .inr ⟨a, e + 1, hqo, rfl, rfl⟩⟩
    ·by_cases g2 : yG O = (s.take (e + 1)).drop a
     ·by_cases g3 : room < O.length
      ·have g4 : (65536 : Int) < (fr : Int) + (O.length : Int) := by omega
       rw [if_pos (.inr (.inr g3))] at hqo
       try (refine stg ?_; intros)
       refine zN func182 ?_ (hs := z1 b s (e + 1) wr (fr : Int) (tO : Int) (a : Int) _ _ _)
       rintro v m H1 ⟨rfl, rfl, rfl⟩
       try (refine stg ?_; intros)
       exact q_fz ⟨rfl, .inr ⟨a, e + 1, hqo, rfl, rfl⟩⟩
      ·have g4 : ¬ (65536 : Int) < (fr : Int) + (O.length : Int) := by omega
       rw [if_neg (fun h => h.elim g1 fun h => h.elim (fun h => h g2) g3)] at hqo
       try (refine stg ?_; intros)
       exact q_fz ⟨rfl, .inl ⟨e + 1, O, hqo, rfl, rfl⟩⟩
     ·rw [if_pos (.inr (.inl g2))] at hqo
      try (refine stg ?_; intros)
      refine zN func182 ?_ (hs := z1 b s (e + 1) wr (fr : Int) (tO : Int) (a : Int) _ _ _)
      rintro v m H1 ⟨rfl, rfl, rfl⟩
      try (refine stg ?_; intros)
      exact q_fz ⟨rfl, .inr ⟨a, e + 1, hqo, rfl, rfl⟩⟩
   | false =>
    replace hqo := hqo room
    have hroom2 : 65536 - tO = room := hroom
    by_cases g1 : O = []
    ·rw [if_pos (.inl g1)] at hqo
     try (refine stg ?_; intros)
     refine zN func182 ?_ (hs := z1 b s (e + 1) wr (fr : Int) (tO : Int) (a : Int) _ _ _)
     rintro v m H1 ⟨rfl, rfl, rfl⟩
     try (refine stg ?_; intros)
     exact q_fz ⟨rfl, .inr ⟨a, e + 1, hqo, rfl, rfl⟩⟩
    ·by_cases g2 : yG O = (s.take (e + 1)).drop a
     ·by_cases g3 : room < O.length
      ·have g4 : (65536 : Int) < (tO : Int) + (O.length : Int) := by omega
       rw [if_pos (.inr (.inr g3))] at hqo
       try (refine stg ?_; intros)
       refine zN func182 ?_ (hs := z1 b s (e + 1) wr (fr : Int) (tO : Int) (a : Int) _ _ _)
       rintro v m H1 ⟨rfl, rfl, rfl⟩
       try (refine stg ?_; intros)
       exact q_fz ⟨rfl, .inr ⟨a, e + 1, hqo, rfl, rfl⟩⟩
      ·have g4 : ¬ (65536 : Int) < (tO : Int) + (O.length : Int) := by omega
       rw [if_neg (fun h => h.elim g1 fun h => h.elim (fun h => h g2) g3)] at hqo
       try (refine stg ?_; intros)
       exact q_fz ⟨rfl, .inl ⟨e + 1, O, hqo, rfl, rfl⟩⟩
     ·rw [if_pos (.inr (.inl g2))] at hqo
      try (refine stg ?_; intros)
      refine zN func182 ?_ (hs := z1 b s (e + 1) wr (fr : Int) (tO : Int) (a : Int) _ _ _)
      rintro v m H1 ⟨rfl, rfl, rfl⟩
      try (refine stg ?_; intros)
      exact q_fz ⟨rfl, .inr ⟨a, e + 1, hqo, rfl, rfl⟩⟩
  ·rw [if_neg h3] at hQ
   by_cases h4 : e < s.length ∧ gb s e = 92
   ·rw [if_pos h4] at hQ
    obtain ⟨h4, h5⟩ := h4
    try (refine stg ?_; intros)
    rw [ee]
    refine WL.heap (H' := .bl b [str s, .int .i64 ((e + 1 : Nat) : Int), .int .i64 wr, .int .i64 (fr : Int), .int .i64 (tO : Int)] 221 :: .row a9 c9 5 1 (bCs O) :: H) zpk ?_
    refine zA func217 ?_ (hs := zNi b s (e + 1) wr (fr : Int) (tO : Int) (by omega) h4 _ _ _)
    rintro v m H1 ⟨rfl, (⟨e2, t, hp, rfl, rfl⟩ | ⟨w, e2, hp, rfl, rfl⟩)⟩
    ·rw [hp] at hQ
     simp only at hQ
     have hpy := zLB hp
     have hpz := zNt hp
     have em : bCs O ++ List.map (fun b => [Value.int .u8 (b.toNat : Int)]) t = bCs (O ++ t) := by rw [← qT]; rfl
     have el : (bCs O).length + t.length = (O ++ t).length := by rw [zS, List.length_append]
     have el2 : (O ++ t).length = O.length + t.length := List.length_append
     refine stg ?_; intros; rename_i a8 c8
     rw [em, el]
     refine nxz (2 * (f)) ⟨f, e2, a8, c8, (O ++ t).length, O ++ t, rfl, rfl, rfl, rfl, rfl, ?_, ?_, ?_, ?_, ?_⟩
     ·rfl
     ·omega
     ·omega
     ·omega
     ·exact hQ
    ·rw [hp] at hQ
     simp only at hQ
     rw [← hQ] at hqo
     try (refine stg ?_; intros)
     exact q_fz ⟨rfl, .inr ⟨w, e2, hqo _, rfl, rfl⟩⟩
   ·rw [if_neg h4] at hQ
    by_cases h5 : e < s.length ∧ 32 ≤ gb s e ∧ gb s e ≤ 126
    ·rw [if_pos h5] at hQ
     obtain ⟨h5, h6, h7⟩ := h5
     have eb : ((gb s e : Nat) : Int) = ((UInt8.ofNat (gb s e)).toNat : Int) := by rw [UInt8.toNat_ofNat']; omega
     have ea1 : bCs O ++ [[Value.int .u8 (gb s e : Int)]] = bCs (O ++ [UInt8.ofNat (gb s e)]) := by rw [eb, ← qT]; rfl
     have el : (bCs O).length + 1 = (O ++ [UInt8.ofNat (gb s e)]).length := by rw [hbl]; simp
     try (refine stg ?_; intros)
     refine wdw 13 ([.bl b [str s, .int .i64 (e : Int), .int .i64 wr, .int .i64 (fr : Int), .int .i64 (tO : Int)] 221]) ?_
     refine cmg ?_
     refine wa1 10 ?_
     refine stg ?_; intros; rename_i q
     refine waz [.bl q [.int .u8 (gb s e : Int)] 5] zml ?_
     refine cmg ?_
     refine wa1 11 ?_
     refine stg ?_; intros; rename_i a8 c8
     rw [ea1, el]
     refine waz [] zml ?_
     refine cmg ?_
     refine wdz ?_
     try (refine stg ?_; intros)
     rw [ee]
     refine nxz (2 * (f)) ⟨f, e + 1, a8, c8, (O ++ [UInt8.ofNat (gb s e)]).length, O ++ [UInt8.ofNat (gb s e)], rfl, rfl, rfl, rfl, rfl, ?_, ?_, ?_, ?_, ?_⟩
     ·rfl
     ·rw [List.length_append, List.length_singleton]; omega
     ·omega
     ·omega
     ·exact hQ
    ·rw [if_neg h5] at hQ
     rw [← hQ] at hqo
     have key : ¬ e < s.length ∨ (e < s.length ∧ ¬ 32 ≤ gb s e) ∨ (e < s.length ∧ 32 ≤ gb s e ∧ ¬ gb s e ≤ 126) := by omega
     rcases key with k1 | ⟨k1, k2⟩ | ⟨k1, k2, k3⟩
     all_goals
      try (refine stg ?_; intros)
      refine zN func182 ?_ (hs := z1 b s e wr (fr : Int) (tO : Int) (e : Int) _ _ _)
      rintro v m H1 ⟨rfl, rfl, rfl⟩
      try (refine stg ?_; intros)
      exact q_fz ⟨rfl, .inr ⟨e, e, hqo _, rfl, rfl⟩⟩
 ·have hq : quotF s a = .no a := by unfold quotF; rw [if_neg h1]
  have hqo : ∀ room, qokF s a room = .no a := fun _ => by unfold qokF; rw [hq]
  try (refine stg ?_; intros)
  refine zA func182 ?_ (hs := z1 b s a wr (fr : Int) (tO : Int) (a : Int) _ _ _)
  rintro v m H1 ⟨rfl, rfl, rfl⟩
  try (refine stg ?_; intros)
  exact q_fz ⟨rfl, .inr ⟨a, a, hqo _, rfl, rfl⟩⟩
end ZP
namespace ZP
open Go Go.Eng
attribute [local irreducible] numF qokF
namespace ZEQ5a
theorem zal {G G' : Prop} (next : G') (h : Bx G' → G := by intro zzn; (first | (refine iF 131 rfl ?_; refine zU func131 ?_ (hs := zLZ zhs (by omega) (by omega) (by omega)))); (repeat revert zzf); exact zzn.out) : G := h ⟨next⟩
end ZEQ5a
open ZEQ5a in
theorem zMa (b : Nat) (s : List UInt8) (a : Nat) (wr : Int) (fr tO : Nat) (hs : s.length ≤ 1048576) (ha : a ≤ s.length) (hfr : fr ≤ 65536) (hto : tO ≤ 65536) {w0 : World} {m : Mem} {H : SHeap} (hg : GTabsR Tryz.prog m) :
  Does Tryz.prog 132 #[.pp b] w0 m (.bl b [str s, .int .i64 (a : Int), .int .i64 wr, .int .i64 (fr : Int), .int .i64 (tO : Int)] 221 :: H) (fun v m' H' => m' = m ∧ ((∃ (e : Nat) (x : Stp), stepF s a fr tO = .yes e x ∧ v = .tuple #[.agg x.cs.toArray, .bool true] ∧ H' = .bl b [str s, .int .i64 (e : Int), .int .i64 wr, .int .i64 ((fr + x.k.toNat + x.d.length : Nat) : Int), .int .i64 ((tO + x.k.toNat + x.p.length : Nat) : Int)] 221 :: H) ∨
   (∃ (w e : Nat) (x : Stp) (f2 t2 : Int), stepF s a fr tO = .no w ∧ v = .tuple #[.agg x.cs.toArray, .bool false] ∧ H' = .bl b [str s, .int .i64 (e : Int), .int .i64 (w : Int), .int .i64 f2, .int .i64 t2] 221 :: H))) := by
 refine Does.of_body func132 rfl ntmps132 rfl ?_
 have ea : (a : Int) + 1 = ((a + 1 : Nat) : Int) := by omega
 by_cases h1 : a < s.length ∧ gb s a = 61
 ·have hst : stepF s a fr tO = match numF s (a + 1) fr tO with | .no w => .no w | .yes e n => .yes e ⟨(n : Int), [], []⟩ := by unfold stepF; rw [if_pos h1]; rfl
  obtain ⟨h1, h11⟩ := h1
  refine stg ?_; intros; rename_i bS
  rw [ea]
  refine WL.heap (H' := .bl b [str s, .int .i64 ((a + 1 : Nat) : Int), .int .i64 wr, .int .i64 (fr : Int), .int .i64 (tO : Int)] 221 :: .bl bS [.int .i64 0, str [], str []] 153 :: H) zpk ?_
  refine zA func180 ?_ (hs := zMq b s (a + 1) wr fr tO (by omega) h1 hfr hto hg)
  rintro v m H1 ⟨rfl, (⟨e, n, hn, rfl, rfl⟩ | ⟨w, e, hn, rfl, rfl⟩)⟩
  ·rw [hn] at hst
   simp only at hst
   have hny := zMJ hn
   have e1 : (fr : Int) + (n : Int) = ((fr + ((n : Int)).toNat + ([] : List UInt8).length : Nat) : Int) := by simp
   have e2 : (tO : Int) + (n : Int) = ((tO + ((n : Int)).toNat + ([] : List UInt8).length : Nat) : Int) := by simp
   try (refine stg ?_; intros)
   refine wdw 20 ([.bl bS [.int .i64 0, str [], str []] 153]) ?_
   refine cmg ?_
   refine WE.act2 5 11 (by decide +kernel) rfl rfl (fun c h => by cases h) rfl rfl (fun c h => by cases h) ?_ ?_
   ·try (refine stg ?_; intros)
    refine waz [] zml ?_
    refine cmg ?_
    refine wa1 11 ?_
    try (refine stg ?_; intros)
    refine waz [] zml ?_
    refine cmg ?_
    refine wa0 16 ?_
    try (refine stg ?_; intros)
    refine wsz [] zml ?_
    refine cmg ?_
    refine wa0 19 ?_
    try (refine stg ?_; intros)
    refine wsz [] zml ?_
    refine wdz ?_
    try (refine stg ?_; intros)
    rw [e1, e2]
    exact q_fz ⟨rfl, .inl ⟨e, ⟨(n : Int), [], []⟩, hst, rfl, rfl⟩⟩
   ·try (refine stg ?_; intros)
    refine waz [] zml ?_
    refine cmg ?_
    refine wa1 5 ?_
    try (refine stg ?_; intros)
    refine waz [] zml ?_
    refine cmg ?_
    refine wa0 16 ?_
    try (refine stg ?_; intros)
    refine wsz [] zml ?_
    refine cmg ?_
    refine wa0 19 ?_
    try (refine stg ?_; intros)
    refine wsz [] zml ?_
    refine wdz ?_
    try (refine stg ?_; intros)
    rw [e1, e2]
    exact q_fz ⟨rfl, .inl ⟨e, ⟨(n : Int), [], []⟩, hst, rfl, rfl⟩⟩
  ·rw [hn] at hst
   simp only at hst
   try (refine stg ?_; intros)
   refine wdw 20 ([.bl bS [.int .i64 0, str [], str []] 153]) ?_
   refine cmg ?_
   refine WE.act2 5 11 (by decide +kernel) rfl rfl (fun c h => by cases h) rfl rfl (fun c h => by cases h) ?_ ?_
   ·try (refine stg ?_; intros)
    refine waz [] zml ?_
    refine cmg ?_
    refine wa1 11 ?_
    try (refine stg ?_; intros)
    refine waz [] zml ?_
    refine cmg ?_
    refine wa0 16 ?_
    try (refine stg ?_; intros)
    refine wsz [] zml ?_
    refine cmg ?_
    refine wa0 19 ?_
    try (refine stg ?_; intros)
    refine wsz [] zml ?_
    refine wdz ?_
    try (refine stg ?_; intros)
    exact q_fz ⟨rfl, .inr ⟨w, e, ⟨0, [], []⟩, _, _, hst, rfl, rfl⟩⟩
   ·try (refine stg ?_; intros)
    refine waz [] zml ?_
    refine cmg ?_
    refine wa1 5 ?_
    try (refine stg ?_; intros)
    refine waz [] zml ?_
    refine cmg ?_
    refine wa0 16 ?_
    try (refine stg ?_; intros)
    refine wsz [] zml ?_
    refine cmg ?_
    refine wa0 19 ?_
    try (refine stg ?_; intros)
    refine wsz [] zml ?_
    refine wdz ?_
    try (refine stg ?_; intros)
    exact q_fz ⟨rfl, .inr ⟨w, e, ⟨0, [], []⟩, _, _, hst, rfl, rfl⟩⟩
 ·by_cases h2 : a < s.length ∧ gb s a = 45
  ·have hst : stepF s a fr tO = match qokF s (a + 1) (65536 - fr) with | .no w => .no w | .yes e t => .yes e ⟨0, t, []⟩ := by unfold stepF; rw [if_neg h1, if_pos h2]; rfl
   obtain ⟨h2, h22⟩ := h2
   refine stg ?_; intros; rename_i bS
   rw [ea]
   refine zN func181 ?_ (hs := zLo b s (a + 1) wr fr tO true hs h2 hfr hto hg.toGTabs)
   rintro v m H1 ⟨rfl, (⟨e, t, hn, rfl, rfl⟩ | ⟨w, e, hn, rfl, rfl⟩)⟩
   ·rw [if_pos rfl] at hn
    rw [hn] at hst
    simp only at hst
    have hny := zLt hn
    have e1 : (fr : Int) + (t.length : Int) = ((fr + (0 : Int).toNat + t.length : Nat) : Int) := by simp
    have e2 : (tO : Int) = ((tO + (0 : Int).toNat + ([] : List UInt8).length : Nat) : Int) := by simp
    try (refine stg ?_; intros)
    rw [e1]
    exact q_fz (H0 := .bl b [str s, .int .i64 (e : Int), .int .i64 wr, .int .i64 ((fr + (0 : Int).toNat + t.length : Nat) : Int), .int .i64 (tO : Int)] 221 :: H) ⟨rfl, .inl ⟨e, ⟨0, t, []⟩, hst, rfl, by rw [← e2]⟩⟩
   ·rw [if_pos rfl] at hn
    rw [hn] at hst
    simp only at hst
    have hl0 : ([] : List UInt8).length = 0 := rfl
    try (refine stg ?_; intros)
    exact q_fz ⟨rfl, .inr ⟨w, e, ⟨0, [], []⟩, _, _, hst, rfl, rfl⟩⟩
  ·by_cases h3 : a < s.length ∧ gb s a = 43
   ·have hst : stepF s a fr tO = match qokF s (a + 1) (65536 - tO) with | .no w => .no w | .yes e t => .yes e ⟨0, [], t⟩ := by unfold stepF; rw [if_neg h1, if_neg h2, if_pos h3]; rfl
    obtain ⟨h3, h33⟩ := h3
    refine stg ?_; intros; rename_i bS
    rw [ea]
    refine zN func181 ?_ (hs := zLo b s (a + 1) wr fr tO false hs h3 hfr hto hg.toGTabs)
    rintro v m H1 ⟨rfl, (⟨e, t, hn, rfl, rfl⟩ | ⟨w, e, hn, rfl, rfl⟩)⟩
    ·rw [if_neg (by decide)] at hn
     rw [hn] at hst
     simp only at hst
     have hny := zLt hn
     have e1 : (tO : Int) + (t.length : Int) = ((tO + (0 : Int).toNat + t.length : Nat) : Int) := by simp
     have e2 : (fr : Int) = ((fr + (0 : Int).toNat + ([] : List UInt8).length : Nat) : Int) := by simp
     try (refine stg ?_; intros)
     rw [e1]
     exact q_fz (H0 := .bl b [str s, .int .i64 (e : Int), .int .i64 wr, .int .i64 (fr : Int), .int .i64 ((tO + (0 : Int).toNat + t.length : Nat) : Int)] 221 :: H) ⟨rfl, .inl ⟨e, ⟨0, [], t⟩, hst, rfl, by rw [← e2]⟩⟩
    ·rw [if_neg (by decide)] at hn
     rw [hn] at hst
     simp only at hst
     have hl0 : ([] : List UInt8).length = 0 := rfl
     try (refine stg ?_; intros)
     exact q_fz ⟨rfl, .inr ⟨w, e, ⟨0, [], []⟩, _, _, hst, rfl, rfl⟩⟩
   ·have hst : stepF s a fr tO = .no a := by unfold stepF; rw [if_neg h1, if_neg h2, if_neg h3]
    refine stg ?_; intros; rename_i bS
    refine zN func182 ?_ (hs := z1 b s a wr (fr : Int) (tO : Int) (a : Int) _ _ _)
    rintro v m H1 ⟨rfl, rfl, rfl⟩
    try (refine stg ?_; intros)
    exact q_fz ⟨rfl, .inr ⟨a, a, ⟨0, [], []⟩, _, _, hst, rfl, rfl⟩⟩
end ZP
namespace Go.Eng
open Go
def rdErr (w : Nat) : Value := .tuple #[.slice none 0 0, .agg #[.int .i64 271, .int .i64 (w : Int)]]
end Go.Eng
namespace ZP
open Go Go.Eng
attribute [local irreducible] stepF
namespace ZEQ6a
theorem zal {G G' : Prop} (next : G') (h : Bx G' → G := by intro zzn; (first | (refine iF 131 rfl ?_; refine zU func131 ?_ (hs := zLZ zhs (by omega) (by omega) (by omega)))); (repeat revert zzf); exact zzn.out) : G := h ⟨next⟩
end ZEQ6a
open ZEQ6a in
theorem zNj (s : List UInt8) (hs : s.length ≤ 1048576) {w0 : World} {m : Mem} {H : SHeap} (hg : GTabsR Tryz.prog m) :
  Does Tryz.prog 95 #[str s] w0 m H (fun v m' H' => m' = m ∧ ((∃ (e : Nat) (l : List Stp) (a9 : Option Addr) (c9 : Nat), readF s (s.length + 1) 0 0 0 [] = .yes e l ∧ v = .tuple #[.slice a9 l.length c9, .agg #[.int .i64 0, .int .i64 0]] ∧ H' = .row a9 c9 153 3 (l.map Stp.cs) :: H) ∨
   (∃ w, readF s (s.length + 1) 0 0 0 [] = .no w ∧ v = rdErr w ∧ H' = H))) := by
 refine Does.of_body func95 rfl ntmps95 rfl ?_
 generalize hR : readF s (s.length + 1) 0 0 0 [] = R
 refine WC.newRow (T := 153) (sz := 3) ?_
 refine stg ?_; intros; rename_i bs b
 refine lpz (fun j r ds m' H' => ∃ (f : Nat) (a : Nat) (fr : Nat) (tO : Nat) (l : List Stp) (wr : Int) (a9 : Option Addr) (c9 : Nat) (n9 : Nat), j = 2 * f ∧ r = [(0, str s), (3, .pp bs), (4, .pp b), (5, .slice a9 n9 c9)] ∧ ds = [] ∧ m = m' ∧ H' = .row a9 c9 153 3 (l.map Stp.cs) :: .bl b [str s, .int .i64 (a : Int), .int .i64 wr, .int .i64 (fr : Int), .int .i64 (tO : Int)] 221 :: .bl bs [.int .i64 0, .int .i64 0] 75 :: H ∧ (n9 = l.length) ∧ (l.length ≤ a ∧ a ≤ s.length) ∧ (fr ≤ 65536 ∧ tO ≤ 65536) ∧ (s.length < a + f) ∧ (readF s f a fr tO l = R)) (2 * (s.length + 1)) ⟨s.length + 1, 0, 0, 0, [], 0, none, 0, 0, rfl, rfl, rfl, rfl, rfl, rfl, ⟨by simp, by omega⟩, ⟨by omega, by omega⟩, by omega, hR⟩ ?_
 rintro j r ds m' H' ⟨f, a, fr, tO, l, wr, a9, c9, n9, rfl, rfl, rfl, rfl, rfl, hn9, hla, hfr, hf, hQ⟩
 subst hn9
 obtain ⟨f, rfl⟩ : ∃ g, f = g + 1 := ⟨f - 1, by omega⟩
 have hml : (l.map Stp.cs).length = l.length := List.length_map _
 have ea : (a : Int) + 1 = ((a + 1 : Nat) : Int) := by omega
 rw [readF] at hQ
 by_cases hlt : a < s.length
 ·rw [if_pos hlt] at hQ
  have hga := zIz s a
  by_cases h1 : l ≠ [] ∧ gb s a ≠ 32
  ·rw [if_pos h1] at hQ
   have hpos : 0 < l.length := List.length_pos_iff.2 h1.1
   obtain ⟨_, h2⟩ := h1
   try (refine stg ?_; intros)
   exact q_fz ⟨rfl, .inr ⟨a, hQ.symm, rfl, rfl⟩⟩
  ·rw [if_neg h1] at hQ
   by_cases h3 : l = []
   ·rw [if_pos h3] at hQ
    have hpos : l.length = 0 := by rw [h3]; rfl
    try (refine stg ?_; intros)
    refine WL.heap (H' := .bl b [str s, .int .i64 ((a : Nat) : Int), .int .i64 wr, .int .i64 (fr : Int), .int .i64 (tO : Int)] 221 :: .row a9 c9 153 3 (l.map Stp.cs) :: .bl bs [.int .i64 0, .int .i64 0] 75 :: H) zpk ?_
    refine zA func132 ?_ (hs := zMa b s (a) wr fr tO hs (by omega) hfr.1 hfr.2 hg)
    rintro v m H1 ⟨rfl, (⟨e, x, hst, rfl, rfl⟩ | ⟨w, e, x, f2, t2, hst, rfl, rfl⟩)⟩
    ·rw [hst] at hQ
     simp only at hQ
     have hxy := zLj hst hfr.1 hfr.2
     have el : (l.map Stp.cs).length + 1 = (l ++ [x]).length := by simp
     have em : l.map Stp.cs ++ [[Value.int .i64 x.k, str x.d, str x.p]] = (l ++ [x]).map Stp.cs := by rw [List.map_append]; rfl
     have el2 : (l ++ [x]).length = l.length + 1 := by simp
     refine stg ?_; intros; rename_i bx q a8 c8
     rw [em, el]
     refine nxz (2 * (f)) ⟨f, e, fr + x.k.toNat + x.d.length, tO + x.k.toNat + x.p.length, l ++ [x], wr, a8, c8, (l ++ [x]).length, rfl, rfl, rfl, rfl, rfl, ?_, ?_, ?_, ?_, ?_⟩
     ·rfl
     ·omega
     ·omega
     ·omega
     ·exact hQ
    ·rw [hst] at hQ
     simp only at hQ
     refine stg ?_; intros; rename_i bx
     exact q_fz ⟨rfl, .inr ⟨w, hQ.symm, rfl, rfl⟩⟩
   ·rw [if_neg h3] at hQ
    have hpos : 0 < l.length := List.length_pos_iff.2 h3
    have h2 : gb s a = 32 := Decidable.byContradiction fun h => h1 ⟨h3, h⟩
    try (refine stg ?_; intros)
    rw [ea]
    refine WL.heap (H' := .bl b [str s, .int .i64 ((a + 1 : Nat) : Int), .int .i64 wr, .int .i64 (fr : Int), .int .i64 (tO : Int)] 221 :: .row a9 c9 153 3 (l.map Stp.cs) :: .bl bs [.int .i64 0, .int .i64 0] 75 :: H) zpk ?_
    refine zA func132 ?_ (hs := zMa b s (a + 1) wr fr tO hs (by omega) hfr.1 hfr.2 hg)
    rintro v m H1 ⟨rfl, (⟨e, x, hst, rfl, rfl⟩ | ⟨w, e, x, f2, t2, hst, rfl, rfl⟩)⟩
    ·rw [hst] at hQ
     simp only at hQ
     have hxy := zLj hst hfr.1 hfr.2
     have el : (l.map Stp.cs).length + 1 = (l ++ [x]).length := by simp
     have em : l.map Stp.cs ++ [[Value.int .i64 x.k, str x.d, str x.p]] = (l ++ [x]).map Stp.cs := by rw [List.map_append]; rfl
     have el2 : (l ++ [x]).length = l.length + 1 := by simp
     refine stg ?_; intros; rename_i bx q a8 c8
     rw [em, el]
     refine nxz (2 * (f)) ⟨f, e, fr + x.k.toNat + x.d.length, tO + x.k.toNat + x.p.length, l ++ [x], wr, a8, c8, (l ++ [x]).length, rfl, rfl, rfl, rfl, rfl, ?_, ?_, ?_, ?_, ?_⟩
     ·rfl
     ·omega
     ·omega
     ·omega
     ·exact hQ
    ·rw [hst] at hQ
     simp only at hQ
     refine stg ?_; intros; rename_i bx
     exact q_fz ⟨rfl, .inr ⟨w, hQ.symm, rfl, rfl⟩⟩
 ·rw [if_neg hlt] at hQ
  try (refine stg ?_; intros)
  exact q_fz ⟨rfl, .inl ⟨a, l, a9, c9, hQ.symm, rfl, rfl⟩⟩
end ZP
