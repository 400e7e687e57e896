/-
  Parts of a walk, joined. No condition.
-/
import Derived.Test.YtgckeelnhafgaaaGreatDoorP12
set_option linter.all false
set_option maxRecDepth 100000
set_option maxHeartbeats 4000000
open Go.Proofs Go.Proofs.YtgckeelnhafgaaaGreatDoor
open Tryz
open Go Go.Eng
variable {P : Program} {ro : Option Nat} {n : Nat} {w0 : World} {Q : Exit → Act → World → Prop} {r : Env} {ds : List Dfr} {m : Mem} {H : SHeap} {ops : Array Oper} {l : List Oper} {d : Nat} {ty : TypeId} {pos : String} {after : Array Edge}
attribute [local irreducible] WL WC WQ QFun zJ Does Q1 zD zB Go.Addr.add
namespace ZP
open Go Go.Eng
attribute [local irreducible] strs jn putT dropT chGo oneS
namespace ZD39a
theorem zal {G G' : Prop} (next : G') (h : Bx G' → G := by intro zzn; (first | (refine WL.indexAddrA rfl rfl (by exact znz) rfl rfl (by omega) rfl rfl ?_)); (repeat revert zzf); exact zzn.out) : G := h ⟨next⟩
end ZD39a
open ZD39a in
theorem zDL {X Y : List Tx} {M : List (Nat × Nat)} {F : List Stp} {cx cy cp : Nat} {ax ay a : Option Addr} {w0 : World} {m : Mem} {H : SHeap} {Q : Exit → Act → World → Prop}
  (hX : X.length ≤ 65536 ∧ X.flatten.length ≤ 65536 ∧ X.length ≤ cx) (hY : Y.length ≤ 65536 ∧ Y.flatten.length ≤ 65536 ∧ Y.length ≤ cy) (hXn : ∀ t ∈ X, t ≠ []) (hM : PrOk X Y 0 0 M X.length Y.length) (hMl : M.length ≤ 65536) (hF : chGo X Y M 0 0 = F)
  (hK : ∀ (ac : Option Addr) (cc : Nat), WQ 73 w0 Q (.exit 0) [(7, .slice ac F.length cc)] [] m (.row ac cc 165 3 (F.map Stp.cs) :: H)) :
  WC Tryz.prog none 73 w0 ((yF (Tryz.f88.body.getD .skip)).getD 0 .skip) Q [(27, .int .i64 0), (26, .int .i64 ((M.length + 1 : Nat) : Int)), (25, .slice a (M.length + 1) cp), (8, .int .i64 0), (9, .int .i64 0), (7, .slice none 0 0), (5, .slice ax X.length cx), (6, .slice ay Y.length cy)] [] m
   (.row ax cx 9 1 (strs X) :: .row ay cy 9 1 (strs Y) :: .row none 0 165 3 (([] : List Stp).map Stp.cs) :: .row a cp 134 2 ((M ++ [(X.length, Y.length)]).map prE) :: H) := by
 have hXs : (strs X).length = X.length := by simp [strs]
 have hml : ((M ++ [(X.length, Y.length)]).map prE).length = M.length + 1 := by simp
 refine lpz (fun j r ds m' H' => ∃ (q : Nat) (i : Nat) (k : Nat) (L : List Stp) (ac : Option Addr) (cc : Nat), j = M.length + 1 - q ∧ r = [(27, .int .i64 (q : Int)), (26, .int .i64 ((M.length + 1 : Nat) : Int)), (25, .slice a (M.length + 1) cp), (8, .int .i64 (i : Int)), (9, .int .i64 (k : Int)), (7, .slice ac L.length cc), (5, .slice ax X.length cx), (6, .slice ay Y.length cy)] ∧ ds = [] ∧ m = m' ∧ H' = .row ax cx 9 1 (strs X) :: .row ay cy 9 1 (strs Y) :: .row ac cc 165 3 (L.map Stp.cs) :: .row a cp 134 2 ((M ++ [(X.length, Y.length)]).map prE) :: H ∧ (q ≤ M.length + 1) ∧ ((q ≤ M.length ∧ PrOk X Y i k (M.drop q) X.length Y.length ∧ L ++ chGo X Y (M.drop q) i k = F) ∨ (q = M.length + 1 ∧ L = F)) ∧ (L.length ≤ 3 * q)) (M.length + 1 - (0)) ⟨0, 0, 0, ([] : List Stp), none, 0, rfl, rfl, rfl, rfl, rfl, Nat.zero_le _, .inl ⟨Nat.zero_le _, hM, hF⟩, Nat.zero_le _⟩ ?_
 rintro j r ds m' H' ⟨q, i, k, L, ac, cc, rfl, rfl, rfl, rfl, rfl, hq, hgo, hL⟩
 have hLm : (L.map Stp.cs).length = L.length := List.length_map _
 by_cases hlt : q < M.length
 ·obtain ⟨_, hP, hgo⟩ : q ≤ M.length ∧ PrOk X Y i k (M.drop q) X.length Y.length ∧ L ++ chGo X Y (M.drop q) i k = F := by
   rcases hgo with h | h
   ·exact h
   ·omega
  obtain ⟨p, hp⟩ : ∃ p, M[q]? = some p := ⟨_, List.getElem?_eq_getElem hlt⟩
  have hdr : M.drop q = p :: M.drop (q + 1) := by
   obtain ⟨h1, h2⟩ := List.getElem?_eq_some_iff.1 hp
   rw [List.drop_eq_getElem_cons h1, h2]
  rw [hdr] at hP hgo
  obtain ⟨h1, h2, h3, h4, ⟨t, e1, e2⟩, h6⟩ := hP
  have hgt := xM e1
  have htn := hXn t (List.mem_of_getElem? e1)
  have htl : t.length ≤ 65536 := by have := qX (List.mem_of_getElem? e1); omega
  have hgp : ((M ++ [(X.length, Y.length)]).map prE)[q]? = some [.int .i64 (p.1 : Int), .int .i64 (p.2 : Int)] := by rw [List.getElem?_map, List.getElem?_append_left hlt, hp]; rfl
  rw [zEb, zA9 e1] at hgo
  generalize hME : (M ++ [(X.length, Y.length)]).map prE = ME at *
  refine WC.rowSome (a := a) (es := ME) zhs (by omega) ?_
  rintro a0 rfl
  refine WC.rowSome (a := ax) (es := strs X) zhs (by omega) ?_
  rintro x0 rfl
  refine stg ?_; intros; rename_i bp
  refine zA func69 ?_ (hs := yC (l := Y) zhs ⟨h2, by omega⟩ (by omega) (by omega))
  rintro v m9 H9 ⟨rfl, rfl, rfl⟩
  have hp1 := zFc (jn Y k (p.2))
  have hp2 := zCY (jn X i (p.1))
  generalize jn Y k (p.2) = tY at *
  try (refine stg ?_; intros)
  refine WL.heap (H' := .row ac cc 165 3 (L.map Stp.cs) :: (.bl bp [.int .i64 ((p.1 : Nat) : Int), .int .i64 ((p.2 : Nat) : Int)] 134 :: .row (some x0) cx 9 1 (strs X) :: .row ay cy 9 1 (strs Y) :: .row (some a0) cp 134 2 ME :: H)) zpk ?_
  refine zA func124 ?_ (hs := kW (L := L) (x := ⟨0, [], tY⟩) (by omega) _ _ _)
  rintro v m9 H9 ⟨rfl, ac1, cc1, rfl, rfl⟩
  rw [zFC]
  obtain ⟨L1, hL1⟩ : ∃ L1, L1 = L ++ putT tY := ⟨_, rfl⟩
  have hl1 := congrArg List.length hL1
  rw [List.length_append] at hl1
  rw [← hL1]
  try (refine stg ?_; intros)
  refine zA func69 ?_ (hs := yC (l := X) zhs ⟨h1, by omega⟩ (by omega) (by omega))
  rintro v m9 H9 ⟨rfl, rfl, rfl⟩
  generalize jn X i (p.1) = tX at *
  try (refine stg ?_; intros)
  refine WL.heap (H' := .row ac1 cc1 165 3 (L1.map Stp.cs) :: (.bl bp [.int .i64 ((p.1 : Nat) : Int), .int .i64 ((p.2 : Nat) : Int)] 134 :: .row (some x0) cx 9 1 (strs X) :: .row ay cy 9 1 (strs Y) :: .row (some a0) cp 134 2 ME :: H)) zpk ?_
  refine zA func124 ?_ (hs := kW (L := L1) (x := ⟨0, tX, []⟩) (by omega) _ _ _)
  rintro v m9 H9 ⟨rfl, ac2, cc2, rfl, rfl⟩
  rw [zEx]
  obtain ⟨L2, hL2⟩ : ∃ L2, L2 = L1 ++ dropT tX := ⟨_, rfl⟩
  have hl2 := congrArg List.length hL2
  rw [List.length_append] at hl2
  rw [← hL2]
  rw [show L ++ (putT tY ++ (dropT tX ++ (keepT t ++ chGo X Y (M.drop (q + 1)) (p.1 + 1) (p.2 + 1)))) = (L2 ++ keepT t) ++ chGo X Y (M.drop (q + 1)) (p.1 + 1) (p.2 + 1) by rw [hL2, hL1]; simp] at hgo
  clear hL2 hL1
  try (refine stg ?_; intros)
  refine WL.heap (H' := .row ac2 cc2 165 3 (L2.map Stp.cs) :: (.bl bp [.int .i64 (p.1 : Int), .int .i64 (p.2 : Int)] 134 :: .row (some x0) cx 9 1 (strs X) :: .row ay cy 9 1 (strs Y) :: .row (some a0) cp 134 2 ME :: H)) zpk ?_
  refine zA func124 ?_ (hs := kW (L := L2) (x := ⟨(t.length : Int), [], []⟩) (by omega) _ _ _)
  rintro v m9 H9 ⟨rfl, ac3, cc3, rfl, rfl⟩
  rw [zHF htn]
  have hl3 : (L2 ++ keepT t).length = L2.length + 1 := by unfold keepT; simp
  generalize L2 ++ keepT t = L3 at *
  try (refine stg ?_; intros)
  subst hME
  rw [show (p.1 : Int) + 1 = ((p.1 + 1 : Nat) : Int) by omega, show (p.2 : Int) + 1 = ((p.2 + 1 : Nat) : Int) by omega]
  refine nxz (M.length + 1 - (q + 1)) ⟨q + 1, p.1 + 1, p.2 + 1, L3, ac3, cc3, rfl, rfl, rfl, rfl, rfl, ?_, ?_, ?_⟩
  ·omega
  ·exact .inl ⟨by omega, h6, hgo⟩
  ·omega
 ·by_cases hqe : q = M.length
  ·obtain ⟨_, hP, hgo⟩ : q ≤ M.length ∧ PrOk X Y i k (M.drop q) X.length Y.length ∧ L ++ chGo X Y (M.drop q) i k = F := by
    rcases hgo with h | h
    ·exact h
    ·omega
   have hle := hP.le
   have hd : M.drop q = [] := List.drop_of_length_le (by omega)
   rw [hd, show chGo X Y [] i k = putT (jn Y k Y.length) ++ dropT (jn X i X.length) from by unfold chGo; rfl] at hgo
   have hgp : ((M ++ [(X.length, Y.length)]).map prE)[q]? = some [.int .i64 (X.length : Int), .int .i64 (Y.length : Int)] := by rw [List.getElem?_map, hqe, List.getElem?_concat_length]; rfl
   generalize hME : (M ++ [(X.length, Y.length)]).map prE = ME at *
   refine WC.rowSome (a := a) (es := ME) zhs (by omega) ?_
   rintro a0 rfl
   refine stg ?_; intros; rename_i bp
   refine zA func69 ?_ (hs := yC (l := Y) zhs ⟨hle.2, by omega⟩ (by omega) (by omega))
   rintro v m9 H9 ⟨rfl, rfl, rfl⟩
   have hp1 := zFc (jn Y k (Y.length))
   have hp2 := zCY (jn X i (X.length))
   generalize jn Y k (Y.length) = tY at *
   try (refine stg ?_; intros)
   refine WL.heap (H' := .row ac cc 165 3 (L.map Stp.cs) :: (.bl bp [.int .i64 ((X.length : Nat) : Int), .int .i64 ((Y.length : Nat) : Int)] 134 :: .row ax cx 9 1 (strs X) :: .row ay cy 9 1 (strs Y) :: .row (some a0) cp 134 2 ME :: H)) zpk ?_
   refine zA func124 ?_ (hs := kW (L := L) (x := ⟨0, [], tY⟩) (by omega) _ _ _)
   rintro v m9 H9 ⟨rfl, ac1, cc1, rfl, rfl⟩
   rw [zFC]
   obtain ⟨L1, hL1⟩ : ∃ L1, L1 = L ++ putT tY := ⟨_, rfl⟩
   have hl1 := congrArg List.length hL1
   rw [List.length_append] at hl1
   rw [← hL1]
   try (refine stg ?_; intros)
   refine zA func69 ?_ (hs := yC (l := X) zhs ⟨hle.1, by omega⟩ (by omega) (by omega))
   rintro v m9 H9 ⟨rfl, rfl, rfl⟩
   generalize jn X i (X.length) = tX at *
   try (refine stg ?_; intros)
   refine WL.heap (H' := .row ac1 cc1 165 3 (L1.map Stp.cs) :: (.bl bp [.int .i64 ((X.length : Nat) : Int), .int .i64 ((Y.length : Nat) : Int)] 134 :: .row ax cx 9 1 (strs X) :: .row ay cy 9 1 (strs Y) :: .row (some a0) cp 134 2 ME :: H)) zpk ?_
   refine zA func124 ?_ (hs := kW (L := L1) (x := ⟨0, tX, []⟩) (by omega) _ _ _)
   rintro v m9 H9 ⟨rfl, ac2, cc2, rfl, rfl⟩
   rw [zEx]
   obtain ⟨L2, hL2⟩ : ∃ L2, L2 = L1 ++ dropT tX := ⟨_, rfl⟩
   have hl2 := congrArg List.length hL2
   rw [List.length_append] at hl2
   rw [← hL2]
   rw [← List.append_assoc, ← hL1, ← hL2] at hgo
   clear hL2 hL1
   try (refine stg ?_; intros)
   subst hME
   rw [show (X.length : Int) + 1 = ((X.length + 1 : Nat) : Int) by omega, show (Y.length : Int) + 1 = ((Y.length + 1 : Nat) : Int) by omega]
   refine nxz (M.length + 1 - (q + 1)) ⟨q + 1, X.length + 1, Y.length + 1, L2, ac2, cc2, rfl, rfl, rfl, rfl, rfl, ?_, ?_, ?_⟩
   ·omega
   ·exact .inr ⟨by omega, hgo⟩
   ·omega
  ·obtain ⟨hq2, rfl⟩ : q = M.length + 1 ∧ L = F := by
    rcases hgo with h | h
    ·omega
    ·exact h
   have hfin := hK ac cc
   try (refine stg ?_; intros)
   exact WQ.weak zsb zpk hfin
end ZP
namespace ZP
open Go Go.Eng
theorem zDG {b : Nat} {c : Option Addr} {cp : Nat} (B : Bld) (hB : B.l.length ≤ 1000000000000) (w0 : World) (m : Mem) (H : SHeap) :
  Does Tryz.prog 170 #[.pp b] w0 m (.bl b [.slice c B.l.length cp, str B.p, str B.d] 269 :: .row c cp 165 3 (B.l.map Stp.cs) :: H)
   (fun v m' H' => v = .tuple #[] ∧ m' = m ∧ ∃ c' cp', H' = .bl b [.slice c' B.close.l.length cp', str [], str []] 269 :: .row c' cp' 165 3 (B.close.l.map Stp.cs) :: H) := by
 refine Does.of_body func170 rfl ntmps170 rfl ?_
 have hml : (B.l.map Stp.cs).length = B.l.length := by simp
 by_cases hp : B.p = [] <;> by_cases hd : B.d = []
 ·try (refine st ?_; intros)
  have e : B.close.l = B.l := by simp [Bld.close, hp, hd]
  rw [hp, hd]
  exact q_nz (H0 := .bl b [.slice c B.l.length cp, str [], str []] 269 :: .row c cp 165 3 (B.l.map Stp.cs) :: H) ⟨rfl, rfl, c, cp, by rw [e]⟩
 ·try (refine st ?_; intros)
  refine wdw 14 ([.bl b [.slice c B.l.length cp, str B.p, str B.d] 269]) ?_
  refine cm0 ?_
  refine wa1 10 ?_
  refine st ?_; intros; rename_i q0
  refine waz [] zml ?_
  refine wa1 11 ?_
  refine st ?_; intros; rename_i c2 cp2
  refine waz [] zml ?_
  refine cm0 ?_
  refine wdz ?_
  try (refine st ?_; intros)
  rw [hml, hp]
  have e : B.close.l = B.l ++ [⟨0, B.d, []⟩] := by simp [Bld.close, hp, hd]
  exact q_nz (H0 := .bl b [.slice c2 (B.l.length + 1) cp2, str [], str []] 269 :: .row c2 cp2 165 3 (B.l.map Stp.cs ++ [[.int .i64 0, str B.d, str []]]) :: H) ⟨rfl, rfl, c2, cp2, by rw [e]; simp [Stp.cs]⟩
 ·try (refine st ?_; intros)
  refine wdw 14 ([.bl b [.slice c B.l.length cp, str B.p, str B.d] 269]) ?_
  refine cm0 ?_
  refine wa1 10 ?_
  refine st ?_; intros; rename_i q0
  refine waz [] zml ?_
  refine wa1 11 ?_
  refine st ?_; intros; rename_i c2 cp2
  refine waz [] zml ?_
  refine cm0 ?_
  refine wdz ?_
  try (refine st ?_; intros)
  rw [hml, hd]
  have e : B.close.l = B.l ++ [⟨0, [], B.p⟩] := by simp [Bld.close, hp, hd]
  exact q_nz (H0 := .bl b [.slice c2 (B.l.length + 1) cp2, str [], str []] 269 :: .row c2 cp2 165 3 (B.l.map Stp.cs ++ [[.int .i64 0, str [], str B.p]]) :: H) ⟨rfl, rfl, c2, cp2, by rw [e]; simp [Stp.cs]⟩
 ·have hml1 : (B.l.map Stp.cs ++ [[.int .i64 0, str [], str B.p]]).length = B.l.length + 1 := by simp
  try (refine st ?_; intros)
  refine wdw 14 ([.bl b [.slice c B.l.length cp, str B.p, str B.d] 269]) ?_
  refine cm0 ?_
  refine wa1 10 ?_
  refine st ?_; intros; rename_i q0
  refine waz [] zml ?_
  refine wa1 11 ?_
  refine st ?_; intros; rename_i c2 cp2
  refine waz [] zml ?_
  refine cm0 ?_
  refine wdz ?_
  try (refine st ?_; intros)
  rw [hml]
  refine wdw 14 ([.bl b [.slice c2 (B.l.length + 1) cp2, str B.p, str B.d] 269]) ?_
  refine cm0 ?_
  refine wa1 10 ?_
  refine st ?_; intros; rename_i q0
  refine waz [] zml ?_
  refine wa1 11 ?_
  refine st ?_; intros; rename_i c3 cp3
  refine waz [] zml ?_
  refine cm0 ?_
  refine wdz ?_
  try (refine st ?_; intros)
  rw [hml1]
  have e : B.close.l = B.l ++ [⟨0, [], B.p⟩] ++ [⟨0, B.d, []⟩] := by simp [Bld.close, hp, hd]
  exact q_nz (H0 := .bl b [.slice c3 (B.l.length + 1 + 1) cp3, str [], str []] 269 :: .row c3 cp3 165 3 (B.l.map Stp.cs ++ [[.int .i64 0, str [], str B.p]] ++ [[.int .i64 0, str B.d, str []]]) :: H) ⟨rfl, rfl, c3, cp3, by rw [e]; simp [Stp.cs]⟩
end ZP
namespace ZP
open Go Go.Eng
theorem zHG {b : Nat} {c : Option Addr} {cp : Nat} (B : Bld) (n : Nat) (hn : n ≤ 100000000000) (hB : BFit 100000000000 B) (w0 : World) (m : Mem) (H : SHeap) :
  Does Tryz.prog 169 #[.pp b, .int .i64 (n : Int)] w0 m (.bl b [.slice c B.l.length cp, str B.p, str B.d] 269 :: .row c cp 165 3 (B.l.map Stp.cs) :: H)
   (fun v m' H' => v = .tuple #[] ∧ m' = m ∧ ∃ c' cp', H' = .bl b [.slice c' (B.keep n).l.length cp', str (B.keep n).p, str (B.keep n).d] 269 :: .row c' cp' 165 3 ((B.keep n).l.map Stp.cs) :: H) := by
 refine Does.of_body func169 rfl ntmps169 rfl ?_
 have hlen := hB.len
 by_cases h0 : n = 0
 ·subst h0
  try (refine st ?_; intros)
  exact q_fz ⟨rfl, rfl, c, cp, rfl⟩
 ·try (refine st ?_; intros)
  refine zA func170 ?_ (hs := zDG B (by omega) _ _ _)
  rintro v m1 H1 ⟨rfl, rfl, c1, cp1, rfl⟩
  have hkeep : B.keep n = ⟨yV B.close.l n, [], []⟩ := by unfold Bld.keep; rw [if_neg (by omega)]
  have hc := hB.close
  rw [hkeep]
  have hcl := hc.len
  have hck := hc.k
  generalize B.close.l = L at *
  have hml : (L.map Stp.cs).length = L.length := by simp
  rcases zCc L with hL | ⟨ys, s, hL⟩
  ·have hl0 : L.length = 0 := by rw [hL]; rfl
   refine st ?_; intros; rename_i x2 c2 cp2
   rw [hml]
   have e : yV L n = L ++ [⟨n, [], []⟩] := by rw [hL]; rfl
   exact q_nz (H0 := .bl b [.slice c2 (L.length + 1) cp2, str [], str []] 269 :: .row c2 cp2 165 3 (L.map Stp.cs ++ [[.int .i64 n, str [], str []]]) :: H) ⟨rfl, rfl, c2, cp2, by rw [e]; simp [Stp.cs]⟩
  ·have hl1 : L.length = ys.length + 1 := by rw [hL]; simp
   have hget : (L.map Stp.cs)[L.length - 1]? = some s.cs := by rw [hL]; simp
   have hsk := hck s (by rw [hL]; simp)
   refine WL.rowSome (a := c1) zhs (by omega) ?_
   rintro c0 rfl
   by_cases hs : 0 < s.k
   ·try (refine st ?_; intros)
    have e : (yV L n).length = L.length ∧ (yV L n).map Stp.cs = (L.map Stp.cs).set (L.length - 1) [.int .i64 (s.k + n), str s.d, str s.p] := by
     rw [hL]; constructor <;> simp [yV, hs, Stp.cs]
    exact q_fz (H0 := .bl b [.slice (some c0) L.length cp1, str [], str []] 269 :: .row (some c0) cp1 165 3 ((L.map Stp.cs).set (L.length - 1) [.int .i64 (s.k + n), str s.d, str s.p]) :: H) ⟨rfl, rfl, some c0, cp1, by rw [e.1, e.2]⟩
   ·refine st ?_; intros; rename_i x2 c2 cp2
    rw [hml]
    have e : yV L n = L ++ [⟨n, [], []⟩] := by rw [hL]; simp [yV, hs]
    exact q_nz (H0 := .bl b [.slice c2 (L.length + 1) cp2, str [], str []] 269 :: .row c2 cp2 165 3 (L.map Stp.cs ++ [[.int .i64 n, str [], str []]]) :: H) ⟨rfl, rfl, c2, cp2, by rw [e]; simp [Stp.cs]⟩
end ZP
namespace ZP
open Go Go.Eng
attribute [local irreducible] xQ zT
theorem zDB {a : Option Addr} {cap : Nat} {l : List Stp} (hf : Fit l) (w0 : World) (m : Mem) (H : SHeap) (hr : RowR w0 m H 3 a (l.map Stp.cs)) :
  Does Tryz.prog 137 #[.slice a l.length cap] w0 m H (Gives (szR (zT l)) m H) := by
 refine Does.of_body func137 rfl ntmps137 rfl ?_
 have hln : (l.map Stp.cs).length = l.length := by simp
 have hlen := hf.len
 try (refine st ?_; intros)
 refine lpz (fun j r ds m' H' => ∃ (i : _) (f : Int) (t : Int), j = l.length - i ∧ r = [(7, .int .i64 (i : Int)), (0, .slice a l.length cap), (5, .int .i64 f), (6, .int .i64 t)] ∧ ds = [] ∧ m = m' ∧ H' = H ∧ (i ≤ l.length) ∧ (0 ≤ f ∧ f ≤ 65536 ∧ 0 ≤ t ∧ t ≤ 65536) ∧ (xQ (l.drop i) f t = zT l) ∧ (RowR w0 m H 3 a (l.map Stp.cs))) (l.length - (0)) ⟨0, 0, 0, rfl, rfl, rfl, rfl, rfl, by omega, by omega, by rw [zT]; rfl, hr⟩ ?_
 rintro j r ds m' H' ⟨i, f, t, rfl, rfl, rfl, rfl, rfl, hi, hn, hs, hr⟩
 generalize H' = H at *
 by_cases hlt : i < l.length
 ·obtain ⟨x, hx, hget, htk, hmem, hdr⟩ := zBj (f := Stp.cs) hlt
  have hk := hf.k x hmem
  have hd := hf.d x hmem
  have hp := hf.p x hmem
  rw [hdr] at hs
  refine WC.rSome hr (by omega) ?_
  rintro a0 rfl
  have hdl : x.d = [] → x.d.length = 0 := fun h => by rw [h]; rfl
  have hpl : x.p = [] → x.p.length = 0 := fun h => by rw [h]; rfl
  by_cases h2 : x.d = [] <;> by_cases h3 : x.p = [] <;> rcases (show x.k < 0 ∨ x.k = 0 ∨ 0 < x.k by omega) with h1 | h1 | h1
  ·rw [zW (fun h => by rcases h.1 with g | g | g <;> omega)] at hs
   try (refine st ?_; intros)
   exact q_fz (Gives.mk (by rw [← hs]; try rfl))
  ·rw [zW (fun h => by simp [yL, h1, h2, h3] at h)] at hs
   have hb : (!(!dcd (x.p = []))) = true := by rw [zE h3]; rfl
   try (refine st ?_; intros)
   exact q_fz (Gives.mk (by rw [← hs]; try rfl))
  ·have h2' := hdl h2
   have h3' := hpl h3
   by_cases h6 : 65536 < x.k
   ·rw [zW (by omega)] at hs
    try (refine st ?_; intros)
    exact q_fz (Gives.mk (by rw [← hs]; try rfl))
   ·have hok : yL x := .inl ⟨by omega, h2, h3⟩
    by_cases h4 : f + x.k + (x.d.length : Int) ≤ 65536
    ·by_cases h7 : t + x.k + (x.p.length : Int) ≤ 65536
     ·rw [wI hok (by omega) (by omega) (by omega)] at hs
      try (refine st ?_; intros)
      refine nxz (l.length - (i + 1)) ⟨i + 1, _, _, rfl, rfl, rfl, rfl, rfl, ?_, ?_, ?_, ?_⟩
      ·omega
      ·omega
      ·exact hs
      ·assumption
     ·rw [zW (by omega)] at hs
      try (refine st ?_; intros)
      exact q_fz (Gives.mk (by rw [← hs]; try rfl))
    ·rw [zW (by omega)] at hs
     try (refine st ?_; intros)
     exact q_fz (Gives.mk (by rw [← hs]; try rfl))
  ·rw [zW (fun h => by rcases h.1 with g | g | g <;> omega)] at hs
   try (refine st ?_; intros)
   exact q_fz (Gives.mk (by rw [← hs]; try rfl))
  ·have hok : yL x := .inr (.inr ⟨h1, h2, h3⟩)
   have h2' := hdl h2
   have hb : (!(!dcd (x.p = []))) = false := by rw [zH h3]; rfl
   by_cases h4 : t + x.k + (x.p.length : Int) ≤ 65536
   ·rw [wI hok (by omega) (by omega) (by omega)] at hs
    try (refine st ?_; intros)
    refine nxz (l.length - (i + 1)) ⟨i + 1, _, _, rfl, rfl, rfl, rfl, rfl, ?_, ?_, ?_, ?_⟩
    ·omega
    ·omega
    ·exact hs
    ·assumption
   ·rw [zW (by omega)] at hs
    try (refine st ?_; intros)
    exact q_fz (Gives.mk (by rw [← hs]; try rfl))
  ·rw [zW (fun h => by rcases h.1 with g | g | g <;> first | omega | exact h3 g.2.2)] at hs
   try (refine st ?_; intros)
   exact q_fz (Gives.mk (by rw [← hs]; try rfl))
  ·rw [zW (fun h => by rcases h.1 with g | g | g <;> omega)] at hs
   try (refine st ?_; intros)
   exact q_fz (Gives.mk (by rw [← hs]; try rfl))
  ·have hok : yL x := .inr (.inl ⟨h1, h2, h3⟩)
   have h3' := hpl h3
   by_cases h4 : f + x.k + (x.d.length : Int) ≤ 65536
   ·rw [wI hok (by omega) (by omega) (by omega)] at hs
    try (refine st ?_; intros)
    refine nxz (l.length - (i + 1)) ⟨i + 1, _, _, rfl, rfl, rfl, rfl, rfl, ?_, ?_, ?_, ?_⟩
    ·omega
    ·omega
    ·exact hs
    ·assumption
   ·rw [zW (by omega)] at hs
    try (refine st ?_; intros)
    exact q_fz (Gives.mk (by rw [← hs]; try rfl))
  all_goals
   rw [zW (fun h => by rcases h.1 with g | g | g <;> first | omega | exact h2 g.2.1 | exact h3 g.2.2)] at hs
   try (refine st ?_; intros)
   exact q_fz (Gives.mk (by rw [← hs]; try rfl))
 ·obtain rfl : i = l.length := by omega
  rw [List.drop_length, xQ] at hs
  try (refine st ?_; intros)
  exact q_fz (Gives.mk (by rw [← hs]; try rfl))
end ZP
namespace Go.Eng
open Go
def sV (s : List UInt8) : List Value := [str s]
def oV (b : Bool) : List Value := [.bool b]
def uV (b : UInt8) : List Value := [.int .u8 (b.toNat : Int)]
theorem zFi {N : Nat} {g : Gs} (h : atOf g ≤ N) : ((y7 N g).map sV).length = N + 1 ∧ ((yU N g).map oV).length = N ∧ ((yT N g).map uV).length = N := by
 have h1 : gapAt g ≤ atOf g := by unfold atOf; omega
 have hl := (jJ g.done).2
 refine ⟨?_, ?_, ?_⟩
 ·rw [List.length_map, y7, zAx]
  rw [List.length_append, List.length_singleton, hl]
  unfold gapAt at h1; omega
 ·rw [List.length_map, yU, zAx]; rw [wK]; exact h
 ·rw [List.length_map, yT, zAx]; rw [uI]; exact h
theorem zGp (N : Nat) : (y7 N Gs.start).map sV = List.replicate (N + 1) [str []] ∧ (yU N Gs.start).map oV = List.replicate N [.bool false] ∧ (yT N Gs.start).map uV = List.replicate N [.int .u8 0] := by
 refine ⟨?_, ?_, ?_⟩
 ·simp [y7, pad, Gs.start, sV, List.replicate_succ]
 ·simp [yU, pad, Gs.start, oV, z6]
 ·simp [yT, pad, Gs.start, uV, xE]
theorem zER (g : Gs) : g.put [] = g := by cases g; simp [Gs.put]
def Gs.drops (g : Gs) (s : List UInt8) : Gs := ⟨g.done, ⟨g.cur.p, g.cur.d ++ s⟩⟩
theorem zBC (g : Gs) : g.drops [] = g := by cases g; simp [Gs.drops]
theorem zGF (g : Gs) (s : List UInt8) (b : UInt8) : g.drops (s ++ [b]) = (g.drops s).byte b := by simp [Gs.drops, Gs.byte]
theorem zJN (g : Gs) (s : List UInt8) : atOf (g.drops s) = atOf g + s.length ∧ gapAt (g.drops s) = gapAt g := by
 simp [atOf, gapAt, Gs.drops]; omega
theorem zKL (g : Gs) (s : List UInt8) : atOf (g.put s) = atOf g ∧ gapAt (g.put s) = gapAt g := ⟨rfl, rfl⟩
theorem zAs {g : Gs} {x : Stp} (h : yL x) : g.step x = if 0 < x.k then ((g.put x.p).drops x.d).keeps x.k.toNat else (g.put x.p).drops x.d := by
 obtain ⟨k, d, p⟩ := x
 rcases h with ⟨h1, h2, h3⟩ | ⟨h1, h2, h3⟩ | ⟨h1, h2, h3⟩
 ·simp only at h1 h2 h3
  subst h2; subst h3
  simp only [h1, if_true, zER, zBC]
  simp [Gs.step, h1, Gs.keeps]
 ·simp only at h1 h2 h3
  subst h1; subst h3
  simp [Gs.step, h2, zER, Gs.drops]
 ·simp only at h1 h2 h3
  subst h1; subst h2
  simp [Gs.step, zBC, Gs.put]
theorem zK0 {l : List UInt8} {k : Nat} (h : k < l.length) : gb l k = (l[k]).toNat := by unfold gb; rw [List.getD_eq_getElem?_getD, List.getElem?_eq_getElem h]; rfl
theorem zFs : ∀ l : List Atm, toA l ≤ l.length
 | [] => Nat.le_refl _
 | .k :: l => by have := zFs l; simp only [toA, List.length_cons]; omega
 | .d _ :: l => by have := zFs l; simp only [toA, List.length_cons]; omega
 | .p _ :: l => by have := zFs l; simp only [toA, List.length_cons]; omega
theorem zKq {l : List Stp} (h : ∀ s ∈ l, yL s) (i : Nat) : (zO (l.take i)).cur.p.length ≤ (zG l).length := by
 have h1 := (kY (l.take i) (fun s hs => h s (List.mem_of_mem_take hs))).2
 have h2 := zFs (zG (l.take i))
 have h3 : (zO (l.take i)).cur.p.length ≤ toA (nfOf (zO (l.take i))) := by
  unfold nfOf gapA; rw [x7, x7, zJ6]; omega
 have e : zG l = zG (l.take i) ++ zG (l.drop i) := by rw [← zV, List.take_append_drop]
 rw [e, List.length_append]; omega
theorem zDV {l : List Stp} {i : Nat} {x : Stp} (h : l.take (i + 1) = l.take i ++ [x]) : zO (l.take (i + 1)) = (zO (l.take i)).step x := by
 rw [h, zO, List.foldl_append]; rfl
end Go.Eng
namespace ZP
open Go Go.Eng
attribute [local irreducible] xQ zT y7 yU yT Gs.put Gs.drops Gs.keeps Gs.byte atOf gapAt
namespace ZE11a
theorem zal {G G' : Prop} (next : G') (h : Bx G' → G := by intro zzn; (first | (refine iF 137 rfl ?_; refine zU func137 ?_ (hs := zDB (by assumption) _ _ _ (by repeat (first | assumption | apply RowR.more))))); (repeat revert zzf); exact zzn.out) : G := h ⟨next⟩
end ZE11a
open ZE11a in
theorem zKi {a : Option Addr} {cap : Nat} {l : List Stp} {f t : Int} (hf : Fit l) (hs : zT l = some (f, t)) (w0 : World) (m : Mem) (H : SHeap) (hr : RowR w0 m H 3 a (l.map Stp.cs)) :
  Does Tryz.prog 126 #[.slice a l.length cap] w0 m H (fun v m' H' => m' = m ∧ ∃ q2 q4 q6, v = .agg #[.slice (some ⟨q2, 0, none⟩) (wA (zO l)).length (wA (zO l)).length, .slice (some ⟨q4, 0, none⟩) (z6 (zO l)).length (z6 (zO l)).length, .slice (some ⟨q6, 0, none⟩) (xE (zO l)).length (xE (zO l)).length] ∧
   H' = .row (some ⟨q2, 0, none⟩) (wA (zO l)).length 9 1 ((wA (zO l)).map sV) :: .row (some ⟨q4, 0, none⟩) (z6 (zO l)).length 4 1 ((z6 (zO l)).map oV) :: .row (some ⟨q6, 0, none⟩) (xE (zO l)).length 5 1 ((xE (zO l)).map uV) :: H) := by
 refine Does.of_body func126 rfl ntmps126 rfl ?_
 have hln : (l.map Stp.cs).length = l.length := by simp
 have hlen := hf.len
 have e2 : szR (zT l) = .tuple #[.int .i64 f, .int .i64 t, .bool true] := by rw [hs]; rfl
 obtain ⟨hok, hal, hpl, hfr, _, g1, g2, _, _⟩ := sized hs
 obtain ⟨N, rfl⟩ : ∃ N : Nat, f = (N : Int) := ⟨f.toNat, by omega⟩
 refine stg ?_; intros; rename_i r0
 rw [e2]
 try (refine stg ?_; intros)
 refine WC.join (fun r' ds' m' H' => ∃ q2 q4 q6 b, r' = [(6, .pp b), (2, .pp r0), (0, .slice a l.length cap)] ∧ ds' = [] ∧ m = m' ∧ H' = .bl b [.slice (some ⟨q2, 0, none⟩) (N + 1) (N + 1), .slice (some ⟨q4, 0, none⟩) N N, .slice (some ⟨q6, 0, none⟩) N N] 214 :: .bl r0 [.slice none 0 0, .slice none 0 0, .slice none 0 0] 214 :: .row (some ⟨q2, 0, none⟩) (N + 1) 9 1 (List.replicate (N + 1) [str []]) :: .row (some ⟨q4, 0, none⟩) N 4 1 (List.replicate N [.bool false]) :: .row (some ⟨q6, 0, none⟩) N 5 1 (List.replicate N [.int .u8 0]) :: H) ?_ ?_
 ·refine wdw 9 ([]) ?_
  refine cmg ?_
  iterate 4
   all_goals (first | refine WE.acts [2] (by decide +kernel) (all_cons ?_ (wW)) | refine WE.acts [4] (by decide +kernel) (all_cons ?_ (wW)) | refine WE.acts [6] (by decide +kernel) (all_cons ?_ (wW)) | refine WE.acts [8] (by decide +kernel) (all_cons ?_ (wW)) | refine WE.acts [2, 4] (by decide +kernel) (all_cons ?_ (all_cons ?_ (wW))) | refine WE.acts [2, 6] (by decide +kernel) (all_cons ?_ (all_cons ?_ (wW))) | refine WE.acts [2, 8] (by decide +kernel) (all_cons ?_ (all_cons ?_ (wW))) | refine WE.acts [4, 6] (by decide +kernel) (all_cons ?_ (all_cons ?_ (wW))) | refine WE.acts [4, 8] (by decide +kernel) (all_cons ?_ (all_cons ?_ (wW))) | refine WE.acts [6, 8] (by decide +kernel) (all_cons ?_ (all_cons ?_ (wW))) | refine WE.acts [2, 4, 6] (by decide +kernel) (all_cons ?_ (all_cons ?_ (all_cons ?_ (wW)))) | refine WE.acts [2, 4, 8] (by decide +kernel) (all_cons ?_ (all_cons ?_ (all_cons ?_ (wW)))) | refine WE.acts [2, 6, 8] (by decide +kernel) (all_cons ?_ (all_cons ?_ (all_cons ?_ (wW)))) | refine WE.acts [4, 6, 8] (by decide +kernel) (all_cons ?_ (all_cons ?_ (all_cons ?_ (wW)))) | refine WE.acts [2, 4, 6, 8] (by decide +kernel) (all_cons ?_ (all_cons ?_ (all_cons ?_ (all_cons ?_ (wW))))))
   all_goals (refine Acts.mk rfl rfl (fun c h => by cases h) ?_)
   all_goals (first | (refine WL.makeRow (k:=N + 1) (sz:=1) (by':=16) (zs:=[str []]) rfl rfl (by omega) (by omega) rfl rfl rfl rfl rfl rfl (by decide) (by omega) (by omega) rfl ?_; intro q2; refine WL.nil ?_; refine waz [.row (some ⟨q2, 0, none⟩) (N + 1) 9 1 (List.replicate (N + 1) [str []])] zml ?_) | (refine WL.makeRow (k:=N) (sz:=1) (by':=1) (zs:=[.bool false]) rfl rfl rfl rfl rfl rfl rfl rfl rfl rfl (by decide) (by omega) (by omega) rfl ?_; intro q4; refine WL.nil ?_; refine waz [.row (some ⟨q4, 0, none⟩) N 4 1 (List.replicate N [.bool false])] zml ?_) | (refine WL.makeRow (k:=N) (sz:=1) (by':=1) (zs:=[.int .u8 0]) rfl rfl rfl rfl rfl rfl rfl rfl rfl rfl (by decide) (by omega) (by omega) rfl ?_; intro q6; refine WL.nil ?_; refine waz [.row (some ⟨q6, 0, none⟩) N 5 1 (List.replicate N [.int .u8 0])] zml ?_) | (refine WL.alloc (cs := [.slice none 0 0, .slice none 0 0, .slice none 0 0]) rfl rfl rfl ?_; intro b; refine WL.nil ?_; refine waz [.bl b [.slice none 0 0, .slice none 0 0, .slice none 0 0] 214] zml ?_))
   all_goals (try (refine wc1 7 ?_))
  all_goals (refine wdz ?_; (try (refine stg ?_; intros)); exact WQ.join ⟨q2, q4, q6, b, rfl, rfl, rfl, rfl⟩ zsb zpk)
 rintro _ _ _ _ ⟨q2, q4, q6, b, rfl, rfl, rfl, rfl⟩
 obtain ⟨s1, s2, s3⟩ := zGp N
 rw [← s1, ← s2, ← s3]
 try (refine stg ?_; intros)
 have hg0 : atOf Gs.start = 0 ∧ gapAt Gs.start = 0 := by unfold atOf gapAt; exact ⟨rfl, rfl⟩
 refine lpz (fun j r ds m' H' => ∃ (i : Nat) (g : Gs) (ga : Nat) (p : Nat), j = l.length - i ∧ r = [(9, .int .i64 (i : Int)), (8, .int .i64 (ga : Int)), (7, .int .i64 (p : Int)), (6, .pp b), (2, .pp r0), (0, .slice a l.length cap)] ∧ ds = [] ∧ m = m' ∧ H' = .bl b [.slice (some ⟨q2, 0, none⟩) (N + 1) (N + 1), .slice (some ⟨q4, 0, none⟩) N N, .slice (some ⟨q6, 0, none⟩) N N] 214 :: .bl r0 [.slice none 0 0, .slice none 0 0, .slice none 0 0] 214 :: .row (some ⟨q2, 0, none⟩) (N + 1) 9 1 ((y7 N g).map sV) :: .row (some ⟨q4, 0, none⟩) N 4 1 ((yU N g).map oV) :: .row (some ⟨q6, 0, none⟩) N 5 1 ((yT N g).map uV) :: H ∧ (i ≤ l.length) ∧ (ga = gapAt g) ∧ (p = atOf g) ∧ ((l.drop i).foldl Gs.step g = zO l) ∧ (atOf g + yO (zG (l.drop i)) = N) ∧ (g = zO (l.take i))) (l.length - (0)) ⟨0, Gs.start, 0, 0, rfl, rfl, rfl, rfl, rfl, by omega, hg0.2.symm, hg0.1.symm, rfl, by rw [List.drop_zero]; omega, by rw [List.take_zero]; rfl⟩ ?_
 rintro j r ds m' H' ⟨i, g, ga, p, rfl, rfl, rfl, rfl, rfl, hi, hga0, hp0, hg, hN, hgr⟩
 subst hga0; subst hp0
 have hat : atOf g ≤ N := by omega
 obtain ⟨p1, p2, p3⟩ := zFi hat
 have hga : gapAt g ≤ atOf g := by unfold atOf; omega
 by_cases hlt : i < l.length
 ·obtain ⟨x, hx, hget, htk, hmem, hdr⟩ := zBj (f := Stp.cs) hlt
  have hxok := hok x hmem
  rw [hdr, List.foldl_cons, zAs hxok] at hg
  rw [hdr, w7, yD, zBF] at hN
  have hxp := hf.p x hmem
  have hxd := hf.d x hmem
  have hxk := hf.k x hmem
  have hr1 := ((((hr.more (i := .row (some ⟨q6, 0, none⟩) N 5 1 ((yT N g).map uV))).more (i := .row (some ⟨q4, 0, none⟩) N 4 1 ((yU N g).map oV))).more (i := .row (some ⟨q2, 0, none⟩) (N + 1) 9 1 ((y7 N g).map sV))).more (i := .bl r0 [.slice none 0 0, .slice none 0 0, .slice none 0 0] 214)).more (i := .bl b [.slice (some ⟨q2, 0, none⟩) (N + 1) (N + 1), .slice (some ⟨q4, 0, none⟩) N N, .slice (some ⟨q6, 0, none⟩) N N] 214)
  refine WC.rSome hr1 (by omega) ?_
  rintro a0 rfl
  obtain ⟨u1, u2⟩ := zJw (N := N) (g := g) (s := x.p) hat
  obtain ⟨u3, u4⟩ := zKL g x.p
  have u5 : ((y7 N g).map sV)[gapAt g]? = some [str g.cur.p] := by rw [List.getElem?_map, u2]; rfl
  have u6 : ((y7 N g).map sV).set (gapAt g) [str (g.cur.p ++ x.p)] = (y7 N (g.put x.p)).map sV := by rw [u1, List.map_set]; rfl
  refine stg ?_; intros; rename_i bx
  refine WC.join (fun r' ds' m' H' => r' = [(6, .pp b), (7, .int .i64 (atOf g : Int)), (8, .int .i64 (gapAt g : Int)), (9, .int .i64 (i : Int)), (10, .pp bx), (2, .pp r0), (0, .slice (some a0) l.length cap)] ∧ ds' = [] ∧ m = m' ∧ H' = .bl bx [.int .i64 x.k, str x.d, str x.p] 165 :: .bl b [.slice (some ⟨q2, 0, none⟩) (N + 1) (N + 1), .slice (some ⟨q4, 0, none⟩) N N, .slice (some ⟨q6, 0, none⟩) N N] 214 :: .bl r0 [.slice none 0 0, .slice none 0 0, .slice none 0 0] 214 :: .row (some ⟨q2, 0, none⟩) (N + 1) 9 1 ((y7 N (g.put x.p)).map sV) :: .row (some ⟨q4, 0, none⟩) N 4 1 ((yU N g).map oV) :: .row (some ⟨q6, 0, none⟩) N 5 1 ((yT N g).map uV) :: H) ?_ ?_
  ·by_cases hp : x.p = []
   ·have e : g.put x.p = g := by rw [hp, zER]
    rw [e]
    try (refine stg ?_; intros)
    exact WQ.join ⟨rfl, rfl, rfl, rfl⟩ zsb zpk
   ·have hpn : g.cur.p.length ≤ 100000000000 := by
     have := zKq hok i
     rw [← hgr] at this
     omega
    try (refine stg ?_; intros)
    rw [u6]
    exact WQ.join ⟨rfl, rfl, rfl, rfl⟩ zsb zpk
  rintro _ _ _ _ ⟨rfl, rfl, rfl, rfl⟩
  have v1 : yU N (g.put x.p) = yU N g ∧ yT N (g.put x.p) = yT N g := by
   unfold yU yT Gs.put; exact ⟨rfl, rfl⟩
  rw [← v1.1, ← v1.2]
  try (refine stg ?_; intros)
  refine lpz (fun j r ds m' H' => ∃ (q : Nat) (p : Nat) (gd : Gs), j = x.d.length - q ∧ r = [(11, .int .i64 (q : Int)), (6, .pp b), (7, .int .i64 (p : Int)), (8, .int .i64 (gapAt g : Int)), (9, .int .i64 (i : Int)), (10, .pp bx), (2, .pp r0), (0, .slice (some a0) l.length cap)] ∧ ds = [] ∧ m = m' ∧ H' = .bl bx [.int .i64 x.k, str x.d, str x.p] 165 :: .bl b [.slice (some ⟨q2, 0, none⟩) (N + 1) (N + 1), .slice (some ⟨q4, 0, none⟩) N N, .slice (some ⟨q6, 0, none⟩) N N] 214 :: .bl r0 [.slice none 0 0, .slice none 0 0, .slice none 0 0] 214 :: .row (some ⟨q2, 0, none⟩) (N + 1) 9 1 ((y7 N gd).map sV) :: .row (some ⟨q4, 0, none⟩) N 4 1 ((yU N gd).map oV) :: .row (some ⟨q6, 0, none⟩) N 5 1 ((yT N gd).map uV) :: H ∧ (q ≤ x.d.length) ∧ (gd = (g.put x.p).drops (x.d.take q)) ∧ (p = atOf gd) ∧ (p = atOf g + q)) (x.d.length - (0)) ⟨0, atOf g, g.put x.p, rfl, rfl, rfl, rfl, rfl, by omega, by rw [List.take_zero, zBC], by rw [u3], by omega⟩ ?_
  rintro j r ds m' H' ⟨q, p, gd, rfl, rfl, rfl, rfl, rfl, hj, hgd, hp0, hpj⟩
  subst hp0
  by_cases hjl : q < x.d.length
  ·obtain ⟨k1, k2, k3, k4, k5⟩ := zGQ (N := N) (g := gd) (b := x.d[q]) (by omega)
   obtain ⟨z1, z2, z3⟩ := zFi (N := N) (g := gd) (by omega)
   have k6 : ((yU N gd).map oV).set (atOf gd) [.bool true] = (yU N (gd.byte x.d[q])).map oV := by rw [k1, List.map_set]; rfl
   have k7 : ((yT N gd).map uV).set (atOf gd) [.int .u8 (gb x.d q : Int)] = (yT N (gd.byte x.d[q])).map uV := by rw [k2, List.map_set, zK0 hjl]; rfl
   try (refine stg ?_; intros)
   rw [k6, k7, ← k3]
   refine nxz (x.d.length - (q + 1)) ⟨q + 1, atOf gd + 1, gd.byte x.d[q], rfl, rfl, rfl, rfl, rfl, ?_, ?_, ?_, ?_⟩
   ·omega
   ·rw [hgd, List.take_succ_eq_append_getElem hjl, zGF]
   ·rw [k4]
   ·omega
  ·have hjx : q = x.d.length := by omega
   rw [hjx, List.take_length] at hgd
   obtain ⟨w1, w2⟩ := zJN (g.put x.p) x.d
   rw [← hgd, u3] at w1
   rw [← hgd, u4] at w2
   by_cases hk : 0 < x.k
   ·rw [if_pos hk, ← hgd] at hg
    obtain ⟨k1, k2, k3, k4, k5⟩ := zG6 (N := N) (g := gd) (n := x.k.toNat) (by omega) (by omega)
    rw [← k1, ← k2, ← k3]
    have e : (atOf gd : Int) + x.k = ((atOf gd + x.k.toNat : Nat) : Int) := by omega
    try (refine stg ?_; intros)
    rw [e]
    refine nxz (l.length - (i + 1)) ⟨i + 1, gd.keeps x.k.toNat, atOf gd + x.k.toNat, atOf gd + x.k.toNat, rfl, rfl, rfl, rfl, rfl, ?_, ?_, ?_, ?_, ?_, ?_⟩
    ·omega
    ·exact k4.symm
    ·exact k5.symm
    ·exact hg
    ·omega
    ·rw [zDV htk, ← hgr, zAs hxok, if_pos hk, ← hgd]
   ·rw [if_neg hk, ← hgd] at hg
    try (refine stg ?_; intros)
    refine nxz (l.length - (i + 1)) ⟨i + 1, gd, gapAt g, atOf gd, rfl, rfl, rfl, rfl, rfl, ?_, ?_, ?_, ?_, ?_, ?_⟩
    ·omega
    ·exact w2.symm
    ·rfl
    ·exact hg
    ·omega
    ·rw [zDV htk, ← hgr, zAs hxok, if_neg hk, ← hgd]
 ·obtain rfl : i = l.length := by omega
  rw [List.drop_length, List.foldl_nil] at hg
  rw [List.drop_length] at hN
  obtain ⟨f1, f2, f3⟩ := zIl (N := N) (g := g) (by rw [← hN]; rfl)
  rw [f1] at p2; rw [f2] at p3; rw [f3] at p1
  rw [f1, f2, f3]
  subst hg
  have p1' : N + 1 = (wA (zO l)).length := by rw [← p1, List.length_map]
  have p2' : N = (z6 (zO l)).length := by rw [← p2, List.length_map]
  have p3' : N = (xE (zO l)).length := by rw [← p3, List.length_map]
  try (refine stg ?_; intros)
  exact q_fz (H0 := .row (some ⟨q2, 0, none⟩) (N + 1) 9 1 ((wA (zO l)).map sV) :: .row (some ⟨q4, 0, none⟩) N 4 1 ((z6 (zO l)).map oV) :: .row (some ⟨q6, 0, none⟩) N 5 1 ((xE (zO l)).map uV) :: H) ⟨rfl, q2, q4, q6, by rw [← p1', ← p2', ← p3'], by rw [← p1', ← p2', ← p3']⟩
end ZP
namespace ZP
open Go Go.Eng
end ZP
namespace Go.Eng
open Go Go.RowKit
theorem zJr {N : Nat} {B : Bld} (h : BFit N B) (P : List UInt8) : BFit (N + P.length) ⟨B.l, B.p ++ P, B.d⟩ :=
 ⟨by have := h.len; simp only; omega, fun s hs => by have := h.k s hs; omega, by have := h.p; simp only [List.length_append]; omega, by have := h.d; simp only; omega⟩
theorem zIu {N : Nat} {B : Bld} (h : BFit N B) (P : List UInt8) : BFit (N + P.length) ⟨B.l, B.p, B.d ++ P⟩ :=
 ⟨by have := h.len; simp only; omega, fun s hs => by have := h.k s hs; omega, by have := h.p; simp only; omega, by have := h.d; simp only [List.length_append]; omega⟩
theorem zFQ {PX : List (List UInt8)} {DX : List Bool} {BX : List UInt8} {p : Nat} (h1 : BX.length = DX.length) (h2 : PX.length = DX.length + 1) (hp : p < DX.length) : (PX.zip (DX.zip BX)).drop p = (PX[p], DX[p], BX[p]) :: (PX.zip (DX.zip BX)).drop (p + 1) := by
 rw [List.drop_eq_getElem_cons (by simp only [List.length_zip]; omega)]
 simp
theorem zDY {PX : List (List UInt8)} {N p : Nat} (hp : p = N) (h : p < PX.length) : PX.getD N [] = PX[p] := by
 subst hp
 rw [List.getD_eq_getElem?_getD, List.getElem?_eq_getElem h]; rfl
theorem zHZ {PX : List (List UInt8)} {DX : List Bool} {BX : List UInt8} {p : Nat} (h : DX.length ≤ p) : (PX.zip (DX.zip BX)).drop p = [] := List.drop_eq_nil_of_le (by simp only [List.length_zip]; omega)
theorem zFz {PX : List (List UInt8)} {DX : List Bool} {BX : List UInt8} {p : Nat} (h1 : BX.length = DX.length) (h2 : PX.length = DX.length + 1) (hp : p < DX.length) :
  (sdA ((PX.zip (DX.zip BX)).drop p) (PX.getD DX.length [])).length = PX[p].length + 1 + (sdA ((PX.zip (DX.zip BX)).drop (p + 1)) (PX.getD DX.length [])).length := by
 rw [zFQ h1 h2 hp, zC5]
 simp only [List.length_append, List.length_map, List.length_cons]
 omega
theorem zI1 {PX : List (List UInt8)} {DX : List Bool} {BX : List UInt8} {p : Nat} (h1 : BX.length = DX.length) (h2 : PX.length = DX.length + 1) (hp : p < PX.length) : PX[p].length ≤ (sdA ((PX.zip (DX.zip BX)).drop p) (PX.getD DX.length [])).length := by
 by_cases h : p < DX.length
 ·rw [zFz h1 h2 h]; omega
 ·rw [zHZ (by omega), zFb, zDY (by omega) hp, List.length_map]; exact Nat.le_refl _
section
end
end Go.Eng
namespace ZP
open Go Go.Eng
attribute [local irreducible] xQ zT wA z6 xE zO xL z7
namespace ZXEQP1
theorem zsx {G : Prop} (h : G := by try refine WL.blkStr (s := [d]) rfl zhs rfl rfl rfl rfl rfl rfl rfl ?_; ((repeat (refine sp ?_; intros)); exact WQ.q1 rfl)) : G := h
end ZXEQP1
theorem zHW {b : Nat} {c : Option Addr} {cp : Nat} (B : Bld) (d : UInt8) (hB : B.d.length ≤ 100000000000) (w0 : World) (m : Mem) (H : SHeap) :
  Does Tryz.prog 168 #[.pp b, .int .u8 (d.toNat : Int)] w0 m (.bl b [.slice c B.l.length cp, str B.p, str B.d] 269 :: H)
   (fun v m' H' => v = .tuple #[] ∧ m' = m ∧ H' = .bl b [.slice c B.l.length cp, str B.p, str (B.d ++ [d])] 269 :: H) := by
 refine Does.of_body func168 rfl ntmps168 rfl ?_
 have hd1 : [d].length = 1 := rfl
 refine wdw 11 ([.bl b [.slice c B.l.length cp, str B.p, str B.d] 269]) ?_
 refine cm0 ?_
 refine wa1 6 ?_
 refine st ?_; intros; rename_i q
 refine waz [.bl q [.int .u8 (d.toNat : Int)] 5] zml ?_
 open ZXEQP1 in refine cmh ?_
 refine cm0 ?_
 refine wdz ?_
 try (refine st ?_; intros)
 exact q_nz ⟨rfl, rfl, rfl⟩
theorem zGL {q2 q4 q6 : Nat} {PX : List (List UInt8)} {DX : List Bool} {BX : List UInt8} (la1 : BX.length = DX.length) (la2 : PX.length = DX.length + 1) (hln : (sdA (PX.zip (DX.zip BX)) (PX.getD DX.length [])).length ≤ 200000) (w0 : World) (m : Mem) (H : SHeap) :
  Does Tryz.prog 125 #[.agg #[.slice (some ⟨q2, 0, none⟩) PX.length PX.length, .slice (some ⟨q4, 0, none⟩) DX.length DX.length, .slice (some ⟨q6, 0, none⟩) BX.length BX.length]] w0 m (.row (some ⟨q2, 0, none⟩) PX.length 9 1 (PX.map sV) :: .row (some ⟨q4, 0, none⟩) DX.length 4 1 (DX.map oV) :: .row (some ⟨q6, 0, none⟩) BX.length 5 1 (BX.map uV) :: H)
   (fun v m' H' => m' = m ∧ ∃ c cp, v = .slice c (listOf (sdA (PX.zip (DX.zip BX)) (PX.getD DX.length []))).length cp ∧ H' = .row c cp 165 3 ((listOf (sdA (PX.zip (DX.zip BX)) (PX.getD DX.length []))).map Stp.cs) :: H) := by
 refine Does.of_body func125 rfl ntmps125 rfl ?_
 have hPl : (PX.map sV).length = PX.length := by simp
 have hDl : (DX.map oV).length = DX.length := by simp
 have hBl : (BX.map uV).length = BX.length := by simp
 have hDle : DX.length ≤ 200000 := by
  have h1 := zIh (PX.getD DX.length []) (PX.zip (DX.zip BX))
  have h2 := zAZ (sdA (PX.zip (DX.zip BX)) (PX.getD DX.length []))
  simp only [List.length_zip] at h1
  omega
 have hlist : listOf (sdA (PX.zip (DX.zip BX)) (PX.getD DX.length [])) = (Bld.start.run (sdA (PX.zip (DX.zip BX)) (PX.getD DX.length []))).close.l := rfl
 generalize listOf (sdA (PX.zip (DX.zip BX)) (PX.getD DX.length [])) = R at *
 refine st ?_; intros; rename_i x bm
 refine WC.newRow (T := 165) (sz := 3) ?_
 refine lpz (fun j r ds m' H' => ∃ (p : Nat) (c : Option Addr) (cp : Nat) (B : Bld) (k : Nat), j = PX.length - p ∧ r = [(4, .int .i64 (p : Int)), (3, .pp bm), (1, .pp x)] ∧ ds = [] ∧ m = m' ∧ H' = .bl bm [.slice c B.l.length cp, str B.p, str B.d] 269 :: .row c cp 165 3 (B.l.map Stp.cs) :: .bl x [.slice (some ⟨q2, 0, none⟩) PX.length PX.length, .slice (some ⟨q4, 0, none⟩) DX.length DX.length, .slice (some ⟨q6, 0, none⟩) BX.length BX.length] 214 :: .row (some ⟨q2, 0, none⟩) PX.length 9 1 (PX.map sV) :: .row (some ⟨q4, 0, none⟩) DX.length 4 1 (DX.map oV) :: .row (some ⟨q6, 0, none⟩) BX.length 5 1 (BX.map uV) :: H ∧ (p ≤ PX.length) ∧ (BFit k B) ∧ ((p ≤ DX.length ∧ k + 4 * (sdA ((PX.zip (DX.zip BX)).drop p) (PX.getD DX.length [])).length ≤ 10000000) ∨ (p = DX.length + 1 ∧ k ≤ 10000000)) ∧ ((p ≤ DX.length → R = (B.run (sdA ((PX.zip (DX.zip BX)).drop p) (PX.getD DX.length []))).close.l) ∧ (p = DX.length + 1 → R = B.close.l))) (PX.length - (0)) ⟨0, none, 0, Bld.start, 0, rfl, rfl, rfl, rfl, rfl, by omega, BFit.start, by rw [List.drop_zero]; exact .inl ⟨by omega, by omega⟩, by rw [List.drop_zero]; exact ⟨fun _ => hlist, fun h => by omega⟩⟩ ?_
 rintro j r ds m' H' ⟨p, c, cp, B, k, rfl, rfl, rfl, rfl, rfl, hp, hB, hk, ht⟩
 have hBp := hB.p
 have hBd := hB.d
 by_cases hlt : p < PX.length
 ·have hk1 : k + 4 * (sdA ((PX.zip (DX.zip BX)).drop p) (PX.getD DX.length [])).length ≤ 10000000 := by omega
  have ht1 := ht.1 (by omega)
  have hgx : (PX.map sV)[p]? = some [str PX[p]] := by rw [List.getElem?_map, List.getElem?_eq_getElem hlt]; rfl
  have hB1 := zJr hB PX[p]
  by_cases hpd : p < DX.length
  ·have hxb : p < BX.length := by omega
   have gxd : (DX.map oV)[p]? = some [.bool DX[p]] := by rw [List.getElem?_map, List.getElem?_eq_getElem hpd]; rfl
   have gxb : (BX.map uV)[p]? = some [.int .u8 (BX[p].toNat : Int)] := by rw [List.getElem?_map, List.getElem?_eq_getElem hxb]; rfl
   rw [zFz la1 la2 hpd] at hk1
   rw [zFQ la1 la2 hpd, zC5, vR, zGw] at ht1
   dsimp only at ht1
   cases hdx : DX[p] with
   | true =>
    rw [hdx] at gxd ht1
    try (refine st ?_; intros)
    refine zN func168 ?_ (hs := zHW ⟨B.l, B.p ++ PX[p], B.d⟩ BX[p] (by simp only; omega) _ _ _)
    rintro v m H1 ⟨rfl, rfl, rfl⟩
    try (refine st ?_; intros)
    refine nxz (PX.length - (p + 1)) ⟨p + 1, c, cp, ⟨B.l, B.p ++ PX[p], B.d ++ [BX[p]]⟩, k + PX[p].length + 1, rfl, rfl, rfl, rfl, rfl, ?_, ?_, ?_, ?_⟩
    ·omega
    ·exact (zIu hB1 [BX[p]]).mono (by simp only [List.length_singleton]; omega)
    ·exact .inl ⟨by omega, by omega⟩
    ·exact ⟨fun _ => ht1, fun h => by omega⟩
   | false =>
    rw [hdx] at gxd ht1
    try (refine st ?_; intros)
    refine WL.heap (H' := .bl bm [.slice c B.l.length cp, str (B.p ++ PX[p]), str B.d] 269 :: .row c cp 165 3 (B.l.map Stp.cs) :: .bl x [.slice (some ⟨q2, 0, none⟩) PX.length PX.length, .slice (some ⟨q4, 0, none⟩) DX.length DX.length, .slice (some ⟨q6, 0, none⟩) BX.length BX.length] 214 :: .row (some ⟨q2, 0, none⟩) PX.length 9 1 (PX.map sV) :: .row (some ⟨q4, 0, none⟩) DX.length 4 1 (DX.map oV) :: .row (some ⟨q6, 0, none⟩) BX.length 5 1 (BX.map uV) :: H) zpk ?_
    refine zA func169 ?_ (hs := zHG ⟨B.l, B.p ++ PX[p], B.d⟩ 1 (by omega) (hB1.mono (by omega)) _ _ _)
    rintro v m H1 ⟨rfl, rfl, c2, cp2, rfl⟩
    try (refine st ?_; intros)
    refine nxz (PX.length - (p + 1)) ⟨p + 1, c2, cp2, (⟨B.l, B.p ++ PX[p], B.d⟩ : Bld).keep ((1 : Nat) : Int), k + PX[p].length + 4, rfl, rfl, rfl, rfl, rfl, ?_, ?_, ?_, ?_⟩
    ·omega
    ·exact (hB1.keep (n := 1)).mono (by omega)
    ·exact .inl ⟨by omega, by omega⟩
    ·exact ⟨fun _ => ht1, fun h => by omega⟩
  ·have hpe : p = DX.length := by omega
   have hbx := zI1 la1 la2 hlt
   rw [zHZ (by omega), zFb, zDY hpe hlt, zGw] at ht1
   try (refine st ?_; intros)
   refine nxz (PX.length - (p + 1)) ⟨p + 1, c, cp, ⟨B.l, B.p ++ PX[p], B.d⟩, k + PX[p].length, rfl, rfl, rfl, rfl, rfl, ?_, ?_, ?_, ?_⟩
   ·omega
   ·exact hB1
   ·exact .inr ⟨by omega, by omega⟩
   ·exact ⟨fun h => by omega, fun _ => ht1⟩
 ·have hpe : p = DX.length + 1 := by omega
  have ht1 := ht.2 hpe
  have hBl := hB.len
  try (refine st ?_; intros)
  refine WL.heap (H' := .bl bm [.slice c B.l.length cp, str B.p, str B.d] 269 :: .row c cp 165 3 (B.l.map Stp.cs) :: H) zpk ?_
  refine zA func170 ?_ (hs := zDG B (by omega) _ _ _)
  rintro v m H1 ⟨rfl, rfl, c2, cp2, rfl⟩
  try (refine st ?_; intros)
  rw [ht1]
  exact q_fz ⟨rfl, c2, cp2, rfl, rfl⟩
end ZP
namespace ZP
open Go Go.Eng
attribute [local irreducible] strs jn putT dropT chGo chL yE toks z7 zO wA z6 xE zT sdA listOf
theorem zFh {s t : Tx} (hs : s.length ≤ 65536) (ht : t.length ≤ 65536) (w0 : World) (m : Mem) (H : SHeap) : Does Tryz.prog 88 #[str s, str t] w0 m H
  (fun v m' H' => m.le m' ∧ ∃ c cp, v = .slice c (z7 (chL s t)).length cp ∧ H' = .row c cp 165 3 ((z7 (chL s t)).map Stp.cs) :: H) := by
 refine Does.of_body func88 rfl ntmps88 rfl ?_
 have hXl := zP s
 have hYl := zP t
 have hXf := congrArg List.length (yR s)
 have hYf := congrArg List.length (yR t)
 have hXn := zBk s
 have hF : chGo (toks s) (toks t) (yE (toks s) (toks t)) 0 0 = chL s t := by unfold chL; rfl
 have hsz := zAh hs ht
 have hM := wL (toks s) (toks t)
 have hMl := hM.len
 refine WC.newRow (T := 165) (sz := 3) ?_
 try (refine st ?_; intros)
 refine zA func90 ?_ (hs := vG s (by omega) _ _ _)
 rintro v m1 H1 ⟨hle1, ax, cx, rfl, rfl⟩
 try (refine st ?_; intros)
 refine zA func90 ?_ (hs := vG t (by omega) _ _ _)
 rintro v m2 H1 ⟨hle2, ay, cy, rfl, rfl⟩
 refine WL.rowCap (a := ax) (cap := cx) (T := 9) (sz := 1) (es := strs (toks s)) zhs ?_
 intro hcx
 refine WL.rowCap (a := ay) (cap := cy) (T := 9) (sz := 1) (es := strs (toks t)) zhs ?_
 intro hcy
 rw [zY] at hcx hcy
 try (refine st ?_; intros)
 refine zA func120 ?_ (hs := j8 s t (by omega) (by omega) _ _ _)
 rintro v m3 H9 ⟨hle3, a1, c1, rfl, rfl⟩
 have hle := hle1.trans (hle2.trans hle3)
 generalize toks s = X at *
 generalize toks t = Y at *
 generalize chL s t = F at *
 generalize yE X Y = M at *
 have hMm : (M.map prE).length = M.length := List.length_map _
 have hMe : M.map prE ++ [[.int .i64 (X.length : Int), .int .i64 (Y.length : Int)]] = (M ++ [(X.length, Y.length)]).map prE := by simp [prE]
 generalize M.map prE = ME at *
 refine st ?_; intros; rename_i b9 a2 c2
 rw [hMm, hMe]
 refine WC.weak zsb zpk (zDL (X := X) (Y := Y) (M := M) (F := F) (a := a2) (cp := c2) (H := H) ⟨by omega, by omega, hcx⟩ ⟨by omega, by omega, hcy⟩ hXn hM (by omega) hF ?_)
 intro ac cc
 try (refine st ?_; intros)
 refine zA func126 ?_ (hs := zKi (zEk hsz) hsz _ _ _ (RowR.row (a := ac) zhs))
 rintro _ m _ ⟨rfl, q2, q4, q6, rfl, rfl⟩
 obtain ⟨la1, la2⟩ := zDk (zO F)
 try (refine st ?_; intros)
 refine zA func125 ?_ (hs := zGL la1 la2 (zGk hsz) _ _ _)
 rintro v m H1 ⟨rfl, c3, p3, rfl, rfl⟩
 rw [zGt]
 try (refine st ?_; intros)
 exact q_fz ⟨hle, c3, p3, rfl, rfl⟩
end ZP
namespace ZP
open Go Go.Eng
attribute [local irreducible] yM z7 chL zT
theorem zJK {bh cap k : Nat} {mp : Value} {a : Option Addr} {L : List Dr} {w0 : World} {m : Mem} {H : SHeap} (hk : k < L.length) (hL : L.length ≤ 256) (hpar : ∀ i d, L[i]? = some d → (∀ p ∈ d.ps, p < i) ∧ (0 < i → d.ps ≠ []) ∧ d.ps.length ≤ 2 ∧ d.t.length ≤ 65536)
  (hat : ∀ d ∈ L, PsAt m d) (hg : GTabs Tryz.prog m) :
  Does Tryz.prog 50 #[.pp bh, .int .i64 (k : Int)] w0 m (.bl bh [.slice a L.length cap, mp] 90 :: .row a cap 97 3 (drs L) :: H) (Tells (str (wX L k)) m (.bl bh [.slice a L.length cap, mp] 90 :: .row a cap 97 3 (drs L) :: H)) := by
 refine Does.of_body func50 rfl ntmps50 rfl ?_
 obtain ⟨d, hd⟩ : ∃ d, L[k]? = some d := ⟨_, List.getElem?_eq_getElem hk⟩
 obtain ⟨va, vc, hv, hr⟩ := hat d (List.mem_of_getElem? hd)
 obtain ⟨p1, p2, p3, p4⟩ := hpar k d hd
 have hge := u7 hd
 unfold drE at hge
 rw [hv] at hge
 have hnl := vM L
 have htx := xU hd
 have hpo := vH hd
 generalize hE : drs L = E at *
 refine WC.rowSome (a := a) zhs (by omega) ?_
 rintro a0 rfl
 refine st ?_; intros; rename_i b5 b9
 by_cases h0 : k = 0
 ·subst h0
  by_cases ht0 : d.t = []
  ·have he : wX L 0 = [] := by unfold wX; rw [if_pos rfl, htx, if_pos ht0]
   rw [ht0] at *
   try (refine st ?_; intros)
   rw [he]
   exact q_fz (Tells.mk zml rfl)
  ·have he : wX L 0 = yM [⟨0, [], d.t⟩] := by unfold wX; rw [if_pos rfl, htx, if_neg ht0]
   obtain ⟨f1, f2, f3⟩ := kM p4 ht0
   have hft : Fit [⟨0, [], d.t⟩] := ⟨by simp, by intro s hs; rw [List.mem_singleton] at hs; subst hs; simp, by intro s hs; rw [List.mem_singleton] at hs; subst hs; simp, by intro s hs; rw [List.mem_singleton] at hs; subst hs; simp only; omega⟩
   try (refine st ?_; intros)
   refine zA func82 ?_ (hs := zCe (l := [⟨0, [], d.t⟩]) hft (by intro s hs; rw [List.mem_singleton] at hs; subst hs; exact ⟨by simp, p4⟩) f3 (yZ (T := 153) (fz := (0, 0)) (L := [.int .i64 0, str [], str d.t]) zhs rfl (by simp [Stp.cs])) hg)
   rintro v m1 H1 ⟨rfl, rfl, rfl⟩
   rw [f1]
   try (refine st ?_; intros)
   rw [he]
   exact q_fz (Tells.mk zml rfl)
 ·obtain ⟨p0, hp0⟩ : ∃ p, d.ps[0]? = some p := ⟨_, List.getElem?_eq_getElem (List.length_pos_iff.2 (p2 (by omega)))⟩
  have hpl := p1 p0 (List.mem_of_getElem? hp0)
  have hps1 : 0 < d.ps.length := List.length_pos_iff.2 (p2 (by omega))
  obtain ⟨dp, hdp⟩ : ∃ d, L[p0]? = some d := ⟨_, List.getElem?_eq_getElem (by omega)⟩
  have q4 := (hpar p0 dp hdp).2.2.2
  have hgp := u7 hdp
  unfold drE at hgp
  rw [hE] at hgp
  have htx2 := xU hdp
  have he : wX L k = yM (z7 (chL dp.t d.t)) := by unfold wX; rw [if_neg h0, htx, hpo, List.headD_eq_head?_getD, List.head?_eq_getElem?, hp0, Option.getD_some, htx2]
  obtain ⟨f1, f2, f3, f4⟩ := q8 q4 p4
  have hgn := xO hp0
  have hnp := zQ d.ps
  have hrr := hr w0 (.bl b9 [.int .i64 0, .string { data := #[] }, str d.t] 153 :: .bl b5 [.int .i64 (d.h : Int), .slice va d.ps.length vc, str d.t] 97 :: .bl bh [.slice (some a0) L.length cap, mp] 90 :: .row (some a0) cap 97 3 E :: H)
  refine WC.rSome hrr (by omega) ?_
  rintro va rfl
  try (refine st ?_; intros)
  refine WC.draw 14 rfl (by decide +kernel) ?_
  repeat (refine WD.cons rfl (fun c h => by cases h) (by (repeat (refine sp ?_; intros)); exact WQ.q1 rfl) ?_)
  refine WD.nil ?_
  try (refine st ?_; intros)
  refine zA func81 ?_ (hs := zGv q4 p4 _ _ _)
  rintro v m1 H1 ⟨hle1, c, cp, rfl, rfl⟩
  try (refine st ?_; intros)
  refine zA func82 ?_ (hs := zCe (zG2 (zAh q4 p4)) (fun x hx => (f4 x hx).2.2) f2 (RowR.row zhs) (hg.le hle1))
  rintro v m2 H2 ⟨rfl, rfl, rfl⟩
  rw [f1]
  try (refine st ?_; intros)
  rw [he]
  exact q_fz (Tells.mk hle1 rfl)
end ZP
namespace ZP
open Go Go.Eng
attribute [local irreducible] yM z7 chL zT
theorem zEE {br rc k : Nat} {mp : Value} {ra : Option Addr} {M : List Dr} {w0 : World} {m : Mem} {H : SHeap} (hk : k < M.length) (hL : M.length ≤ 256) (hpar : ∀ i d, M[i]? = some d → (∀ p ∈ d.ps, p < i) ∧ (0 < i → d.ps ≠ []) ∧ d.ps.length ≤ 2 ∧ d.t.length ≤ 65536)
  (hat : ∀ d ∈ M, PsAt m d) :
  Does Tryz.prog 56 #[.pp br, .int .i64 (k : Int)] w0 m (.bl br [.slice ra M.length rc, mp] 69 :: .row ra rc 118 3 (rdrs M) :: H) (Tells (str (wX M k)) m (.bl br [.slice ra M.length rc, mp] 69 :: .row ra rc 118 3 (rdrs M) :: H)) := by
 refine Does.of_body func56 rfl ntmps56 rfl ?_
 obtain ⟨d, hd⟩ : ∃ d, M[k]? = some d := ⟨_, List.getElem?_eq_getElem hk⟩
 obtain ⟨va, vc, hv, hr⟩ := hat d (List.mem_of_getElem? hd)
 obtain ⟨p1, p2, p3, p4⟩ := hpar k d hd
 have hge := vE hd
 unfold rdE at hge
 rw [hv] at hge
 have hnl := wE M
 have htx := xU hd
 have hpo := vH hd
 generalize hE : rdrs M = E at *
 refine WC.rowSome (a := ra) zhs (by omega) ?_
 rintro a0 rfl
 by_cases h0 : k = 0
 ·subst h0
  by_cases ht0 : d.t = []
  ·have he : wX M 0 = [] := by unfold wX; rw [if_pos rfl, htx, if_pos ht0]
   rw [ht0] at hge
   refine st ?_; intros; rename_i b5
   rw [he]
   exact q_fz (Tells.mk zml rfl)
  ·have he : wX M 0 = yM [⟨0, [], d.t⟩] := by unfold wX; rw [if_pos rfl, htx, if_neg ht0]
   obtain ⟨f1, f2, f3⟩ := kM p4 ht0
   refine st ?_; intros; rename_i b5 b9
   refine zA func87 ?_ (hs := zAM (l := [⟨0, [], d.t⟩]) (by intro s hs; rw [List.mem_singleton] at hs; subst hs; exact ⟨f2, by simp, by simp, p4⟩) (by simp) _ _ _ (yZ (T := 165) (fz := (0, 0)) (L := [.int .i64 0, str [], str d.t]) zhs rfl (by simp [Stp.cs])))
   rintro v m1 H1 ⟨rfl, rfl, rfl⟩
   try (refine st ?_; intros)
   rw [he]
   exact q_fz (Tells.mk zml rfl)
 ·obtain ⟨p0, hp0⟩ : ∃ p, d.ps[0]? = some p := ⟨_, List.getElem?_eq_getElem (List.length_pos_iff.2 (p2 (by omega)))⟩
  have hpl := p1 p0 (List.mem_of_getElem? hp0)
  have hps1 : 0 < d.ps.length := List.length_pos_iff.2 (p2 (by omega))
  obtain ⟨dp, hdp⟩ : ∃ d, M[p0]? = some d := ⟨_, List.getElem?_eq_getElem (by omega)⟩
  have q4 := (hpar p0 dp hdp).2.2.2
  have hgp := vE hdp
  unfold rdE at hgp
  rw [hE] at hgp
  have htx2 := xU hdp
  have he : wX M k = yM (z7 (chL dp.t d.t)) := by unfold wX; rw [if_neg h0, htx, hpo, List.headD_eq_head?_getD, List.head?_eq_getElem?, hp0, Option.getD_some, htx2]
  obtain ⟨f1, f2, f3, f4⟩ := q8 q4 p4
  have hgn := xO hp0
  have hnp := zQ d.ps
  refine st ?_; intros; rename_i b5
  have hrr := hr w0 (.bl b5 [str d.t, .int .i64 (d.h : Int), .slice va d.ps.length vc] 118 :: .bl br [.slice (some a0) M.length rc, mp] 69 :: .row (some a0) rc 118 3 E :: H)
  refine WC.rSome hrr (by omega) ?_
  rintro va rfl
  try (refine st ?_; intros)
  refine WC.draw 13 rfl (by decide +kernel) ?_
  repeat (refine WD.cons rfl (fun c h => by cases h) (by (repeat (refine sp ?_; intros)); exact WQ.q1 rfl) ?_)
  refine WD.nil ?_
  try (refine st ?_; intros)
  refine zA func88 ?_ (hs := zFh q4 p4 _ _ _)
  rintro v m1 H1 ⟨hle1, c, cp, rfl, rfl⟩
  try (refine st ?_; intros)
  refine zA func87 ?_ (hs := zAM (fun x hx => f4 x hx) (by omega) _ _ _ (RowR.row zhs))
  rintro v m2 H2 ⟨rfl, rfl, rfl⟩
  try (refine st ?_; intros)
  rw [he]
  exact q_fz (Tells.mk hle1 rfl)
end ZP
namespace Go.Eng
open Go
def draftW : List UInt8 := [100, 114, 97, 102, 116, 32]
def branchW : List UInt8 := [98, 114, 97, 110, 99, 104, 32]
def numsT (l : List Nat) : List UInt8 := l.flatMap fun p => 32 :: decL p
def headT (d : Dr) : List UInt8 := draftW ++ decL d.h ++ numsT d.ps
def tailT (L : List Dr) (k : Nat) : List UInt8 := [58] ++ (if wX L k = [] then [] else 32 :: wX L k) ++ [10]
def wT (L : List Dr) : Nat → List UInt8
 | 0 => []
 | n + 1 => wT L n ++ (((L[n]?).elim [] headT) ++ tailT L n)
def brT (x : List UInt8 × Nat) : List UInt8 := branchW ++ x.1 ++ [32] ++ decL x.2 ++ [10]
def histT (L : List Dr) (B : Br) : List UInt8 := wT L L.length ++ (brL B).flatMap brT
theorem zGM (l : List Nat) (p : Nat) : numsT (l ++ [p]) = numsT l ++ (32 :: decL p) := by unfold numsT; simp
theorem zCq {l : List Nat} {i p : Nat} (h : l[i]? = some p) : numsT (l.take (i + 1)) = numsT (l.take i) ++ (32 :: decL p) := by
 rw [List.take_add_one, h, Option.toList_some, zGM]
theorem zI5 {l : List (List UInt8 × Nat)} {i : Nat} {x : List UInt8 × Nat} (h : l[i]? = some x) : (l.take (i + 1)).flatMap brT = (l.take i).flatMap brT ++ brT x := by
 rw [List.take_add_one, h, Option.toList_some, List.flatMap_append]; simp
theorem SameD.lines {L M : List Dr} (h : SameD L M) : ∀ n, wT L n = wT M n
 | 0 => rfl
 | n + 1 => by
  have hg := h.get n
  have hh : (L[n]?).elim [] headT = (M[n]?).elim [] headT := by
   cases h1 : L[n]? with
   | none => rw [h1] at hg; cases h2 : M[n]? with
    | none => rfl
    | some e => rw [h2] at hg; cases hg
   | some d => rw [h1] at hg; cases h2 : M[n]? with
    | none => rw [h2] at hg; cases hg
    | some e =>
     rw [h2] at hg
     simp only [Option.map_some, Option.some.injEq, Prod.mk.injEq] at hg
     show headT d = headT e
     unfold headT
     rw [hg.1, hg.2.1]
  rw [wT, wT, SameD.lines h n, hh]
  unfold tailT
  rw [h.said]
theorem SameD.hist {L M : List Dr} (h : SameD L M) (B : Br) : histT L B = histT M B := by unfold histT; rw [h.lines, h.length]
theorem zBA {l : List Nat} (h : ∀ p ∈ l, p < 256) : (numsT l).length ≤ 8 * l.length := by
 induction l with
 | nil => simp [numsT]
 | cons p l ih =>
  have h1 := ih fun q hq => h q (List.mem_cons_of_mem _ hq)
  have h2 := yN 4 p (by have := h p List.mem_cons_self; omega)
  have e : numsT (p :: l) = (32 :: decL p) ++ numsT l := by unfold numsT; simp
  rw [e, List.length_append, List.length_cons, List.length_cons]; omega
theorem zEt {d : Dr} (hh : d.h ≤ 999999999999999999) (hp : ∀ p ∈ d.ps, p < 256) (h2 : d.ps.length ≤ 2) : (headT d).length ≤ 100 := by
 have h1 := yN 17 d.h (by omega)
 have h3 := zBA hp
 unfold headT draftW
 simp only [List.length_append, List.length_cons, List.length_nil]; omega
theorem zIj {L : List Dr} {k : Nat} (h : ∀ i, (txOf L i).length ≤ 65536) : (tailT L k).length ≤ 4194310 := by
 have := zBK (k := k) h
 unfold tailT
 split
 ·simp
 ·simp only [List.length_append, List.length_cons, List.length_nil]; omega
theorem zAD {L : List Dr} (h : ∀ i, (txOf L i).length ≤ 65536) (hd : ∀ (i : Nat) (d : Dr), L[i]? = some d → (headT d).length ≤ 100) : ∀ n, (wT L n).length ≤ 4194500 * n
 | 0 => by simp [wT]
 | n + 1 => by
  have h1 := zAD h hd n
  have h2 := zIj (k := n) h
  have h3 : ((L[n]?).elim [] headT).length ≤ 100 := by
   cases hn : L[n]? with
   | none => simp
   | some d => exact hd n d hn
  rw [wT, List.length_append, List.length_append]; omega
end Go.Eng
