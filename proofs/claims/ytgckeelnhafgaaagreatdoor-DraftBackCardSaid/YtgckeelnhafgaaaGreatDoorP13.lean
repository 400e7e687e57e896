/-
  Parts of a walk, joined. No condition.
-/
import Derived.Test.YtgckeelnhafgaaaGreatDoorP12
set_option linter.all false
set_option maxRecDepth 100000
set_option maxHeartbeats 4000000
open Go.Proofs Go.Proofs.YtgckeelnhafgaaaGreatDoor
open Tryz
open Go Go.Eng
variable {P : Program} {ro : Option Nat} {n : Nat} {w0 : World} {Q : Exit → Act → World → Prop} {r : Env} {ds : List Dfr} {m : Mem} {H : SHeap} {ops : Array Oper} {l : List Oper} {d : Nat} {ty : TypeId} {pos : String} {after : Array Edge}
attribute [local irreducible] WL WC WQ QFun zJ Does Q1 zD zB Go.Addr.add
namespace ZP
open Go Go.Eng
attribute [local irreducible] cfs weaveL
namespace ZD82a
theorem zal {G G' : Prop} (next : G') (h : Bx G' → G := by intro zzn; (first | (refine WL.lookT (es := brE _) (z := .int .i64 0) rfl rfl zhs rfl rfl (fun _ => rfl) rfl ?_)); (repeat revert zzf); exact zzn.out) : G := h ⟨next⟩
end ZD82a
end ZP
namespace ZP
open Go Go.Eng
namespace ZD83a
theorem zal {G G' : Prop} (next : G') (h : Bx G' → G := by intro zzn; (first | (refine WL.lookT (es := brE _) (z := .int .i64 0) rfl rfl zhs rfl rfl (fun _ => rfl) rfl ?_)); (repeat revert zzf); exact zzn.out) : G := h ⟨next⟩
end ZD83a
end ZP
namespace Go.Eng
open Go
theorem zEk {l : List Stp} {f t : Int} (hs : zT l = some (f, t)) : Fit l := by
 obtain ⟨hok, hal, _⟩ := sized hs
 have hl := zA6 l hok
 refine ⟨by omega, fun x hx => ?_, fun x hx => ?_, fun x hx => ?_⟩
 all_goals
  have h1 := zEd hx
  have h2 := zCj (hok x hx)
  omega
end Go.Eng
namespace ZP
open Go Go.Eng
attribute [local irreducible] zT xQ z7
theorem zGi {a : Option Addr} {cap : Nat} {l : List Stp} {f t : Int} (hs : zT l = some (f, t)) (w0 : World) (m : Mem) (H : SHeap) (hr : RowR w0 m H 3 a (l.map Stp.cs)) :
  Does Tryz.prog 117 #[.slice a l.length cap] w0 m H (fun v m' H' => m' = m ∧ ∃ c cp, v = .tuple #[.slice c (z7 l).length cp, .int .i64 0] ∧ H' = .row c cp 153 3 ((z7 l).map Stp.cs) :: H) := by
 refine Does.of_body func117 rfl ntmps117 rfl ?_
 have hf := zEk hs
 try (refine st ?_; intros)
 refine zA func118 ?_ (hs := zBR hf _ _ _ hr)
 rintro v m H1 ⟨rfl, rfl, rfl⟩
 obtain ⟨hok, hal, _⟩ := sized hs
 rw [hs, show szP (some (f, t)) = .tuple #[.int .i64 f, .int .i64 t, .int .i64 0] from rfl]
 try (refine st ?_; intros)
 refine zA func162 ?_ (hs := zHR hok (by omega) _ _ _ hr)
 rintro v m H2 ⟨rfl, c, cp, rfl, rfl⟩
 try (refine st ?_; intros)
 exact q_fz ⟨rfl, c, cp, rfl, rfl⟩
attribute [local irreducible] yE toks strs jn
namespace ZD35a
theorem zal {G G' : Prop} (next : G') (h : Bx G' → G := by intro zzn; (first | (refine WL.append1 (by':=40) rfl rfl rfl rfl (by (repeat (first | exact Out.here | apply Out.there))) zhs (by exact rfl) (by exact rfl) (by exact rfl) (by exact rfl) (by exact rfl) (by exact rfl) (by first | exact rfl | omega) (by first | omega | (simp; omega)) (by decide) (by exact rfl) ?_; intro zzf zzf)); (repeat revert zzf); exact zzn.out) : G := h ⟨next⟩
end ZD35a
open ZD35a in
theorem zFV {X Y : List Tx} {L : List Stp} {bx by_ bk bc bi i k n mm cx cy cc : Nat} {ax ay ac : Option Addr} {w0 : World} {m : Mem} {H : SHeap}
  (hX : X.length ≤ 4194304 ∧ X.flatten.length ≤ 4194304 ∧ X.length ≤ cx) (hY : Y.length ≤ 4194304 ∧ Y.flatten.length ≤ 4194304 ∧ Y.length ≤ cy) (hn : i ≤ n ∧ n ≤ X.length) (hm : k ≤ mm ∧ mm ≤ Y.length) (hL : L.length ≤ 4194304) :
  Does Tryz.prog 116 #[.int .i64 (n : Int), .int .i64 (mm : Int), .pp by_, .pp bk, .pp bc, .pp bx, .pp bi] w0 m
   ([.bl bx [.slice ax X.length cx] 83, .row ax cx 9 1 (strs X), .bl by_ [.slice ay Y.length cy] 83, .row ay cy 9 1 (strs Y), .bl bk [.int .i64 (k : Int)] 3, .bl bi [.int .i64 (i : Int)] 3, .bl bc [.slice ac L.length cc] 154, .row ac cc 153 3 (L.map Stp.cs)] ++ H)
   (fun _ m' H' => m' = m ∧ ∃ (ac2 : Option Addr) (cc2 : Nat), H' = [.bl bx [.slice ax X.length cx] 83, .row ax cx 9 1 (strs X), .bl by_ [.slice ay Y.length cy] 83, .row ay cy 9 1 (strs Y), .bl bk [.int .i64 ((mm + 1 : Nat) : Int)] 3, .bl bi [.int .i64 ((n + 1 : Nat) : Int)] 3,
    .bl bc [.slice ac2 (L ++ (putT (jn Y k mm) ++ dropT (jn X i n))).length cc2] 154, .row ac2 cc2 153 3 ((L ++ (putT (jn Y k mm) ++ dropT (jn X i n))).map Stp.cs)] ++ H) := by
 refine Does.of_body func116 rfl ntmps116 rfl ?_
 simp only [List.cons_append, List.nil_append]
 have hn1 : (n : Int) + 1 = ((n + 1 : Nat) : Int) := by omega
 have hm1 : (mm : Int) + 1 = ((mm + 1 : Nat) : Int) := by omega
 try (refine stg ?_; intros)
 refine zA func69 ?_ (hs := yC (l := Y) zhs hm (by omega) (by omega))
 rintro v m9 H9 ⟨rfl, rfl, rfl⟩
 have hLm : (L.map Stp.cs).length = L.length := List.length_map _
 have hLp : ∀ t : Tx, (L ++ [(⟨0, [], t⟩ : Stp)]).map Stp.cs = L.map Stp.cs ++ [[.int .i64 0, str [], str t]] := fun t => by simp [Stp.cs]
 by_cases h1 : jn Y k mm = []
 ·rw [h1, show putT [] = [] from rfl, List.nil_append]
  try (refine stg ?_; intros)
  refine zA func69 ?_ (hs := yC (l := X) zhs hn (by omega) (by omega))
  rintro v m9 H9 ⟨rfl, rfl, rfl⟩
  generalize jn X i n = tX at *
  by_cases h2 : tX = []
  ·rw [show dropT tX = [] from if_pos h2, List.append_nil]
   try (refine stg ?_; intros)
   rw [hn1, hm1]
   exact q_nz ⟨rfl, ac, cc, rfl⟩
  ·rw [show dropT tX = [⟨0, tX, []⟩] from if_neg h2]
   refine stg ?_; intros; rename_i b9 ac2 cc2
   rw [hLm, hn1, hm1, show L.length + 1 = (L ++ [(⟨0, tX, []⟩ : Stp)]).length by simp, show L.map Stp.cs ++ [[.int .i64 0, str tX, str []]] = (L ++ [(⟨0, tX, []⟩ : Stp)]).map Stp.cs by simp [Stp.cs]]
   exact q_nz ⟨rfl, ac2, cc2, rfl⟩
 ·rw [show putT (jn Y k mm) = [⟨0, [], jn Y k mm⟩] from if_neg h1]
  generalize jn Y k mm = tY at *
  have hLp1 := hLp tY
  obtain ⟨L1, hL1⟩ : ∃ L1, L1 = L ++ [(⟨0, [], tY⟩ : Stp)] := ⟨_, rfl⟩
  have hl1 : L1.length = L.length + 1 := by rw [hL1]; simp
  have hl1m : (L1.map Stp.cs).length = L1.length := List.length_map _
  rw [← hL1] at hLp1
  rw [← List.append_assoc, ← hL1]
  clear hL1
  refine stg ?_; intros; rename_i b9 ac1 cc1
  refine zA func69 ?_ (hs := yC (l := X) zhs hn (by omega) (by omega))
  rintro v m9 H9 ⟨rfl, rfl, rfl⟩
  rw [hLm, ← hl1, ← hLp1]
  generalize jn X i n = tX at *
  by_cases h2 : tX = []
  ·rw [show dropT tX = [] from if_pos h2, List.append_nil]
   try (refine stg ?_; intros)
   rw [hn1, hm1]
   exact q_nz ⟨rfl, ac1, cc1, rfl⟩
  ·rw [show dropT tX = [⟨0, tX, []⟩] from if_neg h2]
   refine stg ?_; intros; rename_i b8 ac2 cc2
   rw [hl1m, hn1, hm1, show L1.length + 1 = (L1 ++ [(⟨0, tX, []⟩ : Stp)]).length by simp, show L1.map Stp.cs ++ [[.int .i64 0, str tX, str []]] = (L1 ++ [(⟨0, tX, []⟩ : Stp)]).map Stp.cs by simp [Stp.cs]]
   exact q_nz ⟨rfl, ac2, cc2, rfl⟩
end ZP
namespace ZP
open Go Go.Eng
attribute [local irreducible] strs jn putT dropT chGo
namespace ZD36a
theorem zal {G G' : Prop} (next : G') (h : Bx G' → G := by intro zzn; (first | (refine WL.append1 (by':=40) rfl rfl rfl rfl (by (repeat (first | exact Out.here | apply Out.there))) zhs (by exact rfl) (by exact rfl) (by exact rfl) (by exact rfl) (by exact rfl) (by exact rfl) (by first | exact rfl | omega) (by first | omega | (simp; omega)) (by decide) (by exact rfl) ?_; intro zzf zzf) | (refine WL.indexAddrA rfl rfl (by exact znz) rfl rfl (by omega) rfl rfl ?_)); (repeat revert zzf); exact zzn.out) : G := h ⟨next⟩
end ZD36a
open ZD36a in
theorem zEV {X Y : List Tx} {M : List (Nat × Nat)} {F : List Stp} {bx by_ bk bc bi cx cy cp : Nat} {ax ay a : Option Addr} {w0 : World} {m : Mem} {H : SHeap} {Q : Exit → Act → World → Prop}
  (hX : X.length ≤ 65536 ∧ X.flatten.length ≤ 65536 ∧ X.length ≤ cx) (hY : Y.length ≤ 65536 ∧ Y.flatten.length ≤ 65536 ∧ Y.length ≤ cy) (hM : PrOk X Y 0 0 M X.length Y.length) (hMl : M.length ≤ 65536) (hF : chGo X Y M 0 0 = F)
  (hK : ∀ (L : List Stp) (i k : Nat) (ac : Option Addr) (cc : Nat), L ++ chGo X Y [] i k = F → i ≤ X.length → k ≤ Y.length → L.length ≤ 200000 →
   WQ 55 w0 Q (.exit 0) [(5, .pp bx), (6, .pp by_), (7, .pp bc), (10, .func (.func 116) #[] [.pp by_, .pp bk, .pp bc, .pp bx, .pp bi].toArray)] [] m (.bl bx [.slice ax X.length cx] 83 :: .row ax cx 9 1 (strs X) :: .bl by_ [.slice ay Y.length cy] 83 :: .row ay cy 9 1 (strs Y) :: .bl bk [.int .i64 (k : Int)] 3 :: .bl bi [.int .i64 (i : Int)] 3 :: .bl bc [.slice ac L.length cc] 154 :: .row ac cc 153 3 (L.map Stp.cs) :: H)) :
  WC Tryz.prog none 55 w0 ((yF (Tryz.f81.body.getD .skip)).getD 0 .skip) Q [(22, .int .i64 0), (21, .int .i64 (M.length : Int)), (20, .slice a M.length cp), (5, .pp bx), (6, .pp by_), (7, .pp bc), (10, .func (.func 116) #[] [.pp by_, .pp bk, .pp bc, .pp bx, .pp bi].toArray)] [] m
   (.bl bx [.slice ax X.length cx] 83 :: .row ax cx 9 1 (strs X) :: .bl by_ [.slice ay Y.length cy] 83 :: .row ay cy 9 1 (strs Y) :: .bl bk [.int .i64 0] 3 :: .bl bi [.int .i64 0] 3 :: .bl bc [.slice none 0 0] 154 :: .row none 0 153 3 (([] : List Stp).map Stp.cs) :: .row a cp 134 2 (M.map prE) :: H) := by
 have hXs : (strs X).length = X.length := by simp [strs]
 have hml : (M.map prE).length = M.length := List.length_map _
 refine lpz (fun j r ds m' H' => ∃ (q : Nat) (i : Nat) (k : Nat) (L : List Stp) (ac : Option Addr) (cc : Nat), j = M.length - q ∧ r = [(22, .int .i64 (q : Int)), (21, .int .i64 (M.length : Int)), (20, .slice a M.length cp), (5, .pp bx), (6, .pp by_), (7, .pp bc), (10, .func (.func 116) #[] [.pp by_, .pp bk, .pp bc, .pp bx, .pp bi].toArray)] ∧ ds = [] ∧ m = m' ∧ H' = .bl bx [.slice ax X.length cx] 83 :: .row ax cx 9 1 (strs X) :: .bl by_ [.slice ay Y.length cy] 83 :: .row ay cy 9 1 (strs Y) :: .bl bk [.int .i64 (k : Int)] 3 :: .bl bi [.int .i64 (i : Int)] 3 :: .bl bc [.slice ac L.length cc] 154 :: .row ac cc 153 3 (L.map Stp.cs) :: .row a cp 134 2 (M.map prE) :: H ∧ (q ≤ M.length) ∧ (PrOk X Y i k (M.drop q) X.length Y.length) ∧ (L ++ chGo X Y (M.drop q) i k = F) ∧ (L.length ≤ 3 * q)) (M.length - (0)) ⟨0, 0, 0, ([] : List Stp), none, 0, rfl, rfl, rfl, rfl, rfl, Nat.zero_le _, hM, hF, Nat.zero_le _⟩ ?_
 rintro j r ds m' H' ⟨q, i, k, L, ac, cc, rfl, rfl, rfl, rfl, rfl, hq, hP, hgo, hL⟩
 by_cases hlt : q < M.length
 ·obtain ⟨p, hp⟩ : ∃ p, M[q]? = some p := ⟨_, List.getElem?_eq_getElem hlt⟩
  have hdr : M.drop q = p :: M.drop (q + 1) := by
   obtain ⟨h1, h2⟩ := List.getElem?_eq_some_iff.1 hp
   rw [List.drop_eq_getElem_cons h1, h2]
  rw [hdr] at hP hgo
  obtain ⟨h1, h2, h3, h4, ⟨t, e1, e2⟩, h6⟩ := hP
  have hgt := xM e1
  have htl : t.length ≤ 65536 := by have := qX (List.mem_of_getElem? e1); omega
  have hgp : (M.map prE)[q]? = some [.int .i64 (p.1 : Int), .int .i64 (p.2 : Int)] := by rw [List.getElem?_map, hp]; rfl
  rw [zEb, zA9 e1] at hgo
  generalize hME : M.map prE = ME at *
  refine WC.rowSome (a := a) (es := ME) zhs (by omega) ?_
  rintro a0 rfl
  refine stg ?_; intros; rename_i bp
  refine WL.heap (H' := [.bl bx [.slice ax X.length cx] 83, .row ax cx 9 1 (strs X), .bl by_ [.slice ay Y.length cy] 83, .row ay cy 9 1 (strs Y), .bl bk [.int .i64 (k : Int)] 3, .bl bi [.int .i64 (i : Int)] 3, .bl bc [.slice ac L.length cc] 154, .row ac cc 153 3 (L.map Stp.cs)] ++ (.bl bp [.int .i64 (p.1 : Int), .int .i64 (p.2 : Int)] 134 :: .row (some a0) cp 134 2 ME :: H)) zpk ?_
  refine WL.callV rfl func116 rfl rfl (by exact rfl) (by exact rfl) (zFV (X := X) (Y := Y) (L := L) (n := p.1) (mm := p.2) ⟨by omega, by omega, hX.2.2⟩ ⟨by omega, by omega, hY.2.2⟩ ⟨h1, by omega⟩ ⟨h2, by omega⟩ (by omega)) ?_
  rintro v m9 H9 ⟨rfl, ac2, cc2, rfl⟩
  have hp1 := zFc (jn Y k p.2)
  have hp2 := zCY (jn X i p.1)
  obtain ⟨L2, hL2⟩ : ∃ L2, L2 = L ++ (putT (jn Y k p.2) ++ dropT (jn X i p.1)) := ⟨_, rfl⟩
  have hl2 := congrArg List.length hL2
  rw [List.length_append, List.length_append] at hl2
  rw [show L ++ (putT (jn Y k p.2) ++ (dropT (jn X i p.1) ++ (keepT t ++ chGo X Y (M.drop (q + 1)) (p.1 + 1) (p.2 + 1)))) = (L2 ++ keepT t) ++ chGo X Y (M.drop (q + 1)) (p.1 + 1) (p.2 + 1) by rw [hL2]; simp] at hgo
  rw [← hL2]
  clear hL2
  have hLm : (L2.map Stp.cs).length = L2.length := List.length_map _
  have hl3 : L2.length + 1 = (L2 ++ keepT t).length := by unfold keepT; simp
  have hm3 : L2.map Stp.cs ++ [[.int .i64 (t.length : Int), str [], str []]] = (L2 ++ keepT t).map Stp.cs := by unfold keepT; simp [Stp.cs]
  simp only [List.cons_append, List.nil_append]
  try (refine stg ?_; intros)
  refine WC.rowSome (a := ax) (es := strs X) zhs (by omega) ?_
  rintro x0 rfl
  refine wdw 9 ([.bl bc [.slice ac2 L2.length cc2] 154, .bl bx [.slice (some x0) X.length cx] 83, .row (some x0) cx 9 1 (strs X), .bl bp [.int .i64 (p.1 : Int), .int .i64 (p.2 : Int)] 134]) ?_
  refine cmg ?_
  refine wa1 8 ?_
  refine stg ?_; intros; rename_i b9
  refine waz [.bl b9 [.int .i64 (t.length : Int), str [], str []] 153] zml ?_
  refine cmg ?_
  refine wdz ?_
  refine stg ?_; intros; rename_i ac3 cc3
  subst hME
  rw [hLm, hl3, hm3]
  refine nxz (M.length - (q + 1)) ⟨q + 1, p.1 + 1, p.2 + 1, L2 ++ keepT t, ac3, cc3, rfl, rfl, rfl, rfl, rfl, ?_, ?_, ?_, ?_⟩
  ·omega
  ·exact h6
  ·exact hgo
  ·omega
 ·have hd : M.drop q = [] := List.drop_of_length_le (by omega)
  rw [hd] at hgo hP
  have hle := hP.le
  have hfin := hK L i k ac cc hgo hle.1 hle.2 (by omega)
  try (refine stg ?_; intros)
  exact WQ.weak zsb zpk hfin
end ZP
namespace ZP
open Go Go.Eng
attribute [local irreducible] strs jn yE toks z7 zT chL
theorem zGv {s t : Tx} (hs : s.length ≤ 65536) (ht : t.length ≤ 65536) (w0 : World) (m : Mem) (H : SHeap) : Does Tryz.prog 81 #[str s, str t] w0 m H
  (fun v m' H' => m.le m' ∧ ∃ c cp, v = .slice c (z7 (chL s t)).length cp ∧ H' = .row c cp 153 3 ((z7 (chL s t)).map Stp.cs) :: H) := by
 refine Does.of_body func81 rfl ntmps81 rfl ?_
 have hXl := zP s
 have hYl := zP t
 have hXf := congrArg List.length (yR s)
 have hYf := congrArg List.length (yR t)
 have hF : chGo (toks s) (toks t) (yE (toks s) (toks t)) 0 0 = chL s t := by unfold chL; rfl
 have hsz := zAh hs ht
 have hM := wL (toks s) (toks t)
 have hMl := hM.len
 try (refine st ?_; intros)
 refine zA func46 ?_ (hs := uX s (by omega) _ _ _)
 rintro v m1 H1 ⟨hle1, ax, cx, rfl, rfl⟩
 try (refine st ?_; intros)
 refine zA func46 ?_ (hs := uX t (by omega) _ _ _)
 rintro v m2 H1 ⟨hle2, ay, cy, rfl, rfl⟩
 generalize toks s = X at *
 generalize toks t = Y at *
 generalize chL s t = F at *
 refine WL.rowCap (a := ax) (cap := cx) (T := 9) (sz := 1) (es := strs X) zhs ?_
 intro hcx
 refine WL.rowCap (a := ay) (cap := cy) (T := 9) (sz := 1) (es := strs Y) zhs ?_
 intro hcy
 rw [zY] at hcx hcy
 refine st ?_; intros; rename_i bx by_ bc bi bk
 refine zA func67 ?_ (hs := kV (A := X) (B := Y) (by omega) (by omega) hcx hcy (RowR.row (T := 9) (cap := cx) zhs) (RowR.row (T := 9) (cap := cy) zhs))
 rintro v m9 H9 ⟨rfl, a1, c1, rfl, rfl⟩
 try (refine st ?_; intros)
 refine WC.newRow (T := 153) (sz := 3) ?_
 refine WC.weak zsb zpk (zEV (X := X) (Y := Y) (M := yE X Y) (F := F) (bx := bx) (by_ := by_) (bk := bk) (bc := bc) (bi := bi) (H := H) ⟨by omega, by omega, hcx⟩ ⟨by omega, by omega, hcy⟩ hM (by omega) hF ?_)
 intro L i k ac cc hgo hi hk hL
 try (refine st ?_; intros)
 refine WL.heap (H' := [.bl bx [.slice ax X.length cx] 83, .row ax cx 9 1 (strs X), .bl by_ [.slice ay Y.length cy] 83, .row ay cy 9 1 (strs Y), .bl bk [.int .i64 (k : Int)] 3, .bl bi [.int .i64 (i : Int)] 3, .bl bc [.slice ac L.length cc] 154, .row ac cc 153 3 (L.map Stp.cs)] ++ H) zpk ?_
 refine WL.callV rfl func116 rfl rfl (by exact rfl) (by exact rfl) (zFV (X := X) (Y := Y) (L := L) (n := X.length) (mm := Y.length) ⟨by omega, by omega, hcx⟩ ⟨by omega, by omega, hcy⟩ ⟨hi, Nat.le_refl _⟩ ⟨hk, Nat.le_refl _⟩ (by omega)) ?_
 rintro v m9 H9 ⟨rfl, ac2, cc2, rfl⟩
 rw [show L ++ (putT (jn Y k Y.length) ++ dropT (jn X i X.length)) = F from hgo]
 simp only [List.cons_append, List.nil_append]
 try (refine st ?_; intros)
 refine zA func117 ?_ (hs := zGi hsz _ _ _ (RowR.row (a := ac2) zhs))
 rintro v m9 H9 ⟨rfl, c3, p3, rfl, rfl⟩
 try (refine st ?_; intros)
 exact q_fz ⟨hle1.trans hle2, c3, p3, rfl, rfl⟩
end ZP
namespace Go.Eng
open Go
def oneS (x : Stp) : List Stp := if 0 < x.k ∨ x.d ≠ [] ∨ x.p ≠ [] then [x] else []
end Go.Eng
namespace ZP
open Go Go.Eng
namespace ZD38a
theorem zal {G G' : Prop} (next : G') (h : Bx G' → G := by intro zzn; (first | (refine WL.append1 (by':=40) rfl rfl rfl rfl (by (repeat (first | exact Out.here | apply Out.there))) zhs (by exact rfl) (by exact rfl) (by exact rfl) (by exact rfl) (by exact rfl) (by exact rfl) (by first | exact rfl | omega) (by first | omega | (simp; omega)) (by decide) (by exact rfl) ?_; intro zzf zzf)); (repeat revert zzf); exact zzn.out) : G := h ⟨next⟩
end ZD38a
end ZP
namespace ZP
open Go Go.Eng
attribute [local irreducible] strs jn putT dropT chGo oneS
namespace ZD39a
theorem zal {G G' : Prop} (next : G') (h : Bx G' → G := by intro zzn; (first | (refine WL.indexAddrA rfl rfl (by exact znz) rfl rfl (by omega) rfl rfl ?_)); (repeat revert zzf); exact zzn.out) : G := h ⟨next⟩
end ZD39a
end ZP
namespace ZP
open Go Go.Eng
end ZP
