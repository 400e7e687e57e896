/-
  Parts of a walk, joined. No condition.
-/
import Derived.Test.YtgckeelnhafgaaaGreatDoorP11
set_option linter.all false
set_option maxRecDepth 100000
set_option maxHeartbeats 4000000
open Go.Proofs Go.Proofs.YtgckeelnhafgaaaGreatDoor
open Tryz
open Go Go.Eng
variable {P : Program} {ro : Option Nat} {n : Nat} {w0 : World} {Q : Exit → Act → World → Prop} {r : Env} {ds : List Dfr} {m : Mem} {H : SHeap} {ops : Array Oper} {l : List Oper} {d : Nat} {ty : TypeId} {pos : String} {after : Array Edge}
attribute [local irreducible] WL WC WQ QFun zJ Does Q1 zD zB Go.Addr.add
namespace ZP
open Go Go.Eng
namespace ZEQBa
theorem zal {G G' : Prop} (next : G') (h : Bx G' → G := by intro zzn; (first | (refine iSD rfl ?_; refine WL.sliceData rfl (by assumption) rfl ?_)); (repeat revert zzf); exact zzn.out) : G := h ⟨next⟩
end ZEQBa
open ZEQBa in
theorem zFf {b cap : Nat} {ao a : Option Addr} {t : List UInt8} (hc : a = none ∨ 0 < cap) (hl : t.length ≤ 140737488355328) (w0 : World) (m : Mem) (H : SHeap) :
  Does Tryz.prog 51 #[.pp b] w0 m (.bl b [.pointer ao, .slice a t.length cap] 111 :: .row a cap 5 1 (bCs t) :: H) (Gives (str t) m H) := by
 refine Does.of_body func51 rfl ntmps51 rfl ?_
 have hbl := zS t
 try (refine stg ?_; intros)
 refine wdw 11 ([.bl b [.pointer ao, .slice a t.length cap] 111]) ?_
 refine cmg ?_
 refine wa1 10 ?_
 refine WL.strRow (s := t) rfl rfl (by (repeat (first | exact Out.here | apply Out.there))) rfl (by kernel_rfl) (by omega) rfl ?_
 try (refine stg ?_; intros)
 refine waz [] zml ?_
 refine wdz ?_
 try (refine stg ?_; intros)
 exact q_fz zgm
namespace ZEQBb
theorem zal {G G' : Prop} (next : G') (h : Bx G' → G := by intro zzn; (first | (refine ZEQBa.zal ?_; (repeat intro zzf)) | (refine iConv rfl ?_; refine WL.convu32 rfl rfl rfl rfl (by omega) ?_) | (refine WL.orAnd rfl rfl rfl (by omega) ?_) | (refine iConv rfl ?_; refine WL.convu32 rfl rfl rfl rfl (by omega) ?_) | (refine WL.orAnd rfl rfl rfl (by omega) ?_)); (repeat revert zzf); exact zzn.out) : G := h ⟨next⟩
end ZEQBb
open ZEQBb in
theorem zCO (s t : List UInt8) : bCs s ++ bCs t = bCs (s ++ t) := by simp [bCs]
open ZEQBb in
theorem zHn (s : List UInt8) : ∀ q ∈ bCs s, q.all okCell = true := fun q hq => by
 obtain ⟨c, _, rfl⟩ := List.mem_map.1 hq; rfl
open ZEQBb in
theorem zAG (s : List UInt8) : ∀ q ∈ bCs s, q.length = 1 := fun q hq => by
 obtain ⟨c, _, rfl⟩ := List.mem_map.1 hq; rfl
open ZEQBb in
theorem zCC {a : Option Addr} {cap : Nat} {t : List UInt8} (c : Nat) (hc : okr c) (h128 : 128 ≤ c) (hl : t.length ≤ 16777216) (w0 : World) (m : Mem) (H : SHeap) :
  Does Tryz.prog 228 #[.slice a t.length cap, .int .i32 (c : Int)] w0 m (.row a cap 5 1 (bCs t) :: H) (fun v m' H' => m' = m ∧ ∃ a2 cap2, v = .slice a2 (t ++ fmb c).length cap2 ∧ H' = .row a2 cap2 5 1 (bCs (t ++ fmb c)) :: H) := by
 refine Does.of_body func228 rfl ntmps228 rfl ?_
 have hbl := zS t
 have hbf := zS (fmb c)
 have hfl := xS c
 have hwd := zBB c
 have hc1 := qZ hc
 have hc2 : c < 55296 ∨ 57343 < c := by unfold okr at hc; omega
 by_cases h1 : c ≤ 2047
 ·have hr := rune2 h128 h1
  have hw : wd c = 2 := by unfold wd; rw [if_neg (by omega), if_pos (by omega)]
  refine stg ?_; intros; rename_i b
  refine WL.appendR (es := bCs t) (es' := bCs (fmb c)) (by' := 1) rfl rfl rfl rfl (by (repeat (first | exact Out.here | apply Out.there))) (yZ (T := 5) (fz := (0, 0)) (L := [.int .u8 ((Int.toNat 192 ||| ((c : Int) / 2 ^ 6 % 256).toNat : Nat) : Int), .int .u8 (128 + (c : Int) % 256 % 64)]) zhs (by rw [← hr]; rfl) (zAG _)) (zHn _) (zAG _) rfl rfl rfl rfl hbl.symm (by rw [hbf, hfl, hw]) (by rw [hbl, hbf]; omega) (by omega) rfl ?_
  intro a2 cap2
  rw [zCO, hbl, hbf, ← List.length_append]
  try (refine stg ?_; intros)
  exact q_fz ⟨rfl, a2, cap2, rfl, rfl⟩
 by_cases h2 : c ≤ 65535
 ·have hr := rune3 (c := c) (by omega) h2
  have hw : wd c = 3 := by unfold wd; rw [if_neg (by omega), if_neg (by omega), if_pos (by omega)]
  rcases hc2 with h3 | h3
  all_goals
   refine stg ?_; intros; rename_i b
   refine WL.appendR (es := bCs t) (es' := bCs (fmb c)) (by' := 1) rfl rfl rfl rfl (by (repeat (first | exact Out.here | apply Out.there))) (yZ (T := 5) (fz := (0, 0)) (L := [.int .u8 ((Int.toNat 224 ||| ((c : Int) / 2 ^ 12 % 256).toNat : Nat) : Int), .int .u8 (128 + (c : Int) / 2 ^ 6 % 256 % 64), .int .u8 (128 + (c : Int) % 256 % 64)]) zhs (by rw [← hr]; rfl) (zAG _)) (zHn _) (zAG _) rfl rfl rfl rfl hbl.symm (by rw [hbf, hfl, hw]) (by rw [hbl, hbf]; omega) (by omega) rfl ?_
   intro a2 cap2
   rw [zCO, hbl, hbf, ← List.length_append]
   try (refine stg ?_; intros)
   exact q_fz ⟨rfl, a2, cap2, rfl, rfl⟩
 ·have hr := rune4 (c := c) (by omega) hc1
  have hw : wd c = 4 := by unfold wd; rw [if_neg (by omega), if_neg (by omega), if_neg (by omega)]
  rcases hc2 with h3 | h3
  ·exfalso; omega
  ·refine stg ?_; intros; rename_i b
   refine WL.appendR (es := bCs t) (es' := bCs (fmb c)) (by' := 1) rfl rfl rfl rfl (by (repeat (first | exact Out.here | apply Out.there))) (yZ (T := 5) (fz := (0, 0)) (L := [.int .u8 ((Int.toNat 240 ||| ((c : Int) / 2 ^ 18 % 256).toNat : Nat) : Int), .int .u8 (128 + (c : Int) / 2 ^ 12 % 256 % 64), .int .u8 (128 + (c : Int) / 2 ^ 6 % 256 % 64), .int .u8 (128 + (c : Int) % 256 % 64)]) zhs (by rw [← hr]; rfl) (zAG _)) (zHn _) (zAG _) rfl rfl rfl rfl hbl.symm (by rw [hbf, hfl, hw]) (by rw [hbl, hbf]; omega) (by omega) rfl ?_
   intro a2 cap2
   rw [zCO, hbl, hbf, ← List.length_append]
   try (refine stg ?_; intros)
   exact q_fz ⟨rfl, a2, cap2, rfl, rfl⟩
open ZEQBb in
theorem zBZ {a : Option Addr} {cap : Nat} {t : List UInt8} (c : Nat) (hc : okr c) (hl : t.length ≤ 16777216) (w0 : World) (m : Mem) (H : SHeap) :
  Does Tryz.prog 206 #[.slice a t.length cap, .int .i32 (c : Int)] w0 m (.row a cap 5 1 (bCs t) :: H) (fun v m' H' => m' = m ∧ ∃ a2 cap2, v = .slice a2 (t ++ fmb c).length cap2 ∧ H' = .row a2 cap2 5 1 (bCs (t ++ fmb c)) :: H) := by
 refine Does.of_body func206 rfl ntmps206 rfl ?_
 have hbl := zS t
 have hbf := zS (fmb c)
 have hfl := xS c
 have hc1 := qZ hc
 by_cases h1 : c ≤ 127
 ·have hr := rune1 h1
  have hw : wd c = 1 := by unfold wd; rw [if_pos (by omega)]
  refine stg ?_; intros; rename_i b a2 cap2
  rw [hr, zCO, hbl, show t.length + 1 = (t ++ fmb c).length by rw [List.length_append, hfl, hw]]
  exact q_fz ⟨rfl, a2, cap2, rfl, rfl⟩
 ·try (refine stg ?_; intros)
  refine zA func228 ?_ (hs := zCC c hc (by omega) hl _ _ _)
  rintro v m H1 ⟨rfl, a2, cap2, rfl, rfl⟩
  try (refine stg ?_; intros)
  exact q_fz ⟨rfl, a2, cap2, rfl, rfl⟩
open ZEQBb in
theorem zDc {b cap : Nat} {ao a : Option Addr} {t : List UInt8} (c : Nat) (hc : okr c) (hao : ao = none ∨ ao = some ⟨b, 0, none⟩) (hl : t.length ≤ 16777216) (w0 : World) (m : Mem) (H : SHeap) :
  Does Tryz.prog 164 #[.pp b, .int .i32 (c : Int)] w0 m (.bl b [.pointer ao, .slice a t.length cap] 111 :: .row a cap 5 1 (bCs t) :: H)
   (fun v m' H' => m' = m ∧ Bldr b (t ++ fmb c) H H') := by
 refine Does.of_body func164 rfl ntmps164 rfl ?_
 have hfl := xS c
 have hwd := zBB c
 try (refine stg ?_; intros)
 refine zA func79 ?_ (hs := qQ hao _ _ _)
 rintro v m H1 ⟨rfl, rfl⟩
 try (refine stg ?_; intros)
 refine zN func206 ?_ (hs := zBZ c hc hl _ _ _)
 rintro v m H1 ⟨rfl, a2, cap2, rfl, rfl⟩
 have hbl2 := zS (t ++ fmb c)
 have htl : (t ++ fmb c).length = t.length + wd c := by rw [List.length_append, hfl]
 refine WL.rowCap (a := a2) zhs fun hcap => ?_
 try (refine stg ?_; intros)
 exact q_fz ⟨rfl, some ⟨b, 0, none⟩, a2, cap2, .inr rfl, .inr (by omega), rfl⟩
theorem zAa {b cap : Nat} {ao a : Option Addr} {t : List UInt8} (c : UInt8) (hao : ao = none ∨ ao = some ⟨b, 0, none⟩) (hc : a = none ∨ 0 < cap) (hl : t.length ≤ 16777216) (w0 : World) (m : Mem) (H : SHeap) :
  Does Tryz.prog 163 #[.pp b, .int .u8 (c.toNat : Int)] w0 m (.bl b [.pointer ao, .slice a t.length cap] 111 :: .row a cap 5 1 (bCs t) :: H) (fun v m' H' => m' = m ∧ v = .nilIface ∧ Bldr b (t ++ [c]) H H') := by
 refine Does.of_body func163 rfl ntmps163 rfl ?_
 have hbl := zS t
 have hbl2 := zS (t ++ [c])
 have e : bCs t ++ [[Value.int .u8 (c.toNat : Int)]] = bCs (t ++ [c]) := by simp [bCs]
 have el : (bCs t).length + 1 = (t ++ [c]).length := by rw [hbl]; simp
 have hbl3 : (t ++ [c]).length = t.length + 1 := by simp
 try (refine st ?_; intros)
 refine zA func79 ?_ (hs := qQ hao _ _ _)
 rintro v m H1 ⟨rfl, rfl⟩
 refine st ?_; intros; rename_i q a2 cap2
 rw [e, el]
 refine WQ.rowCap (a := a2) zhs fun hcap => ?_
 exact q_fz ⟨rfl, rfl, some ⟨b, 0, none⟩, a2, cap2, .inr rfl, .inr (by omega), rfl⟩
end ZP
namespace Go.Eng
open Go
theorem zC4 {s : List UInt8} {k : Nat} (hk : k < s.length) : (zK s k).b = true ↔ (zK s k).r = 65533 ∧ Lib.hasPrefix (s.drop k) [239, 191, 189] = false := by
 have hp : Lib.hasPrefix (s.drop k) [239, 191, 189] = true ↔ begins (s.drop k) 65533 := by
  unfold Lib.hasPrefix
  rw [List.isPrefixOf_iff_prefix, List.prefix_iff_eq_take, qI _ _ (by decide)]
  rw [show wd 65533 = 3 by decide, show fmb 65533 = [239, 191, 189] by decide]
  exact eq_comm
 have hok : okr 65533 := by right; decide
 unfold zK
 split
 ·rename_i h
  simp only [true_and, true_iff]
  cases h2 : Lib.hasPrefix (s.drop k) [239, 191, 189] with
  | false => rfl
  | true =>
   have := uY hok (hp.1 h2)
   rw [this] at h
   exact absurd h (by decide)
 ·rename_i h
  constructor
  ·intro h2; cases h2
  ·rintro ⟨h1, h2⟩
   exfalso
   rcases vZ (s.drop k) (by simp; omega) with ⟨_, _, h3⟩ | ⟨h3, _⟩
   ·simp only at h1
    rw [h1] at h3
    rw [hp.2 h3] at h2
    cases h2
   ·exact h h3
theorem zFX {n : Nat} (h : n < 16) : (hexs.take (n + 1)).drop n = [hexB n] := by
 have all : ∀ i : Fin 16, (hexs.take (i.1 + 1)).drop i.1 = [hexB i.1] := by decide
 exact all ⟨n, h⟩
end Go.Eng
namespace ZP
open Go Go.Eng
attribute [local irreducible] zK zC dl xD zL xX Utf8.encode
namespace ZEQ2a
theorem zal {G G' : Prop} (next : G') (h : Bx G' → G := by intro zzn; (first | (refine iF 61 rfl ?_; refine zU func61 ?_ (hs := zDb _ _ _)) | (refine iF 165 rfl ?_; refine zU func165 ?_ (hs := zC1 _ (by assumption) (by assumption)))); (repeat revert zzf); exact zzn.out) : G := h ⟨next⟩
end ZEQ2a
open ZEQ2a in
theorem zEC (s : List UInt8) (hs : s.length ≤ 1048576) {w0 : World} {m : Mem} {H : SHeap} (hg : GTabs Tryz.prog m) :
  Does Tryz.prog 119 #[str s] w0 m H (Gives (str (yG s)) m H) := by
 refine Does.of_body func119 rfl ntmps119 rfl ?_
 refine WC.newRow (T := 5) (sz := 1) ?_
 have hp0 : zC s = xD s 0 := by unfold zC; rfl
 refine stg ?_; intros; rename_i bB
 refine zA func163 ?_ (hs := zAa (t := []) 34 (.inl rfl) (.inl rfl) (by simp) _ _ _)
 rintro v m H1 ⟨rfl, rfl, ao, a9, c9, hao, hc9, rfl⟩
 refine stg ?_; intros; rename_i bi
 refine lpz (fun j r ds m' H' => ∃ (k : Nat) (ao : Option Addr) (a9 : Option Addr) (c9 : Nat) (n9 : Nat) (O : List UInt8), j = s.length - k ∧ r = [(0, str s), (3, .pp bB), (9, .pp bi)] ∧ ds = [] ∧ m = m' ∧ H' = .blk bi (.stringIter ⟨s.toArray⟩ k) :: .bl bB [.pointer ao, .slice a9 n9 c9] 111 :: .row a9 c9 5 1 (bCs O) :: H ∧ (n9 = O.length) ∧ (ao = none ∨ ao = some ⟨bB, 0, none⟩) ∧ (a9 = none ∨ 0 < c9) ∧ (k ≤ s.length) ∧ (O.length ≤ 1 + 12 * k) ∧ ([34] ++ xX s (zC s) = O ++ xX s (xD s k))) (s.length - (0)) ⟨0, ao, a9, c9, 1, [34], rfl, rfl, rfl, rfl, rfl, rfl, hao, hc9, Nat.zero_le _, by simp, by rw [hp0]⟩ ?_
 rintro j r ds m' H' ⟨k, ao, a9, c9, n9, O, rfl, rfl, rfl, rfl, rfl, hn9, hao, hc9, hk, hOl, hO⟩
 subst hn9
 by_cases hlt : k < s.length
 ·have hw := wQ hlt
  have hok := jZ hlt
  have hrl := qZ hok
  have hat := vJ s k
  have hdl : (dl (s.drop k)).1 = (zK s k).r := (qD s k).symm
  have hdw : (dl (s.drop k)).2 = (zK s k).w := (qG s k).symm
  have hbp := zC4 hlt
  have hW := qJ s (zK s k) hrl
  have hnext : [34] ++ xX s (zC s) = (O ++ zL s (zK s k)) ++ xX s (xD s (k + (zK s k).w)) := by
   rw [hO, yQ hlt]; unfold xX; rw [List.flatMap_cons, List.append_assoc]
  have hnl : (O ++ zL s (zK s k)).length = O.length + (zL s (zK s k)).length := List.length_append
  generalize hP : zK s k = p at *
  cases hb : p.b with
  | true =>
   obtain ⟨hr, hpre⟩ := hbp.1 hb
   have hr2 : ((dl (s.drop k)).1 : Int) = 65533 := by rw [hdl, hr]; rfl
   have hw1 : zL s p = [92, 120, hexB (gb s k / 16), hexB (gb s k % 16)] := by unfold zL; rw [if_pos hb, hat]
   have hgl := zIz s k
   have hand : ((gb s k : Int).toNat &&& (15 : Int).toNat) = gb s k % 16 := and15 _
   have hsh : (gb s k : Int) / 2 ^ 4 = ((gb s k / 16 : Nat) : Int) := by omega
   have hl16 : ([48, 49, 50, 51, 52, 53, 54, 55, 56, 57, 97, 98, 99, 100, 101, 102] : List UInt8).length = 16 := rfl
   have hc1 : ([48, 49, 50, 51, 52, 53, 54, 55, 56, 57, 97, 98, 99, 100, 101, 102].take (gb s k / 16 + 1)).drop (gb s k / 16) = [hexB (gb s k / 16)] := zFX (by omega)
   have hc2 : ([48, 49, 50, 51, 52, 53, 54, 55, 56, 57, 97, 98, 99, 100, 101, 102].take (gb s k % 16 + 1)).drop (gb s k % 16) = [hexB (gb s k % 16)] := zFX (by omega)
   have hl2 : ([92, 120] : List UInt8).length = 2 := rfl
   have hl3 : ([92, 120] ++ [hexB (gb s k / 16)] : List UInt8).length = 3 := rfl
   have hl4 : [hexB (gb s k / 16)].length = 1 := rfl
   have hl5 : [hexB (gb s k % 16)].length = 1 := rfl
   have hpre2 : (!Lib.hasPrefix (s.drop k) [239, 191, 189]) = true := by rw [hpre]; rfl
   try (refine stg ?_; intros)
   refine wdw 15 ([.blk bi (.stringIter ⟨s.toArray⟩ (k + (dl (List.drop k s)).2))]) ?_
   refine cmg ?_
   rw [hsh, hand]
   refine cmg ?_
   rw [hc1, hc2]
   refine cmg ?_
   refine cmg ?_
   refine wa1 14 ?_
   try (refine stg ?_; intros)
   rw [show [92, 120] ++ [hexB (gb s k / 16)] ++ [hexB (gb s k % 16)] = zL s p by rw [hw1]; rfl]
   refine WL.heap (H' := .bl bB [.pointer ao, .slice a9 O.length c9] 111 :: .row a9 c9 5 1 (bCs O) :: .blk bi (.stringIter ⟨s.toArray⟩ (k + (dl (List.drop k s)).2)) :: H) zpk ?_
   refine zA func48 ?_ (hs := zM (t := O) (s := zL s p) hao hc9 (by unfold FitsB; omega) _ _ _)
   rintro v m H1 ⟨rfl, rfl, ao, a8, c8, hao, hc8, rfl⟩
   try (refine stg ?_; intros)
   refine waz [] zml ?_
   refine wdz ?_
   try (refine stg ?_; intros)
   rw [hdw]
   refine nxz (s.length - (k + p.w)) ⟨k + p.w, ao, a8, c8, (O ++ zL s p).length, O ++ zL s p, rfl, rfl, rfl, rfl, rfl, ?_, ?_, ?_, ?_, ?_, ?_⟩
   ·rfl
   ·exact hao
   ·exact hc8
   ·omega
   ·omega
   ·exact hnext
  | false =>
   have hpre : ¬ (p.r = 65533 ∧ Lib.hasPrefix (s.drop k) [239, 191, 189] = false) := fun h => by rw [hbp.2 h] at hb; cases hb
   by_cases h34 : p.r = 34 ∨ p.r = 92
   ·have hw1 : zL s p = [92, UInt8.ofNat p.r] := by unfold zL; rw [if_neg (by rw [hb]; decide), if_pos h34]
    have hef : fmb p.r = [UInt8.ofNat p.r] := by unfold fmb fm; rw [if_pos (by omega)]; rfl
    have hen : (Utf8.encode ((dl (List.drop k s)).1 : Int)).data.toList = [UInt8.ofNat p.r] := by rw [hdl, zAb, zHQ hok, hef]
    have hl2 : ([92] : List UInt8).length = 1 := rfl
    have hl1 : ([UInt8.ofNat p.r] : List UInt8).length = 1 := rfl
    rcases h34 with h34 | h34
    all_goals
     have hr2 : ((dl (List.drop k s)).1 : Int) = p.r := by rw [hdl]
     have hel : (Utf8.encode ((dl (List.drop k s)).1 : Int)).data.toList.length = 1 := by rw [hen]; rfl
     try (refine stg ?_; intros)
     rw [hen, show [92] ++ [UInt8.ofNat p.r] = zL s p by rw [hw1]; rfl]
     refine WL.heap (H' := .bl bB [.pointer ao, .slice a9 O.length c9] 111 :: .row a9 c9 5 1 (bCs O) :: .blk bi (.stringIter ⟨s.toArray⟩ (k + (dl (List.drop k s)).2)) :: H) zpk ?_
     refine zA func48 ?_ (hs := zM (t := O) (s := zL s p) hao hc9 (by unfold FitsB; omega) _ _ _)
     rintro v m H1 ⟨rfl, rfl, ao, a8, c8, hao, hc8, rfl⟩
     try (refine stg ?_; intros)
     rw [hdw]
     refine nxz (s.length - (k + p.w)) ⟨k + p.w, ao, a8, c8, (O ++ zL s p).length, O ++ zL s p, rfl, rfl, rfl, rfl, rfl, ?_, ?_, ?_, ?_, ?_, ?_⟩
     ·rfl
     ·exact hao
     ·exact hc8
     ·omega
     ·omega
     ·exact hnext
   ·have hr34 : ¬ ((dl (List.drop k s)).1 : Int) = 34 := by omega
    have hr92 : ¬ ((dl (List.drop k s)).1 : Int) = 92 := by omega
    by_cases h32 : 32 ≤ p.r ∧ p.r ≤ 126
    ·have hw1 : zL s p = [UInt8.ofNat p.r] := by unfold zL; rw [if_neg (by rw [hb]; decide), if_neg h34, if_pos h32]
     have hef : zL s p = fmb (dl (List.drop k s)).1 := by rw [hw1, hdl]; unfold fmb fm; rw [if_pos (by omega)]; rfl
     have hok2 : okr (dl (List.drop k s)).1 := by rw [hdl]; exact hok
     have g1 : (32 : Int) ≤ ((dl (List.drop k s)).1 : Int) := by omega
     have g2 : ((dl (List.drop k s)).1 : Int) ≤ 126 := by omega
     try (refine stg ?_; intros)
     refine WL.heap (H' := .bl bB [.pointer ao, .slice a9 O.length c9] 111 :: .row a9 c9 5 1 (bCs O) :: .blk bi (.stringIter ⟨s.toArray⟩ (k + (dl (List.drop k s)).2)) :: H) zpk ?_
     refine zA func164 ?_ (hs := zDc (t := O) (dl (List.drop k s)).1 hok2 hao (by omega) _ _ _)
     rintro v m H1 ⟨rfl, ao, a8, c8, hao, hc8, rfl⟩
     rw [← hef]
     try (refine stg ?_; intros)
     rw [hdw]
     refine nxz (s.length - (k + p.w)) ⟨k + p.w, ao, a8, c8, (O ++ zL s p).length, O ++ zL s p, rfl, rfl, rfl, rfl, rfl, ?_, ?_, ?_, ?_, ?_, ?_⟩
     ·rfl
     ·exact hao
     ·exact hc8
     ·omega
     ·omega
     ·exact hnext
    ·have hw1 : zL s p = [92, 123] ++ hexL p.r ++ [125] := by unfold zL; rw [if_neg (by rw [hb]; decide), if_neg h34, if_neg h32]
     have hu : (dl (List.drop k s)).1 ≤ 1114111 := by omega
     have hx5 := uM 5 (dl (List.drop k s)).1 (by omega)
     have l2 : ([92, 123] : List UInt8).length = 2 := rfl
     have l3 : ([92, 123] ++ hexL (dl (List.drop k s)).1).length = 2 + (hexL (dl (List.drop k s)).1).length := by rw [List.length_append]; rfl
     have l1 : ([125] : List UInt8).length = 1 := rfl
     have ex : [92, 123] ++ hexL (dl (List.drop k s)).1 ++ [125] = zL s p := by rw [hw1, hdl]
     have hpf : p.r = 65533 → (!Lib.hasPrefix (s.drop k) [239, 191, 189]) = false := fun h => by
      cases h2 : Lib.hasPrefix (s.drop k) [239, 191, 189] with
      | true => rfl
      | false => exact absurd ⟨h, h2⟩ hpre
     rcases (show p.r < 32 ∨ (126 < p.r ∧ p.r ≠ 65533) ∨ p.r = 65533 by omega) with g1 | g1 | g1
     ·have g2 : ¬ (32 : Int) ≤ ((dl (List.drop k s)).1 : Int) := by omega
      have g3 : ¬ ((dl (List.drop k s)).1 : Int) = 65533 := by omega
      try (refine stg ?_; intros)
      rw [ex]
      refine WL.heap (H' := .bl bB [.pointer ao, .slice a9 O.length c9] 111 :: .row a9 c9 5 1 (bCs O) :: .blk bi (.stringIter ⟨s.toArray⟩ (k + (dl (List.drop k s)).2)) :: H) zpk ?_
      refine zA func48 ?_ (hs := zM (t := O) (s := zL s p) hao hc9 (by unfold FitsB; omega) _ _ _)
      rintro v m H1 ⟨rfl, rfl, ao, a8, c8, hao, hc8, rfl⟩
      try (refine stg ?_; intros)
      rw [hdw]
      refine nxz (s.length - (k + p.w)) ⟨k + p.w, ao, a8, c8, (O ++ zL s p).length, O ++ zL s p, rfl, rfl, rfl, rfl, rfl, ?_, ?_, ?_, ?_, ?_, ?_⟩
      ·rfl
      ·exact hao
      ·exact hc8
      ·omega
      ·omega
      ·exact hnext
     ·have g2 : ¬ ((dl (List.drop k s)).1 : Int) ≤ 126 := by omega
      have g3 : ¬ ((dl (List.drop k s)).1 : Int) = 65533 := by omega
      try (refine stg ?_; intros)
      rw [ex]
      refine WL.heap (H' := .bl bB [.pointer ao, .slice a9 O.length c9] 111 :: .row a9 c9 5 1 (bCs O) :: .blk bi (.stringIter ⟨s.toArray⟩ (k + (dl (List.drop k s)).2)) :: H) zpk ?_
      refine zA func48 ?_ (hs := zM (t := O) (s := zL s p) hao hc9 (by unfold FitsB; omega) _ _ _)
      rintro v m H1 ⟨rfl, rfl, ao, a8, c8, hao, hc8, rfl⟩
      try (refine stg ?_; intros)
      rw [hdw]
      refine nxz (s.length - (k + p.w)) ⟨k + p.w, ao, a8, c8, (O ++ zL s p).length, O ++ zL s p, rfl, rfl, rfl, rfl, rfl, ?_, ?_, ?_, ?_, ?_, ?_⟩
      ·rfl
      ·exact hao
      ·exact hc8
      ·omega
      ·omega
      ·exact hnext
     ·have g2 : ¬ ((dl (List.drop k s)).1 : Int) ≤ 126 := by omega
      have g3 : ((dl (List.drop k s)).1 : Int) = 65533 := by omega
      have g4 := hpf g1
      try (refine stg ?_; intros)
      rw [ex]
      refine WL.heap (H' := .bl bB [.pointer ao, .slice a9 O.length c9] 111 :: .row a9 c9 5 1 (bCs O) :: .blk bi (.stringIter ⟨s.toArray⟩ (k + (dl (List.drop k s)).2)) :: H) zpk ?_
      refine zA func48 ?_ (hs := zM (t := O) (s := zL s p) hao hc9 (by unfold FitsB; omega) _ _ _)
      rintro v m H1 ⟨rfl, rfl, ao, a8, c8, hao, hc8, rfl⟩
      try (refine stg ?_; intros)
      rw [hdw]
      refine nxz (s.length - (k + p.w)) ⟨k + p.w, ao, a8, c8, (O ++ zL s p).length, O ++ zL s p, rfl, rfl, rfl, rfl, rfl, ?_, ?_, ?_, ?_, ?_, ?_⟩
      ·rfl
      ·exact hao
      ·exact hc8
      ·omega
      ·omega
      ·exact hnext
 ·have ek : k = s.length := by omega
  rw [xZ hlt] at hO
  have hq : O ++ [34] = yG s := by unfold yG; rw [hO]; unfold xX; simp
  try (refine stg ?_; intros)
  refine zA func163 ?_ (hs := zAa (t := O) 34 hao hc9 (by omega) _ _ _)
  rintro v m H1 ⟨rfl, rfl, ao, a8, c8, hao, hc8, rfl⟩
  rw [hq]
  have hql := wS s
  try (refine stg ?_; intros)
  refine zA func51 ?_ (hs := zFf (t := yG s) hc8 (by omega) _ _ _)
  rintro v m H1 ⟨rfl, rfl, rfl⟩
  try (refine stg ?_; intros)
  exact q_fz zgm
end ZP
namespace ZP
open Go Go.Eng
attribute [local irreducible] xQ zT
theorem zBR {a : Option Addr} {cap : Nat} {l : List Stp} (hf : Fit l) (w0 : World) (m : Mem) (H : SHeap) (hr : RowR w0 m H 3 a (l.map Stp.cs)) :
  Does Tryz.prog 118 #[.slice a l.length cap] w0 m H (Gives (szP (zT l)) m H) := by
 refine Does.of_body func118 rfl ntmps118 rfl ?_
 have hln : (l.map Stp.cs).length = l.length := by simp
 have hlen := hf.len
 try (refine st ?_; intros)
 refine lpz (fun j r ds m' H' => ∃ (i : _) (f : Int) (t : Int), j = l.length - i ∧ r = [(12, .int .i64 (i : Int)), (11, .int .i64 (l.length : Int)), (10, .slice a l.length cap), (5, .int .i64 f), (6, .int .i64 t)] ∧ ds = [] ∧ m = m' ∧ H' = H ∧ (i ≤ l.length) ∧ (0 ≤ f ∧ f ≤ 65536 ∧ 0 ≤ t ∧ t ≤ 65536) ∧ (xQ (l.drop i) f t = zT l) ∧ (RowR w0 m H 3 a (l.map Stp.cs))) (l.length - (0)) ⟨0, 0, 0, rfl, rfl, rfl, rfl, rfl, by omega, by omega, by rw [zT]; rfl, hr⟩ ?_
 rintro j r ds m' H' ⟨i, f, t, rfl, rfl, rfl, rfl, rfl, hi, hn, hs, hr⟩
 generalize H' = H at *
 by_cases hlt : i < l.length
 ·obtain ⟨x, hx, hget, htk, hmem, hdr⟩ := zBj (f := Stp.cs) hlt
  have hk := hf.k x hmem
  have hd := hf.d x hmem
  have hp := hf.p x hmem
  rw [hdr] at hs
  refine WC.rSome hr (by omega) ?_
  rintro a0 rfl
  have hdl : x.d = [] → x.d.length = 0 := fun h => by rw [h]; rfl
  have hpl : x.p = [] → x.p.length = 0 := fun h => by rw [h]; rfl
  by_cases h1 : x.k = 0 <;> by_cases h2 : x.d = [] <;> by_cases h3 : x.p = []
  ·rw [zW (fun h => by simp [yL, h1, h2, h3] at h)] at hs
   try (refine st ?_; intros)
   exact q_fz (Gives.mk (by rw [← hs]; try rfl))
  ·have hok : yL x := .inr (.inr ⟨h1, h2, h3⟩)
   have h2' := hdl h2
   by_cases h4 : t + (x.k + (x.p.length : Int)) ≤ 65536
   ·rw [wI hok (by omega) (by omega) (by omega)] at hs
    try (refine st ?_; intros)
    refine nxz (l.length - (i + 1)) ⟨i + 1, _, _, rfl, rfl, rfl, rfl, rfl, ?_, ?_, ?_, ?_⟩
    ·omega
    ·omega
    ·rw [← hs]; congr 1 <;> omega
    ·assumption
   ·rw [zW (by omega)] at hs
    try (refine st ?_; intros)
    exact q_fz (Gives.mk (by rw [← hs]; try rfl))
  ·have hok : yL x := .inr (.inl ⟨h1, h2, h3⟩)
   have h3' := hpl h3
   by_cases h4 : f + (x.k + (x.d.length : Int)) ≤ 65536
   ·rw [wI hok (by omega) (by omega) (by omega)] at hs
    try (refine st ?_; intros)
    refine nxz (l.length - (i + 1)) ⟨i + 1, _, _, rfl, rfl, rfl, rfl, rfl, ?_, ?_, ?_, ?_⟩
    ·omega
    ·omega
    ·rw [← hs]; congr 1 <;> omega
    ·assumption
   ·rw [zW (by omega)] at hs
    try (refine st ?_; intros)
    exact q_fz (Gives.mk (by rw [← hs]; try rfl))
  ·rw [zW (fun h => by simp [yL, h1, h2, h3] at h)] at hs
   try (refine st ?_; intros)
   exact q_fz (Gives.mk (by rw [← hs]; try rfl))
  ·have h2' := hdl h2
   have h3' := hpl h3
   by_cases h5 : x.k < 0
   ·rw [zW (fun h => by rcases h.1 with g | g | g <;> omega)] at hs
    try (refine st ?_; intros)
    exact q_fz (Gives.mk (by rw [← hs]; try rfl))
   ·by_cases h6 : 65536 < x.k
    ·rw [zW (by omega)] at hs
     try (refine st ?_; intros)
     exact q_fz (Gives.mk (by rw [← hs]; try rfl))
    ·have hok : yL x := .inl ⟨by omega, h2, h3⟩
     by_cases h4 : f + (x.k + (x.d.length : Int)) ≤ 65536
     ·by_cases h7 : t + (x.k + (x.p.length : Int)) ≤ 65536
      ·rw [wI hok (by omega) (by omega) (by omega)] at hs
       try (refine st ?_; intros)
       refine nxz (l.length - (i + 1)) ⟨i + 1, _, _, rfl, rfl, rfl, rfl, rfl, ?_, ?_, ?_, ?_⟩
       ·omega
       ·omega
       ·rw [← hs]; congr 1 <;> omega
       ·assumption
      ·rw [zW (by omega)] at hs
       try (refine st ?_; intros)
       exact q_fz (Gives.mk (by rw [← hs]; try rfl))
     ·rw [zW (by omega)] at hs
      try (refine st ?_; intros)
      exact q_fz (Gives.mk (by rw [← hs]; try rfl))
  all_goals
   rw [zW (fun h => by simp [yL, h1, h2, h3] at h)] at hs
   try (refine st ?_; intros)
   exact q_fz (Gives.mk (by rw [← hs]; try rfl))
 ·obtain rfl : i = l.length := by omega
  rw [List.drop_length, xQ] at hs
  try (refine st ?_; intros)
  exact q_fz (Gives.mk (by rw [← hs]; try rfl))
end ZP
namespace ZP
open Go Go.Eng
theorem zDR {b : Nat} {c : Option Addr} {cp : Nat} (B : Bld) (hB : B.l.length ≤ 1000000000000) (w0 : World) (m : Mem) (H : SHeap) :
  Does Tryz.prog 227 #[.pp b] w0 m (.bl b [.slice c B.l.length cp, str B.p, str B.d] 301 :: .row c cp 153 3 (B.l.map Stp.cs) :: H)
   (fun v m' H' => v = .tuple #[] ∧ m' = m ∧ ∃ c' cp', H' = .bl b [.slice c' B.close.l.length cp', str [], str []] 301 :: .row c' cp' 153 3 (B.close.l.map Stp.cs) :: H) := by
 refine Does.of_body func227 rfl ntmps227 rfl ?_
 have hml : (B.l.map Stp.cs).length = B.l.length := by simp
 by_cases hp : B.p = [] <;> by_cases hd : B.d = []
 ·try (refine st ?_; intros)
  have e : B.close.l = B.l := by simp [Bld.close, hp, hd]
  rw [hp, hd]
  exact q_nz (H0 := .bl b [.slice c B.l.length cp, str [], str []] 301 :: .row c cp 153 3 (B.l.map Stp.cs) :: H) ⟨rfl, rfl, c, cp, by rw [e]⟩
 ·try (refine st ?_; intros)
  refine wdw 14 ([.bl b [.slice c B.l.length cp, str B.p, str B.d] 301]) ?_
  refine cm0 ?_
  refine wa1 10 ?_
  refine st ?_; intros; rename_i q0
  refine waz [] zml ?_
  refine wa1 11 ?_
  refine st ?_; intros; rename_i c2 cp2
  refine waz [] zml ?_
  refine cm0 ?_
  refine wdz ?_
  try (refine st ?_; intros)
  rw [hml, hp]
  have e : B.close.l = B.l ++ [⟨0, B.d, []⟩] := by simp [Bld.close, hp, hd]
  exact q_nz (H0 := .bl b [.slice c2 (B.l.length + 1) cp2, str [], str []] 301 :: .row c2 cp2 153 3 (B.l.map Stp.cs ++ [[.int .i64 0, str B.d, str []]]) :: H) ⟨rfl, rfl, c2, cp2, by rw [e]; simp [Stp.cs]⟩
 ·try (refine st ?_; intros)
  refine wdw 14 ([.bl b [.slice c B.l.length cp, str B.p, str B.d] 301]) ?_
  refine cm0 ?_
  refine wa1 10 ?_
  refine st ?_; intros; rename_i q0
  refine waz [] zml ?_
  refine wa1 11 ?_
  refine st ?_; intros; rename_i c2 cp2
  refine waz [] zml ?_
  refine cm0 ?_
  refine wdz ?_
  try (refine st ?_; intros)
  rw [hml, hd]
  have e : B.close.l = B.l ++ [⟨0, [], B.p⟩] := by simp [Bld.close, hp, hd]
  exact q_nz (H0 := .bl b [.slice c2 (B.l.length + 1) cp2, str [], str []] 301 :: .row c2 cp2 153 3 (B.l.map Stp.cs ++ [[.int .i64 0, str [], str B.p]]) :: H) ⟨rfl, rfl, c2, cp2, by rw [e]; simp [Stp.cs]⟩
 ·have hml1 : (B.l.map Stp.cs ++ [[.int .i64 0, str [], str B.p]]).length = B.l.length + 1 := by simp
  try (refine st ?_; intros)
  refine wdw 14 ([.bl b [.slice c B.l.length cp, str B.p, str B.d] 301]) ?_
  refine cm0 ?_
  refine wa1 10 ?_
  refine st ?_; intros; rename_i q0
  refine waz [] zml ?_
  refine wa1 11 ?_
  refine st ?_; intros; rename_i c2 cp2
  refine waz [] zml ?_
  refine cm0 ?_
  refine wdz ?_
  try (refine st ?_; intros)
  rw [hml]
  refine wdw 14 ([.bl b [.slice c2 (B.l.length + 1) cp2, str B.p, str B.d] 301]) ?_
  refine cm0 ?_
  refine wa1 10 ?_
  refine st ?_; intros; rename_i q0
  refine waz [] zml ?_
  refine wa1 11 ?_
  refine st ?_; intros; rename_i c3 cp3
  refine waz [] zml ?_
  refine cm0 ?_
  refine wdz ?_
  try (refine st ?_; intros)
  rw [hml1]
  have e : B.close.l = B.l ++ [⟨0, [], B.p⟩] ++ [⟨0, B.d, []⟩] := by simp [Bld.close, hp, hd]
  exact q_nz (H0 := .bl b [.slice c3 (B.l.length + 1 + 1) cp3, str [], str []] 301 :: .row c3 cp3 153 3 (B.l.map Stp.cs ++ [[.int .i64 0, str [], str B.p]] ++ [[.int .i64 0, str B.d, str []]]) :: H) ⟨rfl, rfl, c3, cp3, by rw [e]; simp [Stp.cs]⟩
end ZP
namespace ZP
open Go Go.Eng
theorem zIP {b : Nat} {c : Option Addr} {cp : Nat} (B : Bld) (n : Nat) (hn : n ≤ 100000000000) (hB : BFit 100000000000 B) (w0 : World) (m : Mem) (H : SHeap) :
  Does Tryz.prog 226 #[.pp b, .int .i64 (n : Int)] w0 m (.bl b [.slice c B.l.length cp, str B.p, str B.d] 301 :: .row c cp 153 3 (B.l.map Stp.cs) :: H)
   (fun v m' H' => v = .tuple #[] ∧ m' = m ∧ ∃ c' cp', H' = .bl b [.slice c' (B.keep n).l.length cp', str (B.keep n).p, str (B.keep n).d] 301 :: .row c' cp' 153 3 ((B.keep n).l.map Stp.cs) :: H) := by
 refine Does.of_body func226 rfl ntmps226 rfl ?_
 have hlen := hB.len
 by_cases h0 : n = 0
 ·subst h0
  try (refine st ?_; intros)
  exact q_fz ⟨rfl, rfl, c, cp, rfl⟩
 ·try (refine st ?_; intros)
  refine zA func227 ?_ (hs := zDR B (by omega) _ _ _)
  rintro v m1 H1 ⟨rfl, rfl, c1, cp1, rfl⟩
  have hkeep : B.keep n = ⟨yV B.close.l n, [], []⟩ := by unfold Bld.keep; rw [if_neg (by omega)]
  have hc := hB.close
  rw [hkeep]
  have hcl := hc.len
  have hck := hc.k
  generalize B.close.l = L at *
  have hml : (L.map Stp.cs).length = L.length := by simp
  rcases zCc L with hL | ⟨ys, s, hL⟩
  ·have hl0 : L.length = 0 := by rw [hL]; rfl
   refine st ?_; intros; rename_i x2 c2 cp2
   rw [hml]
   have e : yV L n = L ++ [⟨n, [], []⟩] := by rw [hL]; rfl
   exact q_nz (H0 := .bl b [.slice c2 (L.length + 1) cp2, str [], str []] 301 :: .row c2 cp2 153 3 (L.map Stp.cs ++ [[.int .i64 n, str [], str []]]) :: H) ⟨rfl, rfl, c2, cp2, by rw [e]; simp [Stp.cs]⟩
  ·have hl1 : L.length = ys.length + 1 := by rw [hL]; simp
   have hget : (L.map Stp.cs)[L.length - 1]? = some s.cs := by rw [hL]; simp
   have hsk := hck s (by rw [hL]; simp)
   refine WL.rowSome (a := c1) zhs (by omega) ?_
   rintro c0 rfl
   by_cases hs : 0 < s.k
   ·try (refine st ?_; intros)
    have e : (yV L n).length = L.length ∧ (yV L n).map Stp.cs = (L.map Stp.cs).set (L.length - 1) [.int .i64 (s.k + n), str s.d, str s.p] := by
     rw [hL]; constructor <;> simp [yV, hs, Stp.cs]
    exact q_fz (H0 := .bl b [.slice (some c0) L.length cp1, str [], str []] 301 :: .row (some c0) cp1 153 3 ((L.map Stp.cs).set (L.length - 1) [.int .i64 (s.k + n), str s.d, str s.p]) :: H) ⟨rfl, rfl, some c0, cp1, by rw [e.1, e.2]⟩
   ·refine st ?_; intros; rename_i x2 c2 cp2
    rw [hml]
    have e : yV L n = L ++ [⟨n, [], []⟩] := by rw [hL]; simp [yV, hs]
    exact q_nz (H0 := .bl b [.slice c2 (L.length + 1) cp2, str [], str []] 301 :: .row c2 cp2 153 3 (L.map Stp.cs ++ [[.int .i64 n, str [], str []]]) :: H) ⟨rfl, rfl, c2, cp2, by rw [e]; simp [Stp.cs]⟩
end ZP
namespace Go.Eng
def Stp.v (s : Stp) : Value := .agg #[.int .i64 s.k, str s.d, str s.p]
end Go.Eng
namespace ZP
open Go Go.Eng
theorem zJQ {b : Nat} {c : Option Addr} {cp : Nat} (B : Bld) (s : Stp) (hk : s.k ≤ 100000000000) (hd : s.d.length ≤ 100000000000) (hp : s.p.length ≤ 100000000000) (hB : BFit 100000000000 B) (w0 : World) (m : Mem) (H : SHeap) :
  Does Tryz.prog 204 #[.pp b, s.v] w0 m (.bl b [.slice c B.l.length cp, str B.p, str B.d] 301 :: .row c cp 153 3 (B.l.map Stp.cs) :: H)
   (fun v m' H' => v = .tuple #[] ∧ m' = m ∧ ∃ c' cp', H' = .bl b [.slice c' (B.step s).l.length cp', str (B.step s).p, str (B.step s).d] 301 :: .row c' cp' 153 3 ((B.step s).l.map Stp.cs) :: H) := by
 refine Does.of_body (args := [.pp b, .agg #[.int .i64 s.k, str s.d, str s.p]]) func204 rfl ntmps204 rfl ?_
 have h1 := hB.p
 have h2 := hB.d
 by_cases h0 : 0 < s.k
 ·obtain ⟨n, hn⟩ : ∃ n : Nat, s.k = (n : Int) := ⟨s.k.toNat, by omega⟩
  have e : B.step s = B.keep n := by unfold Bld.step; rw [if_pos h0, hn]
  rw [e, hn]
  have h0' : 0 < (n : Int) := by omega
  refine st ?_; intros; rename_i b3
  refine WL.heap (H' := .bl b [.slice c B.l.length cp, str B.p, str B.d] 301 :: .row c cp 153 3 (B.l.map Stp.cs) :: H) zpk ?_
  refine zA func226 ?_ (hs := zIP B n (by omega) hB _ _ _)
  rintro v m1 H1 ⟨rfl, rfl, c1, cp1, rfl⟩
  try (refine st ?_; intros)
  exact q_nz ⟨rfl, rfl, c1, cp1, rfl⟩
 ·by_cases h3 : s.d = []
  ·have e : B.step s = ⟨B.l, B.p ++ s.p, B.d⟩ := by unfold Bld.step; rw [if_neg h0, if_neg (fun h => h h3)]
   rw [e]
   try (refine st ?_; intros)
   exact q_nz ⟨rfl, rfl, c, cp, rfl⟩
  ·have e : B.step s = ⟨B.l, B.p, B.d ++ s.d⟩ := by unfold Bld.step; rw [if_neg h0, if_pos h3]
   rw [e]
   try (refine st ?_; intros)
   exact q_nz ⟨rfl, rfl, c, cp, rfl⟩
theorem zJM {b : Nat} {c : Option Addr} {cp : Nat} (B : Bld) (hB : B.l.length ≤ 1000000000000) (w0 : World) (m : Mem) (H : SHeap) :
  Does Tryz.prog 205 #[.pp b] w0 m (.bl b [.slice c B.l.length cp, str B.p, str B.d] 301 :: .row c cp 153 3 (B.l.map Stp.cs) :: H)
   (fun v m' H' => m' = m ∧ ∃ c' cp', v = .slice c' B.close.l.length cp' ∧ H' = .row c' cp' 153 3 (B.close.l.map Stp.cs) :: H) := by
 refine Does.of_body func205 rfl ntmps205 rfl ?_
 try (refine st ?_; intros)
 refine zA func227 ?_ (hs := zDR B hB _ _ _)
 rintro v m1 H1 ⟨rfl, rfl, c1, cp1, rfl⟩
 try (refine st ?_; intros)
 exact q_fz ⟨rfl, c1, cp1, rfl, rfl⟩
theorem zHR {a : Option Addr} {cap : Nat} {l : List Stp} (hok : ∀ s ∈ l, yL s) (hl : (zG l).length ≤ 1000000000) (w0 : World) (m : Mem) (H : SHeap) (hr : RowR w0 m H 3 a (l.map Stp.cs)) :
  Does Tryz.prog 162 #[.slice a l.length cap] w0 m H (fun v m' H' => m' = m ∧ ∃ c' cp', v = .slice c' (z7 l).length cp' ∧ H' = .row c' cp' 153 3 ((z7 l).map Stp.cs) :: H) := by
 refine Does.of_body func162 rfl ntmps162 rfl ?_
 have hln : (l.map Stp.cs).length = l.length := by simp
 have hlen := zA6 l hok
 refine st ?_; intros; rename_i b
 refine WC.newRow (T := 153) (sz := 3) ?_
 refine lpz (fun j r ds m' H' => ∃ i c cp B, j = l.length - i ∧ r = [(8, .int .i64 (i : Int)), (7, .int .i64 (l.length : Int)), (6, .slice a l.length cap), (3, .pp b)] ∧ ds = [] ∧ m = m' ∧ H' = .bl b [.slice c B.l.length cp, str B.p, str B.d] 301 :: .row c cp 153 3 (B.l.map Stp.cs) :: H ∧ (i ≤ l.length) ∧ (B = Bld.start.run (zG (l.take i)))) (l.length - (0)) ⟨0, none, 0, Bld.start, rfl, rfl, rfl, rfl, rfl, by omega, by simp [zG, Bld.run]⟩ ?_
 rintro j r ds m' H' ⟨i, c, cp, B, rfl, rfl, rfl, rfl, rfl, hi, hB⟩
 have htl : (zG (l.take i)).length ≤ (zG l).length := by
  have e : zG l = zG (l.take i) ++ zG (l.drop i) := by rw [← zV, List.take_append_drop]
  rw [e]; simp
 have hfit : BFit 10000000000 B := by rw [hB]; exact (BFit.runs _).mono (by omega)
 by_cases hlt : i < l.length
 ·obtain ⟨x, hx, hget, htk, hmem, hdr⟩ := zBj (f := Stp.cs) hlt
  have hr1 := (hr.more (i := .row c cp 153 3 (B.l.map Stp.cs))).more (i := .bl b [.slice c B.l.length cp, str B.p, str B.d] 301)
  have hxl : x.atoms.length ≤ (zG l).length := by
   have e : zG l = zG (l.take (i + 1)) ++ zG (l.drop (i + 1)) := by rw [← zV, List.take_append_drop]
   rw [e, htk, zV, jH]; simp only [List.length_append]; omega
  rw [zBH] at hxl
  refine WC.rSome hr1 (by omega) ?_
  rintro a0 rfl
  refine st ?_; intros; rename_i bx
  refine WL.heap (H' := .bl b [.slice c B.l.length cp, str B.p, str B.d] 301 :: .row c cp 153 3 (B.l.map Stp.cs) :: H) zpk ?_
  refine zA func204 ?_ (hs := zJQ B x (by omega) (by omega) (by omega) (hfit.mono (by omega)) _ _ _)
  rintro v m1 H1 ⟨rfl, rfl, c1, cp1, rfl⟩
  try (refine st ?_; intros)
  refine nxz (l.length - (i + 1)) ⟨i + 1, c1, cp1, B.step x, rfl, rfl, rfl, rfl, rfl, ?_, ?_⟩
  ·omega
  ·rw [htk, zV, vR, ← hB, jH, zFK _ _ (hok x hmem)]
 ·obtain rfl : i = l.length := by omega
  have hlen2 := hfit.len
  try (refine st ?_; intros)
  refine zA func205 ?_ (hs := zJM B (by omega) _ _ _)
  rintro v m1 H1 ⟨rfl, c1, cp1, rfl, rfl⟩
  try (refine st ?_; intros)
  have e : B.close.l = z7 l := by
   rw [hB, List.take_length, z7]
   have : ∀ (l : List Stp) (b : Bld), (∀ s ∈ l, yL s) → b.run (zG l) = l.foldl Bld.step b := by
    intro l
    induction l with
    | nil => intro b _; rfl
    | cons s l ih => intro b h; rw [w7, vR, zFK _ _ (h s List.mem_cons_self), ih _ (fun x hx => h x (List.mem_cons_of_mem _ hx)), List.foldl_cons]
   rw [this l _ hok]
  rw [e]
  exact q_fz ⟨rfl, c1, cp1, rfl, rfl⟩
end ZP
namespace Go.Eng
theorem sized {l : List Stp} {f t : Int} (h : zT l = some (f, t)) : (∀ s ∈ l, yL s) ∧ (zG l).length ≤ 131072 ∧ (zG (z7 l)).length ≤ 131072 ∧ f = (yO (zG l) : Int) ∧ t = (toA (zG l) : Int) ∧ 0 ≤ f ∧ f ≤ 65536 ∧ 0 ≤ t ∧ t ≤ 65536 := by
 obtain ⟨h1, h2, h3, h4, h5⟩ := uR h
 have hok : ∀ s ∈ l, yL s := fun s hs => (h1 s hs).1
 have a1 := qW (zG l)
 have a2 := qW (zG (z7 l))
 obtain ⟨n1, n2⟩ := kY l hok
 rw [uL, n1, n2] at a2
 unfold maxT at h4 h5
 rw [uL]
 exact ⟨hok, by omega, by omega, h2, h3, by omega, by omega, by omega, by omega⟩
end Go.Eng
namespace ZP
open Go Go.Eng
end ZP
namespace Go.Eng
open Go
theorem zB3 : ∀ l : List Stp, Lib.join (l.map stpW) [32] = yM l
 | [] => rfl
 | [x] => by simp [Lib.join, yM, List.intercalate]
 | x :: y :: l => by
  have := zB3 (y :: l)
  unfold Lib.join at this ⊢
  rw [yM, ← this]
  simp [List.intercalate, List.intersperse]
theorem zKh {x : Stp} (h : yL x) (hk : x.k ≤ 65536) : (stpW x).length ≤ 12 * (x.d.length + x.p.length) + 10 := by
 have h1 := yN 4 x.k.toNat (by omega)
 have h2 := wS x.d
 have h3 := wS x.p
 unfold stpW
 split
 ·simp only [List.length_cons]; omega
 ·split
  ·simp only [List.length_cons]; omega
  ·simp only [List.length_cons]; omega
theorem zHb : ∀ {l : List Stp} {x : Stp}, x ∈ l → (stpW x).length ≤ (yM l).length
 | [y], x, h => by
  rw [List.mem_singleton] at h; subst h; exact Nat.le_refl _
 | y :: z :: l, x, h => by
  rw [yM, List.length_append, List.length_append]
  rcases List.mem_cons.1 h with rfl | h
  ·omega
  ·have := zHb h; omega
end Go.Eng
namespace ZP
open Go Go.Eng
attribute [local irreducible] zT xQ stpW yG yM
namespace ZEQ8a
theorem zal {G G' : Prop} (next : G') (h : Bx G' → G := by intro zzn; (first | (refine iF 118 rfl ?_; refine zU func118 ?_ (hs := zBR (by assumption) _ _ _ (by assumption))) | (refine iF 49 rfl ?_; refine zU func49 ?_ (hs := zDu (by omega) (by assumption))) | (refine iF 119 rfl ?_; refine zU func119 ?_ (hs := zEC _ (by omega) (by assumption)))); (repeat revert zzf); exact zzn.out) : G := h ⟨next⟩
end ZEQ8a
open ZEQ8a in
theorem zCe {a : Option Addr} {cap : Nat} {l : List Stp} (hf : Fit l) (hd6 : ∀ x ∈ l, x.d.length ≤ 65536 ∧ x.p.length ≤ 65536) (hw : (yM l).length ≤ 4194304) {w0 : World} {m : Mem} {H : SHeap} (hr : RowR w0 m H 3 a (l.map Stp.cs)) (hg : GTabs Tryz.prog m) :
  Does Tryz.prog 82 #[.slice a l.length cap] w0 m H (Gives (match zT l with | none => .tuple #[str [], .int .i64 2] | some _ => .tuple #[str (yM l), .int .i64 0]) m H) := by
 refine Does.of_body func82 rfl ntmps82 rfl ?_
 have hln : (l.map Stp.cs).length = l.length := by simp
 have hfl := hf.len
 try (refine stg ?_; intros)
 cases hs : zT l with
 | none =>
  rw [show szP none = .tuple #[.int .i64 0, .int .i64 0, .int .i64 2] from rfl]
  try (refine stg ?_; intros)
  exact q_fz zgm
 | some ft =>
  obtain ⟨f, t⟩ := ft
  obtain ⟨h1, _, _, _, _⟩ := uR hs
  rw [show szP (some (f, t)) = .tuple #[.int .i64 f, .int .i64 t, .int .i64 0] from rfl]
  refine WL.newRow (T := 9) (sz := 1) ?_
  try (refine stg ?_; intros)
  refine lpz (fun j r ds m' H' => ∃ (i : Nat) (a9 : Option Addr) (c9 : Nat) (n9 : Nat), j = l.length - i ∧ r = [(21, .int .i64 (i : Int)), (20, .int .i64 (l.length : Int)), (19, .slice a l.length cap), (7, .slice a9 n9 c9)] ∧ ds = [] ∧ m = m' ∧ H' = .row a9 c9 9 1 (((l.take i).map stpW).map fun x => [str x]) :: H ∧ (i ≤ l.length) ∧ (n9 = i)) (l.length - (0)) ⟨0, none, 0, 0, rfl, rfl, rfl, rfl, rfl, Nat.zero_le _, rfl⟩ ?_
  rintro j r ds m' H' ⟨i, a9, c9, n9, rfl, rfl, rfl, rfl, rfl, hi, hn9⟩
  subst hn9
  by_cases hlt : n9 < l.length
  ·obtain ⟨x, hx, hget, htk, hmem, hdr⟩ := zBj (f := Stp.cs) hlt
   have hr1 := hr.more (i := .row a9 c9 9 1 (((l.take n9).map stpW).map fun x => [str x]))
   refine WC.rSome hr1 (by omega) ?_
   rintro a0 rfl
   obtain ⟨hxok, hk1⟩ := h1 x hmem
   have hx6 := hd6 x hmem
   have hmt : (maxT : Int) = 65536 := rfl
   have hin := zHb hmem
   have htl : (((l.take n9).map stpW).map fun x => [str x]).length + 1 = n9 + 1 := by rw [List.length_map, List.length_map, List.length_take]; omega
   have htl2 : (((l.take n9).map stpW).map fun x => [str x]).length = n9 := by rw [List.length_map, List.length_map, List.length_take]; omega
   have e0 : (x.cs)[0]? = some (.int .i64 x.k) := rfl
   have e1 : (x.cs)[1]? = some (str x.d) := rfl
   have e2 : (x.cs)[2]? = some (str x.p) := rfl
   rcases hxok with ⟨g1, g2, g3⟩ | ⟨g1, g2, g3⟩ | ⟨g1, g2, g3⟩
   ·have hkp : 0 < x.k := g1
    have hs1 : stpW x = 61 :: decL x.k.toNat := by unfold stpW; rw [if_pos g1]
    have hdl := yN 4 x.k.toNat (by omega)
    have es : ([61] : List UInt8) ++ decL x.k.toNat = stpW x := by rw [hs1]; rfl
    have el1 : ([61] : List UInt8).length = 1 := rfl
    have em : ((l.take n9).map stpW).map (fun x => [str x]) ++ [[str (stpW x)]] = ((l.take (n9 + 1)).map stpW).map fun x => [str x] := by rw [htk]; simp
    refine stg ?_; intros; rename_i bx q a8 c8
    rw [es, em, htl]
    refine nxz (l.length - (n9 + 1)) ⟨n9 + 1, a8, c8, n9 + 1, rfl, rfl, rfl, rfl, rfl, ?_, ?_⟩
    ·omega
    ·rfl
   ·have hkp : ¬ 0 < x.k := by omega
    have hs1 : stpW x = 45 :: yG x.d := by unfold stpW; rw [if_neg (by omega), if_pos g2]
    have hql := zBb x.d
    have hql2 : (stpW x).length = (yG x.d).length + 1 := by rw [hs1]; rfl
    have es : ([45] : List UInt8) ++ yG x.d = stpW x := by rw [hs1]; rfl
    have el1 : ([45] : List UInt8).length = 1 := rfl
    have em : ((l.take n9).map stpW).map (fun x => [str x]) ++ [[str (stpW x)]] = ((l.take (n9 + 1)).map stpW).map fun x => [str x] := by rw [htk]; simp
    refine stg ?_; intros; rename_i bx q a8 c8
    rw [es, em, htl]
    refine nxz (l.length - (n9 + 1)) ⟨n9 + 1, a8, c8, n9 + 1, rfl, rfl, rfl, rfl, rfl, ?_, ?_⟩
    ·omega
    ·rfl
   ·have hkp : ¬ 0 < x.k := by omega
    have hs1 : stpW x = 43 :: yG x.p := by unfold stpW; rw [if_neg (by omega), if_neg (by rw [g2]; exact fun h => h rfl)]
    have hql := zBb x.p
    have hql2 : (stpW x).length = (yG x.p).length + 1 := by rw [hs1]; rfl
    have es : ([43] : List UInt8) ++ yG x.p = stpW x := by rw [hs1]; rfl
    have el1 : ([43] : List UInt8).length = 1 := rfl
    have em : ((l.take n9).map stpW).map (fun x => [str x]) ++ [[str (stpW x)]] = ((l.take (n9 + 1)).map stpW).map fun x => [str x] := by rw [htk]; simp
    refine stg ?_; intros; rename_i bx q a8 c8
    rw [es, em, htl]
    refine nxz (l.length - (n9 + 1)) ⟨n9 + 1, a8, c8, n9 + 1, rfl, rfl, rfl, rfl, rfl, ?_, ?_⟩
    ·omega
    ·rfl
  ·obtain rfl : n9 = l.length := by omega
   rw [List.take_length]
   have hj := zB3 l
   have hml : (l.map stpW).length = l.length := List.length_map _
   by_cases h0 : l.length = 0
   ·have hl0 : l = [] := List.eq_nil_of_length_eq_zero h0
    have hp0 : yM l = [] := by rw [hl0]; unfold yM; rfl
    try (refine stg ?_; intros)
    rw [h0]
    refine zA func69 ?_ (hs := zDE _ _ _)
    rintro v m H1 ⟨rfl, rfl, rfl⟩
    try (refine stg ?_; intros)
    rw [← hp0]
    exact q_fz zgm
   ·refine WC.rowSome (a := a9) (es := (l.map stpW).map fun x => [str x]) zhs (by rw [List.length_map, hml]; omega) ?_
    rintro p0 rfl
    try (refine stg ?_; intros)
    rw [← hml]
    refine zA func69 ?_ (hs := zIN (xs := l.map stpW) zhs (by omega) (by rw [hj]; omega))
    rintro v m H1 ⟨rfl, rfl, rfl⟩
    rw [hj]
    try (refine stg ?_; intros)
    exact q_fz zgm
end ZP
namespace Go.Eng
open Go Go.RowKit
theorem RowR.blk {w0 : World} {m : Mem} {H : SHeap} {b sz : Nat} {T : TypeId} {fz : Nat × Nat} {es : List (List Value)} {L : List Value} (hm : Item.blk b (.cells L.toArray T fz) ∈ H) (h1 : ∀ e ∈ es, e.length = sz) (hL : es.flatten = L) : RowR w0 m H sz (.some ⟨b, 0, .none⟩) es := by
 subst hL
 intro w hs
 refine ⟨h1, fun j v hj => ?_⟩
 rw [xP]
 exact Cell.blk hm (by simpa using hj) w hs
def bV (b : UInt8) : List Value := [.int .u8 (b.toNat : Int)]
def applyV (s : List UInt8) (l : List Stp) : Value := match zT l with
 | none => .tuple #[str [], .int .i64 2]
 | some (f, _) => if f ≠ s.length then .tuple #[str [], .int .i64 5] else match xL s (zG l) with
  | none => .tuple #[str [], .int .i64 270]
  | some o => .tuple #[str o, .int .i64 0]
end Go.Eng
namespace ZP
open Go Go.Eng
attribute [local irreducible] xL xQ zT
namespace ZE10a
theorem zal {G G' : Prop} (next : G') (h : Bx G' → G := by intro zzn; (first | (refine iF 118 rfl ?_; refine zU func118 ?_ (hs := zBR (by assumption) _ _ _ (by assumption)))); (repeat revert zzf); exact zzn.out) : G := h ⟨next⟩
end ZE10a
end ZP
namespace Go.Eng
open Go
theorem zEd {l : List Stp} {s : Stp} (h : s ∈ l) : s.atoms.length ≤ (zG l).length := by
 obtain ⟨x, y, rfl⟩ := List.append_of_mem h
 rw [zV, w7, List.length_append, List.length_append]; omega
theorem zI4 {L : List Atm} (h1 : yO L ≤ 65536) (h2 : toA L ≤ 65536) : Fit (listOf L) := by
 obtain ⟨e1, e2⟩ := zGH L
 have hok := (zIq L).1
 have ha := qW (zG (listOf L))
 have hl := zA6 (listOf L) hok
 refine ⟨by omega, fun s hs => ?_, fun s hs => ?_, fun s hs => ?_⟩
 all_goals
  have := zEd hs
  have hb := zCj (hok s hs)
  omega
def okV (t : List UInt8) : Value := .tuple #[str t, .int .i64 0]
end Go.Eng
namespace Go.Eng
open Go
theorem zG2 {l : List Stp} {f t : Int} (hs : zT l = some (f, t)) : Fit (z7 l) := by
 obtain ⟨hok, _, _, h1, h2, _, h4, _, h6⟩ := sized hs
 obtain ⟨n1, n2⟩ := kY l hok
 rw [zCp]
 exact zI4 (by omega) (by omega)
def overP (hand h : Int) (x c : List Stp) : Int ⊕ List Stp := if h ≤ hand then (match carP x c with | .inl e => .inl e | .inr (_, v) => .inr v) else (match carP c x with | .inl e => .inl e | .inr (u, _) => .inr u)
def carriedP (hand : Int) : List (Int × List Stp) → List Stp → Int ⊕ List Stp
 | [], c => .inr c
 | x :: K, c => match overP hand x.1 x.2 c with | .inl e => .inl e | .inr v => carriedP hand K v
end Go.Eng
namespace Go.Eng
open Go
theorem kN : ∀ (l : List Stp) (f t a b : Int), xQ l f t = some (a, b) →
  ((yM l).length : Int) ≤ 12 * ((a - f) + (b - t)) + 11 * l.length ∧ (l.length : Int) ≤ (a - f) + (b - t) ∧ f ≤ a ∧ t ≤ b ∧ ∀ x ∈ l, yL x ∧ x.k ≤ 65536 ∧ (x.d.length : Int) ≤ a - f ∧ (x.p.length : Int) ≤ b - t
 | [], f, t, a, b, h => by
  simp only [xQ, Option.some.injEq, Prod.mk.injEq] at h
  obtain ⟨rfl, rfl⟩ := h
  simp [yM]
 | x :: l, f, t, a, b, h => by
  by_cases h1 : yL x ∧ x.k ≤ 65536 ∧ f + x.k + x.d.length ≤ 65536 ∧ t + x.k + x.p.length ≤ 65536
  ·obtain ⟨g1, g2, g3, g4⟩ := h1
   rw [wI g1 g2 g3 g4] at h
   obtain ⟨q1, q2, q3, q4, q5⟩ := kN l _ _ a b h
   have hw := zKh g1 g2
   have hk : 0 ≤ x.k ∧ 0 < x.k + x.d.length + x.p.length := by
    rcases g1 with ⟨q, _⟩ | ⟨q, h3, _⟩ | ⟨q, _, h3⟩
    ·omega
    ·have := List.length_pos_iff.2 h3; omega
    ·have := List.length_pos_iff.2 h3; omega
   have hp : (yM (x :: l)).length ≤ (stpW x).length + 1 + (yM l).length := by
    cases l with
    | nil => show (stpW x).length ≤ _; omega
    | cons y l => rw [yM, List.length_append, List.length_append]; simp only [List.length_singleton]; omega
   refine ⟨?_, ?_, by omega, by omega, ?_⟩
   ·rw [List.length_cons]; omega
   ·rw [List.length_cons]; omega
   ·intro y hy
    rcases List.mem_cons.1 hy with rfl | hy
    ·exact ⟨g1, g2, by omega, by omega⟩
    ·have := q5 y hy
     exact ⟨this.1, this.2.1, by omega, by omega⟩
  ·rw [zW h1] at h; cases h
def wX (L : List Dr) (k : Nat) : List UInt8 :=
 if k = 0 then (if txOf L 0 = [] then [] else yM [⟨0, [], txOf L 0⟩]) else yM (z7 (chL (txOf L ((parsOf L k).headD 0)) (txOf L k)))
theorem SameD.said {L M : List Dr} (h : SameD L M) (k : Nat) : wX L k = wX M k := by
 unfold wX
 rw [h.tx, h.tx, h.tx, h.pars]
theorem q8 {s t : List UInt8} (hs : s.length ≤ 65536) (ht : t.length ≤ 65536) : zT (z7 (chL s t)) = some ((s.length : Int), (t.length : Int)) ∧ (yM (z7 (chL s t))).length ≤ 4194304 ∧ (z7 (chL s t)).length ≤ 131072 ∧
  ∀ x ∈ z7 (chL s t), yL x ∧ x.k ≤ 65536 ∧ x.d.length ≤ 65536 ∧ x.p.length ≤ 65536 := by
 have h := zE9 (zAh hs ht)
 obtain ⟨q1, q2, _, _, q5⟩ := kN _ 0 0 _ _ h
 refine ⟨h, by omega, by omega, fun x hx => ?_⟩
 have := q5 x hx
 exact ⟨this.1, this.2.1, by omega, by omega⟩
theorem kM {t : List UInt8} (ht : t.length ≤ 65536) (h0 : t ≠ []) : zT [⟨0, [], t⟩] = some (0, (t.length : Int)) ∧ yL ⟨0, [], t⟩ ∧ (yM [⟨0, [], t⟩]).length ≤ 4194304 := by
 have hok : yL ⟨0, [], t⟩ := .inr (.inr ⟨rfl, rfl, h0⟩)
 have h : zT [⟨0, [], t⟩] = some (0, (t.length : Int)) := by
  unfold zT
  rw [wI hok (by show (0 : Int) ≤ 65536; omega) (by show (0 : Int) + 0 + ([] : List UInt8).length ≤ 65536; simp) (by show (0 : Int) + 0 + t.length ≤ 65536; omega)]
  simp [xQ]
 obtain ⟨q1, _⟩ := kN _ 0 0 _ _ h
 exact ⟨h, hok, by simp only [List.length_singleton] at q1; omega⟩
theorem zBK {L : List Dr} {k : Nat} (h : ∀ i, (txOf L i).length ≤ 65536) : (wX L k).length ≤ 4194304 := by
 unfold wX
 split
 ·split
  ·simp
  ·rename_i h0
   exact (kM (h 0) h0).2.2
 ·exact (q8 (h _) (h _)).2.1
end Go.Eng
namespace Go.Eng
open Go
theorem zEk {l : List Stp} {f t : Int} (hs : zT l = some (f, t)) : Fit l := by
 obtain ⟨hok, hal, _⟩ := sized hs
 have hl := zA6 l hok
 refine ⟨by omega, fun x hx => ?_, fun x hx => ?_, fun x hx => ?_⟩
 all_goals
  have h1 := zEd hx
  have h2 := zCj (hok x hx)
  omega
end Go.Eng
namespace ZP
open Go Go.Eng
attribute [local irreducible] zT xQ z7
theorem zGi {a : Option Addr} {cap : Nat} {l : List Stp} {f t : Int} (hs : zT l = some (f, t)) (w0 : World) (m : Mem) (H : SHeap) (hr : RowR w0 m H 3 a (l.map Stp.cs)) :
  Does Tryz.prog 117 #[.slice a l.length cap] w0 m H (fun v m' H' => m' = m ∧ ∃ c cp, v = .tuple #[.slice c (z7 l).length cp, .int .i64 0] ∧ H' = .row c cp 153 3 ((z7 l).map Stp.cs) :: H) := by
 refine Does.of_body func117 rfl ntmps117 rfl ?_
 have hf := zEk hs
 try (refine st ?_; intros)
 refine zA func118 ?_ (hs := zBR hf _ _ _ hr)
 rintro v m H1 ⟨rfl, rfl, rfl⟩
 obtain ⟨hok, hal, _⟩ := sized hs
 rw [hs, show szP (some (f, t)) = .tuple #[.int .i64 f, .int .i64 t, .int .i64 0] from rfl]
 try (refine st ?_; intros)
 refine zA func162 ?_ (hs := zHR hok (by omega) _ _ _ hr)
 rintro v m H2 ⟨rfl, c, cp, rfl, rfl⟩
 try (refine st ?_; intros)
 exact q_fz ⟨rfl, c, cp, rfl, rfl⟩
attribute [local irreducible] yE toks strs jn
namespace ZD35a
theorem zal {G G' : Prop} (next : G') (h : Bx G' → G := by intro zzn; (first | (refine WL.append1 (by':=40) rfl rfl rfl rfl (by (repeat (first | exact Out.here | apply Out.there))) zhs (by exact rfl) (by exact rfl) (by exact rfl) (by exact rfl) (by exact rfl) (by exact rfl) (by first | exact rfl | omega) (by first | omega | (simp; omega)) (by decide) (by exact rfl) ?_; intro zzf zzf)); (repeat revert zzf); exact zzn.out) : G := h ⟨next⟩
end ZD35a
open ZD35a in
theorem zFV {X Y : List Tx} {L : List Stp} {bx by_ bk bc bi i k n mm cx cy cc : Nat} {ax ay ac : Option Addr} {w0 : World} {m : Mem} {H : SHeap}
  (hX : X.length ≤ 4194304 ∧ X.flatten.length ≤ 4194304 ∧ X.length ≤ cx) (hY : Y.length ≤ 4194304 ∧ Y.flatten.length ≤ 4194304 ∧ Y.length ≤ cy) (hn : i ≤ n ∧ n ≤ X.length) (hm : k ≤ mm ∧ mm ≤ Y.length) (hL : L.length ≤ 4194304) :
  Does Tryz.prog 116 #[.int .i64 (n : Int), .int .i64 (mm : Int), .pp by_, .pp bk, .pp bc, .pp bx, .pp bi] w0 m
   ([.bl bx [.slice ax X.length cx] 83, .row ax cx 9 1 (strs X), .bl by_ [.slice ay Y.length cy] 83, .row ay cy 9 1 (strs Y), .bl bk [.int .i64 (k : Int)] 3, .bl bi [.int .i64 (i : Int)] 3, .bl bc [.slice ac L.length cc] 154, .row ac cc 153 3 (L.map Stp.cs)] ++ H)
   (fun _ m' H' => m' = m ∧ ∃ (ac2 : Option Addr) (cc2 : Nat), H' = [.bl bx [.slice ax X.length cx] 83, .row ax cx 9 1 (strs X), .bl by_ [.slice ay Y.length cy] 83, .row ay cy 9 1 (strs Y), .bl bk [.int .i64 ((mm + 1 : Nat) : Int)] 3, .bl bi [.int .i64 ((n + 1 : Nat) : Int)] 3,
    .bl bc [.slice ac2 (L ++ (putT (jn Y k mm) ++ dropT (jn X i n))).length cc2] 154, .row ac2 cc2 153 3 ((L ++ (putT (jn Y k mm) ++ dropT (jn X i n))).map Stp.cs)] ++ H) := by
 refine Does.of_body func116 rfl ntmps116 rfl ?_
 simp only [List.cons_append, List.nil_append]
 have hn1 : (n : Int) + 1 = ((n + 1 : Nat) : Int) := by omega
 have hm1 : (mm : Int) + 1 = ((mm + 1 : Nat) : Int) := by omega
 try (refine stg ?_; intros)
 refine zA func69 ?_ (hs := yC (l := Y) zhs hm (by omega) (by omega))
 rintro v m9 H9 ⟨rfl, rfl, rfl⟩
 have hLm : (L.map Stp.cs).length = L.length := List.length_map _
 have hLp : ∀ t : Tx, (L ++ [(⟨0, [], t⟩ : Stp)]).map Stp.cs = L.map Stp.cs ++ [[.int .i64 0, str [], str t]] := fun t => by simp [Stp.cs]
 by_cases h1 : jn Y k mm = []
 ·rw [h1, show putT [] = [] from rfl, List.nil_append]
  try (refine stg ?_; intros)
  refine zA func69 ?_ (hs := yC (l := X) zhs hn (by omega) (by omega))
  rintro v m9 H9 ⟨rfl, rfl, rfl⟩
  generalize jn X i n = tX at *
  by_cases h2 : tX = []
  ·rw [show dropT tX = [] from if_pos h2, List.append_nil]
   try (refine stg ?_; intros)
   rw [hn1, hm1]
   exact q_nz ⟨rfl, ac, cc, rfl⟩
  ·rw [show dropT tX = [⟨0, tX, []⟩] from if_neg h2]
   refine stg ?_; intros; rename_i b9 ac2 cc2
   rw [hLm, hn1, hm1, show L.length + 1 = (L ++ [(⟨0, tX, []⟩ : Stp)]).length by simp, show L.map Stp.cs ++ [[.int .i64 0, str tX, str []]] = (L ++ [(⟨0, tX, []⟩ : Stp)]).map Stp.cs by simp [Stp.cs]]
   exact q_nz ⟨rfl, ac2, cc2, rfl⟩
 ·rw [show putT (jn Y k mm) = [⟨0, [], jn Y k mm⟩] from if_neg h1]
  generalize jn Y k mm = tY at *
  have hLp1 := hLp tY
  obtain ⟨L1, hL1⟩ : ∃ L1, L1 = L ++ [(⟨0, [], tY⟩ : Stp)] := ⟨_, rfl⟩
  have hl1 : L1.length = L.length + 1 := by rw [hL1]; simp
  have hl1m : (L1.map Stp.cs).length = L1.length := List.length_map _
  rw [← hL1] at hLp1
  rw [← List.append_assoc, ← hL1]
  clear hL1
  refine stg ?_; intros; rename_i b9 ac1 cc1
  refine zA func69 ?_ (hs := yC (l := X) zhs hn (by omega) (by omega))
  rintro v m9 H9 ⟨rfl, rfl, rfl⟩
  rw [hLm, ← hl1, ← hLp1]
  generalize jn X i n = tX at *
  by_cases h2 : tX = []
  ·rw [show dropT tX = [] from if_pos h2, List.append_nil]
   try (refine stg ?_; intros)
   rw [hn1, hm1]
   exact q_nz ⟨rfl, ac1, cc1, rfl⟩
  ·rw [show dropT tX = [⟨0, tX, []⟩] from if_neg h2]
   refine stg ?_; intros; rename_i b8 ac2 cc2
   rw [hl1m, hn1, hm1, show L1.length + 1 = (L1 ++ [(⟨0, tX, []⟩ : Stp)]).length by simp, show L1.map Stp.cs ++ [[.int .i64 0, str tX, str []]] = (L1 ++ [(⟨0, tX, []⟩ : Stp)]).map Stp.cs by simp [Stp.cs]]
   exact q_nz ⟨rfl, ac2, cc2, rfl⟩
end ZP
namespace ZP
open Go Go.Eng
attribute [local irreducible] strs jn putT dropT chGo
namespace ZD36a
theorem zal {G G' : Prop} (next : G') (h : Bx G' → G := by intro zzn; (first | (refine WL.append1 (by':=40) rfl rfl rfl rfl (by (repeat (first | exact Out.here | apply Out.there))) zhs (by exact rfl) (by exact rfl) (by exact rfl) (by exact rfl) (by exact rfl) (by exact rfl) (by first | exact rfl | omega) (by first | omega | (simp; omega)) (by decide) (by exact rfl) ?_; intro zzf zzf) | (refine WL.indexAddrA rfl rfl (by exact znz) rfl rfl (by omega) rfl rfl ?_)); (repeat revert zzf); exact zzn.out) : G := h ⟨next⟩
end ZD36a
open ZD36a in
theorem zEV {X Y : List Tx} {M : List (Nat × Nat)} {F : List Stp} {bx by_ bk bc bi cx cy cp : Nat} {ax ay a : Option Addr} {w0 : World} {m : Mem} {H : SHeap} {Q : Exit → Act → World → Prop}
  (hX : X.length ≤ 65536 ∧ X.flatten.length ≤ 65536 ∧ X.length ≤ cx) (hY : Y.length ≤ 65536 ∧ Y.flatten.length ≤ 65536 ∧ Y.length ≤ cy) (hM : PrOk X Y 0 0 M X.length Y.length) (hMl : M.length ≤ 65536) (hF : chGo X Y M 0 0 = F)
  (hK : ∀ (L : List Stp) (i k : Nat) (ac : Option Addr) (cc : Nat), L ++ chGo X Y [] i k = F → i ≤ X.length → k ≤ Y.length → L.length ≤ 200000 →
   WQ 55 w0 Q (.exit 0) [(5, .pp bx), (6, .pp by_), (7, .pp bc), (10, .func (.func 116) #[] [.pp by_, .pp bk, .pp bc, .pp bx, .pp bi].toArray)] [] m (.bl bx [.slice ax X.length cx] 83 :: .row ax cx 9 1 (strs X) :: .bl by_ [.slice ay Y.length cy] 83 :: .row ay cy 9 1 (strs Y) :: .bl bk [.int .i64 (k : Int)] 3 :: .bl bi [.int .i64 (i : Int)] 3 :: .bl bc [.slice ac L.length cc] 154 :: .row ac cc 153 3 (L.map Stp.cs) :: H)) :
  WC Tryz.prog none 55 w0 ((yF (Tryz.f81.body.getD .skip)).getD 0 .skip) Q [(22, .int .i64 0), (21, .int .i64 (M.length : Int)), (20, .slice a M.length cp), (5, .pp bx), (6, .pp by_), (7, .pp bc), (10, .func (.func 116) #[] [.pp by_, .pp bk, .pp bc, .pp bx, .pp bi].toArray)] [] m
   (.bl bx [.slice ax X.length cx] 83 :: .row ax cx 9 1 (strs X) :: .bl by_ [.slice ay Y.length cy] 83 :: .row ay cy 9 1 (strs Y) :: .bl bk [.int .i64 0] 3 :: .bl bi [.int .i64 0] 3 :: .bl bc [.slice none 0 0] 154 :: .row none 0 153 3 (([] : List Stp).map Stp.cs) :: .row a cp 134 2 (M.map prE) :: H) := by
 have hXs : (strs X).length = X.length := by simp [strs]
 have hml : (M.map prE).length = M.length := List.length_map _
 refine lpz (fun j r ds m' H' => ∃ (q : Nat) (i : Nat) (k : Nat) (L : List Stp) (ac : Option Addr) (cc : Nat), j = M.length - q ∧ r = [(22, .int .i64 (q : Int)), (21, .int .i64 (M.length : Int)), (20, .slice a M.length cp), (5, .pp bx), (6, .pp by_), (7, .pp bc), (10, .func (.func 116) #[] [.pp by_, .pp bk, .pp bc, .pp bx, .pp bi].toArray)] ∧ ds = [] ∧ m = m' ∧ H' = .bl bx [.slice ax X.length cx] 83 :: .row ax cx 9 1 (strs X) :: .bl by_ [.slice ay Y.length cy] 83 :: .row ay cy 9 1 (strs Y) :: .bl bk [.int .i64 (k : Int)] 3 :: .bl bi [.int .i64 (i : Int)] 3 :: .bl bc [.slice ac L.length cc] 154 :: .row ac cc 153 3 (L.map Stp.cs) :: .row a cp 134 2 (M.map prE) :: H ∧ (q ≤ M.length) ∧ (PrOk X Y i k (M.drop q) X.length Y.length) ∧ (L ++ chGo X Y (M.drop q) i k = F) ∧ (L.length ≤ 3 * q)) (M.length - (0)) ⟨0, 0, 0, ([] : List Stp), none, 0, rfl, rfl, rfl, rfl, rfl, Nat.zero_le _, hM, hF, Nat.zero_le _⟩ ?_
 rintro j r ds m' H' ⟨q, i, k, L, ac, cc, rfl, rfl, rfl, rfl, rfl, hq, hP, hgo, hL⟩
 by_cases hlt : q < M.length
 ·obtain ⟨p, hp⟩ : ∃ p, M[q]? = some p := ⟨_, List.getElem?_eq_getElem hlt⟩
  have hdr : M.drop q = p :: M.drop (q + 1) := by
   obtain ⟨h1, h2⟩ := List.getElem?_eq_some_iff.1 hp
   rw [List.drop_eq_getElem_cons h1, h2]
  rw [hdr] at hP hgo
  obtain ⟨h1, h2, h3, h4, ⟨t, e1, e2⟩, h6⟩ := hP
  have hgt := xM e1
  have htl : t.length ≤ 65536 := by have := qX (List.mem_of_getElem? e1); omega
  have hgp : (M.map prE)[q]? = some [.int .i64 (p.1 : Int), .int .i64 (p.2 : Int)] := by rw [List.getElem?_map, hp]; rfl
  rw [zEb, zA9 e1] at hgo
  generalize hME : M.map prE = ME at *
  refine WC.rowSome (a := a) (es := ME) zhs (by omega) ?_
  rintro a0 rfl
  refine stg ?_; intros; rename_i bp
  refine WL.heap (H' := [.bl bx [.slice ax X.length cx] 83, .row ax cx 9 1 (strs X), .bl by_ [.slice ay Y.length cy] 83, .row ay cy 9 1 (strs Y), .bl bk [.int .i64 (k : Int)] 3, .bl bi [.int .i64 (i : Int)] 3, .bl bc [.slice ac L.length cc] 154, .row ac cc 153 3 (L.map Stp.cs)] ++ (.bl bp [.int .i64 (p.1 : Int), .int .i64 (p.2 : Int)] 134 :: .row (some a0) cp 134 2 ME :: H)) zpk ?_
  refine WL.callV rfl func116 rfl rfl (by exact rfl) (by exact rfl) (zFV (X := X) (Y := Y) (L := L) (n := p.1) (mm := p.2) ⟨by omega, by omega, hX.2.2⟩ ⟨by omega, by omega, hY.2.2⟩ ⟨h1, by omega⟩ ⟨h2, by omega⟩ (by omega)) ?_
  rintro v m9 H9 ⟨rfl, ac2, cc2, rfl⟩
  have hp1 := zFc (jn Y k p.2)
  have hp2 := zCY (jn X i p.1)
  obtain ⟨L2, hL2⟩ : ∃ L2, L2 = L ++ (putT (jn Y k p.2) ++ dropT (jn X i p.1)) := ⟨_, rfl⟩
  have hl2 := congrArg List.length hL2
  rw [List.length_append, List.length_append] at hl2
  rw [show L ++ (putT (jn Y k p.2) ++ (dropT (jn X i p.1) ++ (keepT t ++ chGo X Y (M.drop (q + 1)) (p.1 + 1) (p.2 + 1)))) = (L2 ++ keepT t) ++ chGo X Y (M.drop (q + 1)) (p.1 + 1) (p.2 + 1) by rw [hL2]; simp] at hgo
  rw [← hL2]
  clear hL2
  have hLm : (L2.map Stp.cs).length = L2.length := List.length_map _
  have hl3 : L2.length + 1 = (L2 ++ keepT t).length := by unfold keepT; simp
  have hm3 : L2.map Stp.cs ++ [[.int .i64 (t.length : Int), str [], str []]] = (L2 ++ keepT t).map Stp.cs := by unfold keepT; simp [Stp.cs]
  simp only [List.cons_append, List.nil_append]
  try (refine stg ?_; intros)
  refine WC.rowSome (a := ax) (es := strs X) zhs (by omega) ?_
  rintro x0 rfl
  refine wdw 9 ([.bl bc [.slice ac2 L2.length cc2] 154, .bl bx [.slice (some x0) X.length cx] 83, .row (some x0) cx 9 1 (strs X), .bl bp [.int .i64 (p.1 : Int), .int .i64 (p.2 : Int)] 134]) ?_
  refine cmg ?_
  refine wa1 8 ?_
  refine stg ?_; intros; rename_i b9
  refine waz [.bl b9 [.int .i64 (t.length : Int), str [], str []] 153] zml ?_
  refine cmg ?_
  refine wdz ?_
  refine stg ?_; intros; rename_i ac3 cc3
  subst hME
  rw [hLm, hl3, hm3]
  refine nxz (M.length - (q + 1)) ⟨q + 1, p.1 + 1, p.2 + 1, L2 ++ keepT t, ac3, cc3, rfl, rfl, rfl, rfl, rfl, ?_, ?_, ?_, ?_⟩
  ·omega
  ·exact h6
  ·exact hgo
  ·omega
 ·have hd : M.drop q = [] := List.drop_of_length_le (by omega)
  rw [hd] at hgo hP
  have hle := hP.le
  have hfin := hK L i k ac cc hgo hle.1 hle.2 (by omega)
  try (refine stg ?_; intros)
  exact WQ.weak zsb zpk hfin
end ZP
namespace ZP
open Go Go.Eng
attribute [local irreducible] strs jn yE toks z7 zT chL
theorem zGv {s t : Tx} (hs : s.length ≤ 65536) (ht : t.length ≤ 65536) (w0 : World) (m : Mem) (H : SHeap) : Does Tryz.prog 81 #[str s, str t] w0 m H
  (fun v m' H' => m.le m' ∧ ∃ c cp, v = .slice c (z7 (chL s t)).length cp ∧ H' = .row c cp 153 3 ((z7 (chL s t)).map Stp.cs) :: H) := by
 refine Does.of_body func81 rfl ntmps81 rfl ?_
 have hXl := zP s
 have hYl := zP t
 have hXf := congrArg List.length (yR s)
 have hYf := congrArg List.length (yR t)
 have hF : chGo (toks s) (toks t) (yE (toks s) (toks t)) 0 0 = chL s t := by unfold chL; rfl
 have hsz := zAh hs ht
 have hM := wL (toks s) (toks t)
 have hMl := hM.len
 try (refine st ?_; intros)
 refine zA func46 ?_ (hs := uX s (by omega) _ _ _)
 rintro v m1 H1 ⟨hle1, ax, cx, rfl, rfl⟩
 try (refine st ?_; intros)
 refine zA func46 ?_ (hs := uX t (by omega) _ _ _)
 rintro v m2 H1 ⟨hle2, ay, cy, rfl, rfl⟩
 generalize toks s = X at *
 generalize toks t = Y at *
 generalize chL s t = F at *
 refine WL.rowCap (a := ax) (cap := cx) (T := 9) (sz := 1) (es := strs X) zhs ?_
 intro hcx
 refine WL.rowCap (a := ay) (cap := cy) (T := 9) (sz := 1) (es := strs Y) zhs ?_
 intro hcy
 rw [zY] at hcx hcy
 refine st ?_; intros; rename_i bx by_ bc bi bk
 refine zA func67 ?_ (hs := kV (A := X) (B := Y) (by omega) (by omega) hcx hcy (RowR.row (T := 9) (cap := cx) zhs) (RowR.row (T := 9) (cap := cy) zhs))
 rintro v m9 H9 ⟨rfl, a1, c1, rfl, rfl⟩
 try (refine st ?_; intros)
 refine WC.newRow (T := 153) (sz := 3) ?_
 refine WC.weak zsb zpk (zEV (X := X) (Y := Y) (M := yE X Y) (F := F) (bx := bx) (by_ := by_) (bk := bk) (bc := bc) (bi := bi) (H := H) ⟨by omega, by omega, hcx⟩ ⟨by omega, by omega, hcy⟩ hM (by omega) hF ?_)
 intro L i k ac cc hgo hi hk hL
 try (refine st ?_; intros)
 refine WL.heap (H' := [.bl bx [.slice ax X.length cx] 83, .row ax cx 9 1 (strs X), .bl by_ [.slice ay Y.length cy] 83, .row ay cy 9 1 (strs Y), .bl bk [.int .i64 (k : Int)] 3, .bl bi [.int .i64 (i : Int)] 3, .bl bc [.slice ac L.length cc] 154, .row ac cc 153 3 (L.map Stp.cs)] ++ H) zpk ?_
 refine WL.callV rfl func116 rfl rfl (by exact rfl) (by exact rfl) (zFV (X := X) (Y := Y) (L := L) (n := X.length) (mm := Y.length) ⟨by omega, by omega, hcx⟩ ⟨by omega, by omega, hcy⟩ ⟨hi, Nat.le_refl _⟩ ⟨hk, Nat.le_refl _⟩ (by omega)) ?_
 rintro v m9 H9 ⟨rfl, ac2, cc2, rfl⟩
 rw [show L ++ (putT (jn Y k Y.length) ++ dropT (jn X i X.length)) = F from hgo]
 simp only [List.cons_append, List.nil_append]
 try (refine st ?_; intros)
 refine zA func117 ?_ (hs := zGi hsz _ _ _ (RowR.row (a := ac2) zhs))
 rintro v m9 H9 ⟨rfl, c3, p3, rfl, rfl⟩
 try (refine st ?_; intros)
 exact q_fz ⟨hle1.trans hle2, c3, p3, rfl, rfl⟩
end ZP
namespace Go.Eng
open Go
def oneS (x : Stp) : List Stp := if 0 < x.k ∨ x.d ≠ [] ∨ x.p ≠ [] then [x] else []
theorem zFC (t : Tx) : oneS ⟨0, [], t⟩ = putT t := by
 unfold oneS putT
 by_cases h : t = []
 ·rw [if_pos h, if_neg (by simp [h])]
 ·rw [if_neg h, if_pos (.inr (.inr h))]
theorem zEx (t : Tx) : oneS ⟨0, t, []⟩ = dropT t := by
 unfold oneS dropT
 by_cases h : t = []
 ·rw [if_pos h, if_neg (by simp [h])]
 ·rw [if_neg h, if_pos (.inr (.inl h))]
theorem zHF {t : Tx} (h : t ≠ []) : oneS ⟨(t.length : Int), [], []⟩ = keepT t := by
 unfold oneS keepT
 have := List.length_pos_iff.2 h
 rw [if_pos (.inl (by simp only; omega))]
end Go.Eng
namespace ZP
open Go Go.Eng
namespace ZD38a
theorem zal {G G' : Prop} (next : G') (h : Bx G' → G := by intro zzn; (first | (refine WL.append1 (by':=40) rfl rfl rfl rfl (by (repeat (first | exact Out.here | apply Out.there))) zhs (by exact rfl) (by exact rfl) (by exact rfl) (by exact rfl) (by exact rfl) (by exact rfl) (by first | exact rfl | omega) (by first | omega | (simp; omega)) (by decide) (by exact rfl) ?_; intro zzf zzf)); (repeat revert zzf); exact zzn.out) : G := h ⟨next⟩
end ZD38a
open ZD38a in
theorem kW {L : List Stp} {x : Stp} {a : Option Addr} {cap : Nat} (hL : L.length ≤ 4194304) (w0 : World) (m : Mem) (H : SHeap) :
  Does Tryz.prog 124 #[.slice a L.length cap, .agg #[.int .i64 x.k, str x.d, str x.p]] w0 m (.row a cap 165 3 (L.map Stp.cs) :: H)
   (fun v m' H' => m' = m ∧ ∃ a2 cap2, v = .slice a2 (L ++ oneS x).length cap2 ∧ H' = .row a2 cap2 165 3 ((L ++ oneS x).map Stp.cs) :: H) := by
 refine Does.of_body func124 rfl ntmps124 rfl ?_
 have hLm : (L.map Stp.cs).length = L.length := List.length_map _
 by_cases h : 0 < x.k ∨ x.d ≠ [] ∨ x.p ≠ []
 ·have hc : 0 < x.k ∨ (¬ 0 < x.k ∧ (x.d ≠ [] ∨ (x.d = [] ∧ x.p ≠ []))) := by
   by_cases h1 : 0 < x.k
   ·exact .inl h1
   ·by_cases h2 : x.d = []
    ·rcases h with h | h | h
     ·exact absurd h h1
     ·exact absurd h2 h
     ·exact .inr ⟨h1, .inr ⟨h2, h⟩⟩
    ·exact .inr ⟨h1, .inl h2⟩
  rw [show oneS x = [x] from if_pos h]
  clear h
  have hl1 : L.length + 1 = (L ++ [x]).length := by simp
  have hm1 : L.map Stp.cs ++ [[.int .i64 x.k, str x.d, str x.p]] = (L ++ [x]).map Stp.cs := by simp [Stp.cs]
  rcases hc with h1 | ⟨h1, h2 | ⟨h2, h3⟩⟩
  all_goals
   refine stg ?_; intros; rename_i bx b9 a2 c2
   rw [hLm, hl1, hm1]
   exact q_fz ⟨rfl, a2, c2, rfl, rfl⟩
 ·rw [show oneS x = [] from if_neg h, List.append_nil]
  have h1 : ¬ 0 < x.k := fun g => h (.inl g)
  have h2 : x.d = [] := Decidable.not_not.1 fun g => h (.inr (.inl g))
  have h3 : x.p = [] := Decidable.not_not.1 fun g => h (.inr (.inr g))
  refine stg ?_; intros; rename_i bx
  exact q_fz ⟨rfl, a, cap, rfl, rfl⟩
end ZP
