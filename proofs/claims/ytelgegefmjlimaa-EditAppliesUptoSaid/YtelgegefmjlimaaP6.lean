/-
  Parts of a walk, joined: E24 ET19 E23 E25 E17a E17 E21 E26 RT2 RT3 RT7 RT4 RT8 RT9 RT16 E29 E30 R1 ER1 E34 ET20 RT17 ET21 ET22 ET16 ET17. No condition.
-/
import Derived.Test.YtelgegefmjlimaaP4
import Derived.Test.YtelgegefmjlimaaP5
import Derived.Test.YtelgegefmjlimaaP2
import Derived.Test.YtelgegefmjlimaaP3
import Derived.Test.YtelgegefmjlimaaProg
/-
  The walks of the reference's Apply, Plain and Invert, of the law's back, and of the program's Invert. No condition.
-/
namespace Go.Eng
open Go Go.RowKit
end Go.Eng
namespace Go.Proofs.Ytelgegefmjlimaa
open Go Go.Eng
set_option maxRecDepth 100000
set_option maxHeartbeats 4000000
set_option linter.all false
attribute [local irreducible] WL WC WQ QFun QLoop Does Q1 QRound QAssign Go.Addr.add
attribute [local irreducible] sizesF sizesOf putsOf dropsOf bytesOf gapsOf applyA plainOf
theorem sq_E24_1 {G : Prop} (h : G := by (repeat (first | (refine sp ?_; (repeat intro zzc)) | (refine iF 14 rfl ?_; refine w_callG Try.func14 ?_ (hs := refSizes_any (by assumption) _ _ _ (by assumption))))); exact WQ.q1 rfl) : G := h
theorem cm_E24_1 {G G' : Prop} (next : G') (h : Bx G' → G := by intro zzn; (try (refine wcal 0 ?_ (hwl := by intro zm zF zle; exact sq_E24_1))); (try (refine wcal 1 ?_ (hwl := by intro zm zF zle; exact sq_E24_1))); (try (refine wcal 2 ?_ (hwl := by intro zm zF zle; exact sq_E24_1))); (try (refine wcal 3 ?_ (hwl := by intro zm zF zle; exact sq_E24_1))); (try (refine wcal 4 ?_ (hwl := by intro zm zF zle; exact sq_E24_1))); (try (refine wcal 5 ?_ (hwl := by intro zm zF zle; exact sq_E24_1))); (try (refine wcal 6 ?_ (hwl := by intro zm zF zle; exact sq_E24_1))); (try (refine wcal 7 ?_ (hwl := by intro zm zF zle; exact sq_E24_1))); (try (refine wcal 8 ?_ (hwl := by intro zm zF zle; exact sq_E24_1))); (try (refine wcal 9 ?_ (hwl := by intro zm zF zle; exact sq_E24_1))); (try (refine wcal 10 ?_ (hwl := by intro zm zF zle; exact sq_E24_1))); (try (refine wcal 11 ?_ (hwl := by intro zm zF zle; exact sq_E24_1))); (try (refine wcal 12 ?_ (hwl := by intro zm zF zle; exact sq_E24_1))); (try (refine wcal 13 ?_ (hwl := by intro zm zF zle; exact sq_E24_1))); (try (refine wcal 14 ?_ (hwl := by intro zm zF zle; exact sq_E24_1))); (try (refine wcal 15 ?_ (hwl := by intro zm zF zle; exact sq_E24_1))); (try (refine wcal 16 ?_ (hwl := by intro zm zF zle; exact sq_E24_1))); (try (refine wcal 17 ?_ (hwl := by intro zm zF zle; exact sq_E24_1))); (try (refine wcal 18 ?_ (hwl := by intro zm zF zle; exact sq_E24_1))); (try (refine wcal 19 ?_ (hwl := by intro zm zF zle; exact sq_E24_1))); (try (refine wcal 20 ?_ (hwl := by intro zm zF zle; exact sq_E24_1))); (try (refine wcal 21 ?_ (hwl := by intro zm zF zle; exact sq_E24_1))); (try (refine wcal 22 ?_ (hwl := by intro zm zF zle; exact sq_E24_1))); (try (refine wcal 23 ?_ (hwl := by intro zm zF zle; exact sq_E24_1))); (try (refine wcal 24 ?_ (hwl := by intro zm zF zle; exact sq_E24_1))); (try (refine wcal 25 ?_ (hwl := by intro zm zF zle; exact sq_E24_1))); (try (refine wcal 26 ?_ (hwl := by intro zm zF zle; exact sq_E24_1))); (try (refine wcal 27 ?_ (hwl := by intro zm zF zle; exact sq_E24_1))); (try (refine wcal 28 ?_ (hwl := by intro zm zF zle; exact sq_E24_1))); (try (refine wcal 29 ?_ (hwl := by intro zm zF zle; exact sq_E24_1))); (try (refine wcal 30 ?_ (hwl := by intro zm zF zle; exact sq_E24_1))); (try (refine wcal 31 ?_ (hwl := by intro zm zF zle; exact sq_E24_1))); (try (refine wcal 32 ?_ (hwl := by intro zm zF zle; exact sq_E24_1))); (try (refine wcal 33 ?_ (hwl := by intro zm zF zle; exact sq_E24_1))); (try (refine wcal 34 ?_ (hwl := by intro zm zF zle; exact sq_E24_1))); (try (refine wcal 35 ?_ (hwl := by intro zm zF zle; exact sq_E24_1))); (try (refine wcal 36 ?_ (hwl := by intro zm zF zle; exact sq_E24_1))); (try (refine wcal 37 ?_ (hwl := by intro zm zF zle; exact sq_E24_1))); (try (refine wcal 38 ?_ (hwl := by intro zm zF zle; exact sq_E24_1))); (try (refine wcal 39 ?_ (hwl := by intro zm zF zle; exact sq_E24_1))); (try (refine wcal 40 ?_ (hwl := by intro zm zF zle; exact sq_E24_1))); (try (refine wcal 41 ?_ (hwl := by intro zm zF zle; exact sq_E24_1))); exact zzn.out) : G := h ⟨next⟩
theorem st_E24_1 {G G' : Prop} (next : G') (h : Bx G' → G := by intro zzn; (first | ((refine st ?_; (repeat intro zzc)); (try ((first | (refine iF 14 rfl ?_; refine w_callG Try.func14 ?_ (hs := refSizes_any (by assumption) _ _ _ (by assumption))) | ((refine iDraw ?_; (first | refine WC.drawAll rfl (by decide +kernel) ?_ | refine WC.draw 1 rfl (by decide +kernel) ?_ | refine WC.draw 2 rfl (by decide +kernel) ?_ | refine WC.draw 3 rfl (by decide +kernel) ?_ | refine WC.draw 4 rfl (by decide +kernel) ?_ | refine WC.draw 5 rfl (by decide +kernel) ?_ | refine WC.draw 6 rfl (by decide +kernel) ?_ | refine WC.draw 7 rfl (by decide +kernel) ?_ | refine WC.draw 8 rfl (by decide +kernel) ?_ | refine WC.draw 9 rfl (by decide +kernel) ?_ | refine WC.draw 10 rfl (by decide +kernel) ?_ | refine WC.draw 11 rfl (by decide +kernel) ?_ | refine WC.draw 12 rfl (by decide +kernel) ?_ | refine WC.draw 13 rfl (by decide +kernel) ?_ | refine WC.draw 14 rfl (by decide +kernel) ?_ | refine WC.draw 15 rfl (by decide +kernel) ?_ | refine WC.draw 16 rfl (by decide +kernel) ?_ | refine WC.draw 17 rfl (by decide +kernel) ?_ | refine WC.draw 18 rfl (by decide +kernel) ?_ | refine WC.draw 19 rfl (by decide +kernel) ?_ | refine WC.draw 20 rfl (by decide +kernel) ?_ | refine WC.draw 21 rfl (by decide +kernel) ?_ | refine WC.draw 22 rfl (by decide +kernel) ?_ | refine WC.draw 23 rfl (by decide +kernel) ?_ | refine WC.draw 24 rfl (by decide +kernel) ?_)); (repeat (refine WD.cons rfl (fun c h => by cases h) sq_E24_1 ?_)); refine WD.nil ?_)); (try (refine st ?_; (repeat intro zzc)))))) | ((first | (refine iF 14 rfl ?_; refine w_callG Try.func14 ?_ (hs := refSizes_any (by assumption) _ _ _ (by assumption))) | ((refine iDraw ?_; (first | refine WC.drawAll rfl (by decide +kernel) ?_ | refine WC.draw 1 rfl (by decide +kernel) ?_ | refine WC.draw 2 rfl (by decide +kernel) ?_ | refine WC.draw 3 rfl (by decide +kernel) ?_ | refine WC.draw 4 rfl (by decide +kernel) ?_ | refine WC.draw 5 rfl (by decide +kernel) ?_ | refine WC.draw 6 rfl (by decide +kernel) ?_ | refine WC.draw 7 rfl (by decide +kernel) ?_ | refine WC.draw 8 rfl (by decide +kernel) ?_ | refine WC.draw 9 rfl (by decide +kernel) ?_ | refine WC.draw 10 rfl (by decide +kernel) ?_ | refine WC.draw 11 rfl (by decide +kernel) ?_ | refine WC.draw 12 rfl (by decide +kernel) ?_ | refine WC.draw 13 rfl (by decide +kernel) ?_ | refine WC.draw 14 rfl (by decide +kernel) ?_ | refine WC.draw 15 rfl (by decide +kernel) ?_ | refine WC.draw 16 rfl (by decide +kernel) ?_ | refine WC.draw 17 rfl (by decide +kernel) ?_ | refine WC.draw 18 rfl (by decide +kernel) ?_ | refine WC.draw 19 rfl (by decide +kernel) ?_ | refine WC.draw 20 rfl (by decide +kernel) ?_ | refine WC.draw 21 rfl (by decide +kernel) ?_ | refine WC.draw 22 rfl (by decide +kernel) ?_ | refine WC.draw 23 rfl (by decide +kernel) ?_ | refine WC.draw 24 rfl (by decide +kernel) ?_)); (repeat (refine WD.cons rfl (fun c h => by cases h) sq_E24_1 ?_)); refine WD.nil ?_)); (try (refine st ?_; (repeat intro zzc))))); (repeat ((first | (refine iF 14 rfl ?_; refine w_callG Try.func14 ?_ (hs := refSizes_any (by assumption) _ _ _ (by assumption))) | ((refine iDraw ?_; (first | refine WC.drawAll rfl (by decide +kernel) ?_ | refine WC.draw 1 rfl (by decide +kernel) ?_ | refine WC.draw 2 rfl (by decide +kernel) ?_ | refine WC.draw 3 rfl (by decide +kernel) ?_ | refine WC.draw 4 rfl (by decide +kernel) ?_ | refine WC.draw 5 rfl (by decide +kernel) ?_ | refine WC.draw 6 rfl (by decide +kernel) ?_ | refine WC.draw 7 rfl (by decide +kernel) ?_ | refine WC.draw 8 rfl (by decide +kernel) ?_ | refine WC.draw 9 rfl (by decide +kernel) ?_ | refine WC.draw 10 rfl (by decide +kernel) ?_ | refine WC.draw 11 rfl (by decide +kernel) ?_ | refine WC.draw 12 rfl (by decide +kernel) ?_ | refine WC.draw 13 rfl (by decide +kernel) ?_ | refine WC.draw 14 rfl (by decide +kernel) ?_ | refine WC.draw 15 rfl (by decide +kernel) ?_ | refine WC.draw 16 rfl (by decide +kernel) ?_ | refine WC.draw 17 rfl (by decide +kernel) ?_ | refine WC.draw 18 rfl (by decide +kernel) ?_ | refine WC.draw 19 rfl (by decide +kernel) ?_ | refine WC.draw 20 rfl (by decide +kernel) ?_ | refine WC.draw 21 rfl (by decide +kernel) ?_ | refine WC.draw 22 rfl (by decide +kernel) ?_ | refine WC.draw 23 rfl (by decide +kernel) ?_ | refine WC.draw 24 rfl (by decide +kernel) ?_)); (repeat (refine WD.cons rfl (fun c h => by cases h) sq_E24_1 ?_)); refine WD.nil ?_)); (try (refine st ?_; (repeat intro zzc))))); (repeat revert zzc); exact zzn.out) : G := h ⟨next⟩
theorem rApply_any {a : Option Addr} {cap : Nat} {l : List Stp} {s : List UInt8} {f t : Int} (hf : Fit l) (hs : sizesOf l = some (f, t)) (hsl : s.length ≤ 1000000000) (w0 : World) (m : Mem) (H : SHeap) (hr : RowR w0 m H 3 a (l.map Stp.cs)) :
    Does Try.prog 58 #[str s, .slice a l.length cap] w0 m H (Gives (applyV s l) m H) := by
  refine Does.of_body (args := [str s, .slice a l.length cap]) Try.func58 rfl Try.ntmps58 rfl ?_
  have e2 : szR (sizesOf l) = .tuple #[.int .i64 f, .int .i64 t, .bool true] := by rw [hs]; rfl
  obtain ⟨hok, hal, hpl, hfr, _, g1, g2, _, _⟩ := sized hs
  (try (refine st_E24_1 ?_; intros))
  rw [e2]
  by_cases hfs : f = s.length
  · (try (refine st_E24_1 ?_; intros))
    refine w_callF Try.func43 ?_ (hs := say_any hf hs _ _ _ hr)
    rintro _ m _ ⟨rfl, q2, q4, q6, rfl, rfl⟩
    have hda := drops_from l hok
    obtain ⟨la1, la2⟩ := said_len (gapsOf l)
    have hpa : posOf (gapsOf l) = (putsOf (gapsOf l)).zip ((dropsOf (gapsOf l)).zip (bytesOf (gapsOf l))) := rfl
    have hla : lastOf (gapsOf l) = (putsOf (gapsOf l)).getD (dropsOf (gapsOf l)).length [] := rfl
    have hln : (sdA (posOf (gapsOf l)) (lastOf (gapsOf l))).length ≤ 200000 := by rw [sd_atoms]; have := (nf_len hs).1; omega
    have hnf : applyA s (sdA (posOf (gapsOf l)) (lastOf (gapsOf l))) = applyA s (atomsOf l) := by rw [sd_atoms, apply_nf l hok]
    generalize putsOf (gapsOf l) = PX at *
    generalize dropsOf (gapsOf l) = DX at *
    generalize bytesOf (gapsOf l) = BX at *
    generalize posOf (gapsOf l) = XP at *
    generalize lastOf (gapsOf l) = XL at *
    subst hpa
    subst hla
    have hPl : (PX.map sV).length = PX.length := by simp
    have hDl : (DX.map oV).length = DX.length := by simp
    have hBl : (BX.map uV).length = BX.length := by simp
    have hDs : DX.length = s.length := by omega
    (refine st_E24_1 ?_; intros; rename_i x)
    refine WC.newRow (T := 5) (sz := 1) ?_
    refine WC.loopH [(11, .int .i64 ((0) : Int)), (10, .slice (none) (0) (0)), (9, .pointer (some ⟨x, 0, none⟩)), (0, str s)] ?_ ?_ (fun j r ds m' H' => ∃ (p : Nat) (a9 : Option Addr) (c9 : Nat) (n9 : Nat) (O : List UInt8), j = DX.length + 1 - p ∧ r = [(11, .int .i64 (p : Int)), (10, .slice a9 n9 c9), (9, .pointer (some ⟨x, 0, none⟩)), (0, str s)] ∧ ds = [] ∧ m = m' ∧ H' = .row a9 c9 5 1 (O.map bV) :: .blk x (.cells [.slice (some ⟨q2, 0, none⟩) PX.length PX.length, .slice (some ⟨q4, 0, none⟩) DX.length DX.length, .slice (some ⟨q6, 0, none⟩) BX.length BX.length].toArray 92 (0, 0)) :: .row (some ⟨q2, 0, none⟩) PX.length 9 1 (PX.map sV) :: .row (some ⟨q4, 0, none⟩) DX.length 4 1 (DX.map oV) :: .row (some ⟨q6, 0, none⟩) BX.length 5 1 (BX.map uV) :: H ∧ (p ≤ DX.length) ∧ (n9 = O.length) ∧ (O.length + (sdA ((PX.zip (DX.zip BX)).drop p) (PX.getD DX.length [])).length ≤ 200000) ∧ ((applyA (s.drop p) (sdA ((PX.zip (DX.zip BX)).drop p) (PX.getD DX.length []))).map (O ++ ·) = applyA s (atomsOf l))) (DX.length + 1 - (0)) ⟨0, none, 0, 0, ([] : List UInt8), rfl, rfl, rfl, rfl, rfl, by omega, rfl, by rw [List.drop_zero]; simp only [List.length_nil]; omega, by rw [List.drop_zero, List.drop_zero, hnf]; simp⟩ ?_
    · (repeat (first | exact Env.Sub.nil | refine Env.Sub.cons rfl ?_))
    · exact zpk
    rintro j r ds m' H' ⟨p, a9, c9, n9, O, rfl, rfl, rfl, rfl, rfl, hp, hn9, hO, hR⟩
    subst hn9
    have hOl : (O.map bV).length = O.length := by simp
    have hpx : p < PX.length := by omega
    have hgx : (PX.map sV)[p]? = some [str PX[p]] := by rw [List.getElem?_map, List.getElem?_eq_getElem hpx]; rfl
    have em : O.map bV ++ PX[p].map (fun b => [Value.int .u8 (b.toNat : Int)]) = (O ++ PX[p]).map bV := by rw [List.map_append]; rfl
    by_cases hlt : p < DX.length
    · have hxb : p < BX.length := by omega
      have hsb : p < s.length := by omega
      have gxd : (DX.map oV)[p]? = some [.bool DX[p]] := by rw [List.getElem?_map, List.getElem?_eq_getElem hlt]; rfl
      have gxb : (BX.map uV)[p]? = some [.int .u8 (BX[p].toNat : Int)] := by rw [List.getElem?_map, List.getElem?_eq_getElem hxb]; rfl
      have hg := gb_at hsb
      rw [pos_drop la1 la2 hlt, sdA_cons] at hO hR
      rw [List.drop_eq_getElem_cons hsb] at hR
      dsimp only at hO hR
      simp only [List.length_append, List.length_map, List.length_cons] at hO
      rw [applyA_ps, Option.map_map] at hR
      have hOP : (O ++ PX[p]).length = O.length + PX[p].length := by simp
      have hOPl : ((O ++ PX[p]).map bV).length = O.length + PX[p].length := by simp
      cases hdx : DX[p] with
      | false =>
        rw [hdx] at gxd hR
        simp only [Bool.false_eq_true, if_false] at hR
        rw [applyA_kc, Option.map_map] at hR
        (refine st_E24_1 ?_; intros; rename_i a8 c8 bz a7 c7)
        have em2 : O.map bV ++ PX[p].map (fun b => [Value.int .u8 (b.toNat : Int)]) ++ [[.int .u8 (gb s p : Int)]] = (O ++ PX[p] ++ [s[p]]).map bV := by rw [em, List.map_append (l₂ := [s[p]]), hg]; rfl
        have em3 : (O.map bV ++ PX[p].map (fun b => [Value.int .u8 (b.toNat : Int)])).length + 1 = O.length + PX[p].length + 1 := by rw [em, hOPl]
        rw [em2, em3]
        refine WQ.next (DX.length + 1 - (p + 1)) ⟨p + 1, a7, c7, O.length + PX[p].length + 1, O ++ PX[p] ++ [s[p]], rfl, rfl, rfl, rfl, rfl, ?_, ?_, ?_, ?_⟩ (by omega) zsb zpk
        · omega
        · simp only [List.length_append, List.length_singleton]
        · simp only [List.length_append, List.length_singleton]; omega
        · rw [← hR]; congr 1; funext q; simp
      | true =>
        rw [hdx] at gxd hR
        simp only [if_true] at hR
        rw [applyA_dc] at hR
        by_cases hb : s[p] = BX[p]
        · rw [if_pos hb] at hR
          have hb' : (BX[p].toNat : Int) = (gb s p : Int) := by rw [hg, hb]
          (refine st_E24_1 ?_; intros; rename_i a8 c8)
          rw [hOl, em]
          refine WQ.next (DX.length + 1 - (p + 1)) ⟨p + 1, a8, c8, O.length + PX[p].length, O ++ PX[p], rfl, rfl, rfl, rfl, rfl, ?_, ?_, ?_, ?_⟩ (by omega) zsb zpk
          · omega
          · rw [hOP]
          · rw [hOP]; omega
          · rw [← hR]; congr 1; funext q; simp
        · rw [if_neg hb] at hR
          have hb' : ¬ (BX[p].toNat : Int) = (gb s p : Int) := by rw [hg]; exact fun h => hb (UInt8.toNat_inj.1 (by omega))
          have e : applyV s l = .tuple #[str [], .int .i64 270] := by simp only [applyV, hs, hfs, ne_eq, not_true, if_false, ← hR, Option.map_none]
          rw [e]
          (try (refine st_E24_1 ?_; intros))
          exact q_fin0 (H0 := H) (Gives.mk rfl) (hd := zpk)
    · have hpe : p = DX.length := by omega
      rw [List.drop_eq_nil_of_le (show (PX.zip (DX.zip BX)).length ≤ p by simp only [List.length_zip]; omega), getD_last hpe hpx, sdA_nil] at hO hR
      simp only [List.length_map] at hO
      have hsd : s.drop p = [] := List.drop_eq_nil_of_le (by omega)
      have hps := applyA_ps (s.drop p) PX[p] []
      rw [List.append_nil, applyA_nil] at hps
      rw [hps] at hR
      have e : applyV s l = .tuple #[str (O ++ PX[p]), .int .i64 0] := by
        have : applyA s (atomsOf l) = some (O ++ PX[p]) := by rw [← hR]; simp
        simp only [applyV, hs, hfs, ne_eq, not_true, if_false, this]
      rw [e]
      have hOP : (O ++ PX[p]).length = O.length + PX[p].length := by simp
      (refine st_E24_1 ?_; intros; rename_i a8 c8)
      rw [hOl, em]
      (try (refine st_E24_1 ?_; intros))
      refine WL.rowStr (s := O ++ PX[p]) rfl hOP.symm zhs rfl rfl rfl rfl rfl ?_
      (try (refine st_E24_1 ?_; intros))
      exact q_fin0 (H0 := H) (Gives.mk rfl) (hd := zpk)
  · have e : applyV s l = .tuple #[str [], .int .i64 5] := by simp [applyV, hs, hfs]
    rw [e]
    (try (refine st_E24_1 ?_; intros))
    exact q_fin0 (H0 := H) (Gives.mk rfl) (hd := zpk)
theorem rPlain_any {q2 q4 q6 : Nat} {PX : List (List UInt8)} {DX : List Bool} {BX : List UInt8} (la1 : BX.length = DX.length) (la2 : PX.length = DX.length + 1) (hln : (sdA (PX.zip (DX.zip BX)) (PX.getD DX.length [])).length ≤ 200000) (w0 : World) (m : Mem) (H : SHeap) :
    Does Try.prog 60 #[.agg #[.slice (some ⟨q2, 0, none⟩) PX.length PX.length, .slice (some ⟨q4, 0, none⟩) DX.length DX.length, .slice (some ⟨q6, 0, none⟩) BX.length BX.length]] w0 m (.row (some ⟨q2, 0, none⟩) PX.length 9 1 (PX.map sV) :: .row (some ⟨q4, 0, none⟩) DX.length 4 1 (DX.map oV) :: .row (some ⟨q6, 0, none⟩) BX.length 5 1 (BX.map uV) :: H)
      (fun v m' H' => m' = m ∧ ∃ c cp, v = .slice c (listOf (sdA (PX.zip (DX.zip BX)) (PX.getD DX.length []))).length cp ∧ H' = .row c cp 84 3 ((listOf (sdA (PX.zip (DX.zip BX)) (PX.getD DX.length []))).map Stp.cs) :: H) := by
  refine Does.of_body (args := [.agg #[.slice (some ⟨q2, 0, none⟩) PX.length PX.length, .slice (some ⟨q4, 0, none⟩) DX.length DX.length, .slice (some ⟨q6, 0, none⟩) BX.length BX.length]]) Try.func60 rfl Try.ntmps60 rfl ?_
  have hPl : (PX.map sV).length = PX.length := by simp
  have hDl : (DX.map oV).length = DX.length := by simp
  have hBl : (BX.map uV).length = BX.length := by simp
  have hDle : DX.length ≤ 200000 := by
    have h1 := sd_from (PX.getD DX.length []) (PX.zip (DX.zip BX))
    have h2 := fromA_le (sdA (PX.zip (DX.zip BX)) (PX.getD DX.length []))
    simp only [List.length_zip] at h1
    omega
  have hlist : listOf (sdA (PX.zip (DX.zip BX)) (PX.getD DX.length [])) = (Bld.start.run (sdA (PX.zip (DX.zip BX)) (PX.getD DX.length []))).close.l := rfl
  generalize listOf (sdA (PX.zip (DX.zip BX)) (PX.getD DX.length [])) = R at *
  (refine st_E24_1 ?_; intros; rename_i x bm)
  refine WC.newRow (T := 84) (sz := 3) ?_
  refine WC.loopH [(4, .int .i64 ((0) : Int)), (3, .pointer (some ⟨bm, 0, none⟩)), (1, .pointer (some ⟨x, 0, none⟩))] ?_ ?_ (fun j r ds m' H' => ∃ (p : Nat) (c : Option Addr) (cp : Nat) (B : Bld) (k : Nat), j = PX.length - p ∧ r = [(4, .int .i64 (p : Int)), (3, .pointer (some ⟨bm, 0, none⟩)), (1, .pointer (some ⟨x, 0, none⟩))] ∧ ds = [] ∧ m = m' ∧ H' = .blk bm (.cells [.slice c B.l.length cp, str B.p, str B.d].toArray 109 (0, 0)) :: .row c cp 84 3 (B.l.map Stp.cs) :: .blk x (.cells [.slice (some ⟨q2, 0, none⟩) PX.length PX.length, .slice (some ⟨q4, 0, none⟩) DX.length DX.length, .slice (some ⟨q6, 0, none⟩) BX.length BX.length].toArray 92 (0, 0)) :: .row (some ⟨q2, 0, none⟩) PX.length 9 1 (PX.map sV) :: .row (some ⟨q4, 0, none⟩) DX.length 4 1 (DX.map oV) :: .row (some ⟨q6, 0, none⟩) BX.length 5 1 (BX.map uV) :: H ∧ (p ≤ PX.length) ∧ (BFit k B) ∧ ((p ≤ DX.length ∧ k + 4 * (sdA ((PX.zip (DX.zip BX)).drop p) (PX.getD DX.length [])).length ≤ 10000000) ∨ (p = DX.length + 1 ∧ k ≤ 10000000)) ∧ ((p ≤ DX.length → R = (B.run (sdA ((PX.zip (DX.zip BX)).drop p) (PX.getD DX.length []))).close.l) ∧ (p = DX.length + 1 → R = B.close.l))) (PX.length - (0)) ⟨0, none, 0, Bld.start, 0, rfl, rfl, rfl, rfl, rfl, by omega, BFit.start, by rw [List.drop_zero]; exact .inl ⟨by omega, by omega⟩, by rw [List.drop_zero]; exact ⟨fun _ => hlist, fun h => by omega⟩⟩ ?_
  · (repeat (first | exact Env.Sub.nil | refine Env.Sub.cons rfl ?_))
  · exact zpk
  rintro j r ds m' H' ⟨p, c, cp, B, k, rfl, rfl, rfl, rfl, rfl, hp, hB, hk, ht⟩
  have hBp := hB.p
  have hBd := hB.d
  by_cases hlt : p < PX.length
  · have hk1 : k + 4 * (sdA ((PX.zip (DX.zip BX)).drop p) (PX.getD DX.length [])).length ≤ 10000000 := by omega
    have ht1 := ht.1 (by omega)
    have hgx : (PX.map sV)[p]? = some [str PX[p]] := by rw [List.getElem?_map, List.getElem?_eq_getElem hlt]; rfl
    have hB1 := bfit_put hB PX[p]
    by_cases hpd : p < DX.length
    · have hxb : p < BX.length := by omega
      have gxd : (DX.map oV)[p]? = some [.bool DX[p]] := by rw [List.getElem?_map, List.getElem?_eq_getElem hpd]; rfl
      have gxb : (BX.map uV)[p]? = some [.int .u8 (BX[p].toNat : Int)] := by rw [List.getElem?_map, List.getElem?_eq_getElem hxb]; rfl
      rw [pos_less la1 la2 hpd] at hk1
      rw [pos_drop la1 la2 hpd, sdA_cons, run_append, run_p] at ht1
      dsimp only at ht1
      cases hdx : DX[p] with
      | true =>
        rw [hdx] at gxd ht1
        (try (refine st_E24_1 ?_; intros))
        refine WL.heap (H' := .blk bm (.cells [.slice c B.l.length cp, str (B.p ++ PX[p]), str B.d].toArray 109 (0, 0)) :: .row c cp 84 3 (B.l.map Stp.cs) :: .blk x (.cells [.slice (some ⟨q2, 0, none⟩) PX.length PX.length, .slice (some ⟨q4, 0, none⟩) DX.length DX.length, .slice (some ⟨q6, 0, none⟩) BX.length BX.length].toArray 92 (0, 0)) :: .row (some ⟨q2, 0, none⟩) PX.length 9 1 (PX.map sV) :: .row (some ⟨q4, 0, none⟩) DX.length 4 1 (DX.map oV) :: .row (some ⟨q6, 0, none⟩) BX.length 5 1 (BX.map uV) :: H) zpk ?_
        refine w_callF Try.func49 ?_ (hs := mdrop_any ⟨B.l, B.p ++ PX[p], B.d⟩ BX[p] (by simp only; omega) _ _ _)
        rintro v m H1 ⟨rfl, rfl, rfl⟩
        (try (refine st_E24_1 ?_; intros))
        refine WQ.next (PX.length - (p + 1)) ⟨p + 1, c, cp, ⟨B.l, B.p ++ PX[p], B.d ++ [BX[p]]⟩, k + PX[p].length + 1, rfl, rfl, rfl, rfl, rfl, ?_, ?_, ?_, ?_⟩ (by omega) zsb zpk
        · omega
        · exact (bfit_drop hB1 [BX[p]]).mono (by simp only [List.length_singleton]; omega)
        · exact .inl ⟨by omega, by omega⟩
        · exact ⟨fun _ => ht1, fun h => by omega⟩
      | false =>
        rw [hdx] at gxd ht1
        (try (refine st_E24_1 ?_; intros))
        refine WL.heap (H' := .blk bm (.cells [.slice c B.l.length cp, str (B.p ++ PX[p]), str B.d].toArray 109 (0, 0)) :: .row c cp 84 3 (B.l.map Stp.cs) :: .blk x (.cells [.slice (some ⟨q2, 0, none⟩) PX.length PX.length, .slice (some ⟨q4, 0, none⟩) DX.length DX.length, .slice (some ⟨q6, 0, none⟩) BX.length BX.length].toArray 92 (0, 0)) :: .row (some ⟨q2, 0, none⟩) PX.length 9 1 (PX.map sV) :: .row (some ⟨q4, 0, none⟩) DX.length 4 1 (DX.map oV) :: .row (some ⟨q6, 0, none⟩) BX.length 5 1 (BX.map uV) :: H) zpk ?_
        refine w_callF Try.func50 ?_ (hs := mkeep_any ⟨B.l, B.p ++ PX[p], B.d⟩ 1 (by omega) (hB1.mono (by omega)) _ _ _)
        rintro v m H1 ⟨rfl, rfl, c2, cp2, rfl⟩
        (try (refine st_E24_1 ?_; intros))
        refine WQ.next (PX.length - (p + 1)) ⟨p + 1, c2, cp2, (⟨B.l, B.p ++ PX[p], B.d⟩ : Bld).keep ((1 : Nat) : Int), k + PX[p].length + 4, rfl, rfl, rfl, rfl, rfl, ?_, ?_, ?_, ?_⟩ (by omega) zsb zpk
        · omega
        · exact (hB1.keep (n := 1)).mono (by omega)
        · exact .inl ⟨by omega, by omega⟩
        · exact ⟨fun _ => ht1, fun h => by omega⟩
    · have hpe : p = DX.length := by omega
      have hbx := pos_left la1 la2 hlt
      rw [pos_end (by omega), sdA_nil, getD_last hpe hlt, run_p] at ht1
      (try (refine st_E24_1 ?_; intros))
      refine WQ.next (PX.length - (p + 1)) ⟨p + 1, c, cp, ⟨B.l, B.p ++ PX[p], B.d⟩, k + PX[p].length, rfl, rfl, rfl, rfl, rfl, ?_, ?_, ?_, ?_⟩ (by omega) zsb zpk
      · omega
      · exact hB1
      · exact .inr ⟨by omega, by omega⟩
      · exact ⟨fun h => by omega, fun _ => ht1⟩
  · have hpe : p = DX.length + 1 := by omega
    have ht1 := ht.2 hpe
    have hBl := hB.len
    (try (refine st_E24_1 ?_; intros))
    refine WL.heap (H' := .blk bm (.cells [.slice c B.l.length cp, str B.p, str B.d].toArray 109 (0, 0)) :: .row c cp 84 3 (B.l.map Stp.cs) :: H) zpk ?_
    refine w_callF Try.func51 ?_ (hs := end_any B (by omega) _ _ _)
    rintro v m H1 ⟨rfl, rfl, c2, cp2, rfl⟩
    (try (refine st_E24_1 ?_; intros))
    rw [ht1]
    exact q_fin0 (H0 := .row c2 cp2 84 3 (B.close.l.map Stp.cs) :: H) ⟨rfl, c2, cp2, rfl, rfl⟩ (hd := zpk)
theorem rInvert_any {a : Option Addr} {cap : Nat} {l : List Stp} {f t : Int} (hf : Fit l) (hs : sizesOf l = some (f, t)) (w0 : World) (m : Mem) (H : SHeap) (hr : RowR w0 m H 3 a (l.map Stp.cs)) :
    Does Try.prog 35 #[.slice a l.length cap] w0 m H (fun v m' H' => m' = m ∧ ∃ c cp, v = .slice c (listOf ((nfOf (gapsOf l)).map Atm.inv)).length cp ∧ H' = .row c cp 84 3 ((listOf ((nfOf (gapsOf l)).map Atm.inv)).map Stp.cs) :: H) := by
  refine Does.of_body (args := [.slice a l.length cap]) Try.func35 rfl Try.ntmps35 rfl ?_
  obtain ⟨hok, hal, hpl, hfr, _, g1, g2, _, _⟩ := sized hs
  (try (refine st_E24_1 ?_; intros))
  refine w_callF Try.func43 ?_ (hs := say_any hf hs _ _ _ hr)
  rintro _ m _ ⟨rfl, q2, q4, q6, rfl, rfl⟩
  have hda := drops_from l hok
  obtain ⟨la1, la2⟩ := said_len (gapsOf l)
  have hpa : posOf (gapsOf l) = (putsOf (gapsOf l)).zip ((dropsOf (gapsOf l)).zip (bytesOf (gapsOf l))) := rfl
  have hla : lastOf (gapsOf l) = (putsOf (gapsOf l)).getD (dropsOf (gapsOf l)).length [] := rfl
  have hln : (sdA (posOf (gapsOf l)) (lastOf (gapsOf l))).length ≤ 200000 := by rw [sd_atoms]; have := (nf_len hs).1; omega
  rw [← sd_atoms]
  generalize putsOf (gapsOf l) = PX at *
  generalize dropsOf (gapsOf l) = DX at *
  generalize bytesOf (gapsOf l) = BX at *
  generalize posOf (gapsOf l) = XP at *
  generalize lastOf (gapsOf l) = XL at *
  subst hpa
  subst hla
  have hPl : (PX.map sV).length = PX.length := by simp
  have hDl : (DX.map oV).length = DX.length := by simp
  have hBl : (BX.map uV).length = BX.length := by simp
  have hDle : DX.length ≤ 65536 := by omega
  have hlist : listOf ((sdA (PX.zip (DX.zip BX)) (PX.getD DX.length [])).map Atm.inv) = (Bld.start.run ((sdA (PX.zip (DX.zip BX)) (PX.getD DX.length [])).map Atm.inv)).close.l := rfl
  generalize listOf ((sdA (PX.zip (DX.zip BX)) (PX.getD DX.length [])).map Atm.inv) = R at *
  clear hok hal hpl hfr hda hr hs
  (refine st_E24_1 ?_; intros; rename_i x bm)
  refine WC.newRow (T := 84) (sz := 3) ?_
  refine WC.loopH [(5, .int .i64 ((0) : Int)), (4, .pointer (some ⟨bm, 0, none⟩)), (3, .pointer (some ⟨x, 0, none⟩))] ?_ ?_ (fun j r ds m' H' => ∃ (p : Nat) (c : Option Addr) (cp : Nat) (B : Bld) (k : Nat), j = PX.length - p ∧ r = [(5, .int .i64 (p : Int)), (4, .pointer (some ⟨bm, 0, none⟩)), (3, .pointer (some ⟨x, 0, none⟩))] ∧ ds = [] ∧ m = m' ∧ H' = .blk bm (.cells [.slice c B.l.length cp, str B.p, str B.d].toArray 109 (0, 0)) :: .row c cp 84 3 (B.l.map Stp.cs) :: .blk x (.cells [.slice (some ⟨q2, 0, none⟩) PX.length PX.length, .slice (some ⟨q4, 0, none⟩) DX.length DX.length, .slice (some ⟨q6, 0, none⟩) BX.length BX.length].toArray 92 (0, 0)) :: .row (some ⟨q2, 0, none⟩) PX.length 9 1 (PX.map sV) :: .row (some ⟨q4, 0, none⟩) DX.length 4 1 (DX.map oV) :: .row (some ⟨q6, 0, none⟩) BX.length 5 1 (BX.map uV) :: H ∧ (p ≤ PX.length) ∧ (BFit k B) ∧ ((p ≤ DX.length ∧ k + 4 * (sdA ((PX.zip (DX.zip BX)).drop p) (PX.getD DX.length [])).length ≤ 10000000) ∨ (p = DX.length + 1 ∧ k ≤ 10000000)) ∧ ((p ≤ DX.length → R = (B.run ((sdA ((PX.zip (DX.zip BX)).drop p) (PX.getD DX.length [])).map Atm.inv)).close.l) ∧ (p = DX.length + 1 → R = B.close.l))) (PX.length - (0)) ⟨0, none, 0, Bld.start, 0, rfl, rfl, rfl, rfl, rfl, by omega, BFit.start, by rw [List.drop_zero]; exact .inl ⟨by omega, by omega⟩, by rw [List.drop_zero]; exact ⟨fun _ => hlist, fun h => by omega⟩⟩ ?_
  · (repeat (first | exact Env.Sub.nil | refine Env.Sub.cons rfl ?_))
  · exact zpk
  rintro j r ds m' H' ⟨p, c, cp, B, k, rfl, rfl, rfl, rfl, rfl, hp, hB, hk, ht⟩
  have hBp := hB.p
  have hBd := hB.d
  by_cases hlt : p < PX.length
  · have hk1 : k + 4 * (sdA ((PX.zip (DX.zip BX)).drop p) (PX.getD DX.length [])).length ≤ 10000000 := by omega
    have ht1 := ht.1 (by omega)
    have hgx : (PX.map sV)[p]? = some [str PX[p]] := by rw [List.getElem?_map, List.getElem?_eq_getElem hlt]; rfl
    have hB1 := bfit_drop hB PX[p]
    by_cases hpd : p < DX.length
    · have hxb : p < BX.length := by omega
      have gxd : (DX.map oV)[p]? = some [.bool DX[p]] := by rw [List.getElem?_map, List.getElem?_eq_getElem hpd]; rfl
      have gxb : (BX.map uV)[p]? = some [.int .u8 (BX[p].toNat : Int)] := by rw [List.getElem?_map, List.getElem?_eq_getElem hxb]; rfl
      rw [pos_less la1 la2 hpd] at hk1
      rw [pos_drop la1 la2 hpd, sdA_cons, List.map_append, inv_ps, run_append, run_d, List.map_cons] at ht1
      dsimp only at ht1
      cases hdx : DX[p] with
      | true =>
        rw [hdx] at gxd ht1
        have hd1 : [BX[p]].length = 1 := rfl
        have hbd1 : (B.d ++ PX[p]).length ≤ 100000000 := by rw [List.length_append]; omega
        (try (refine st_E24_1 ?_; intros))
        refine WC.drawE 11 ([.blk bm (.cells [.slice c B.l.length cp, str B.p, str (B.d ++ PX[p])].toArray 109 (0, 0)), .blk x (.cells [.slice (some ⟨q2, 0, none⟩) PX.length PX.length, .slice (some ⟨q4, 0, none⟩) DX.length DX.length, .slice (some ⟨q6, 0, none⟩) BX.length BX.length].toArray 92 (0, 0)), .row (some ⟨q6, 0, none⟩) BX.length 5 1 (BX.map uV)]) (.row c cp 84 3 (B.l.map Stp.cs) :: .row (some ⟨q2, 0, none⟩) PX.length 9 1 (PX.map sV) :: .row (some ⟨q4, 0, none⟩) DX.length 4 1 (DX.map oV) :: H) rfl (by decide +kernel) zpk ?_
        (refine cm_E24_1 ?_)
        refine WE.act1 7 (by decide +kernel) rfl rfl (fun c h => by cases h) ?_
        (refine st_E24_1 ?_; intros; rename_i qz)
        refine WQ.acted (B := [.blk qz (.cells [.int .u8 (BX[p].toNat : Int)].toArray 5 (0, 0))]) (U := .row c cp 84 3 (B.l.map Stp.cs) :: .row (some ⟨q2, 0, none⟩) PX.length 9 1 (PX.map sV) :: .row (some ⟨q4, 0, none⟩) DX.length 4 1 (DX.map oV) :: H) rfl (Mem.le.refl _) zpk ?_
        (refine WE.calm 8 (by decide +kernel) rfl rfl (by decide +kernel) rfl (fun c h => by cases h) (by intro zm zF zle; refine WL.blkStr (s := [BX[p]]) rfl zhs rfl rfl rfl rfl rfl rfl rfl ?_; exact sq_E24_1) ?_)
        (refine WE.calm 9 (by decide +kernel) rfl rfl (by decide +kernel) rfl (fun c h => by cases h) (by intro zm zF zle; exact sq_E24_1) ?_)
        (refine WE.calm 10 (by decide +kernel) rfl rfl (by decide +kernel) rfl (fun c h => by cases h) (by intro zm zF zle; exact sq_E24_1) ?_)
        refine WE.done (by decide +kernel) ?_
        (try (refine st_E24_1 ?_; intros))
        refine WQ.next (PX.length - (p + 1)) ⟨p + 1, c, cp, ⟨B.l, B.p ++ [BX[p]], B.d ++ PX[p]⟩, k + PX[p].length + 1, rfl, rfl, rfl, rfl, rfl, ?_, ?_, ?_, ?_⟩ (by omega) zsb zpk
        · omega
        · exact (bfit_put hB1 [BX[p]]).mono (by simp only [List.length_singleton]; omega)
        · exact .inl ⟨by omega, by omega⟩
        · exact ⟨fun _ => ht1, fun h => by omega⟩
      | false =>
        rw [hdx] at gxd ht1
        (try (refine st_E24_1 ?_; intros))
        refine WL.heap (H' := .blk bm (.cells [.slice c B.l.length cp, str B.p, str (B.d ++ PX[p])].toArray 109 (0, 0)) :: .row c cp 84 3 (B.l.map Stp.cs) :: .blk x (.cells [.slice (some ⟨q2, 0, none⟩) PX.length PX.length, .slice (some ⟨q4, 0, none⟩) DX.length DX.length, .slice (some ⟨q6, 0, none⟩) BX.length BX.length].toArray 92 (0, 0)) :: .row (some ⟨q2, 0, none⟩) PX.length 9 1 (PX.map sV) :: .row (some ⟨q4, 0, none⟩) DX.length 4 1 (DX.map oV) :: .row (some ⟨q6, 0, none⟩) BX.length 5 1 (BX.map uV) :: H) zpk ?_
        refine w_callF Try.func50 ?_ (hs := mkeep_any ⟨B.l, B.p, B.d ++ PX[p]⟩ 1 (by omega) (hB1.mono (by omega)) _ _ _)
        rintro v m H1 ⟨rfl, rfl, c2, cp2, rfl⟩
        (try (refine st_E24_1 ?_; intros))
        refine WQ.next (PX.length - (p + 1)) ⟨p + 1, c2, cp2, (⟨B.l, B.p, B.d ++ PX[p]⟩ : Bld).keep ((1 : Nat) : Int), k + PX[p].length + 4, rfl, rfl, rfl, rfl, rfl, ?_, ?_, ?_, ?_⟩ (by omega) zsb zpk
        · omega
        · exact (hB1.keep (n := 1)).mono (by omega)
        · exact .inl ⟨by omega, by omega⟩
        · exact ⟨fun _ => ht1, fun h => by omega⟩
    · have hpe : p = DX.length := by omega
      have hbx := pos_left la1 la2 hlt
      rw [pos_end (by omega), sdA_nil, getD_last hpe hlt, inv_ps, run_d] at ht1
      (try (refine st_E24_1 ?_; intros))
      refine WQ.next (PX.length - (p + 1)) ⟨p + 1, c, cp, ⟨B.l, B.p, B.d ++ PX[p]⟩, k + PX[p].length, rfl, rfl, rfl, rfl, rfl, ?_, ?_, ?_, ?_⟩ (by omega) zsb zpk
      · omega
      · exact hB1
      · exact .inr ⟨by omega, by omega⟩
      · exact ⟨fun h => by omega, fun _ => ht1⟩
  · have hpe : p = DX.length + 1 := by omega
    have ht1 := ht.2 hpe
    have hBl := hB.len
    (try (refine st_E24_1 ?_; intros))
    refine WL.heap (H' := .blk bm (.cells [.slice c B.l.length cp, str B.p, str B.d].toArray 109 (0, 0)) :: .row c cp 84 3 (B.l.map Stp.cs) :: H) zpk ?_
    refine w_callF Try.func51 ?_ (hs := end_any B (by omega) _ _ _)
    rintro v m H1 ⟨rfl, rfl, c2, cp2, rfl⟩
    (try (refine st_E24_1 ?_; intros))
    rw [ht1]
    exact q_fin0 (H0 := .row c2 cp2 84 3 (B.close.l.map Stp.cs) :: H) ⟨rfl, c2, cp2, rfl, rfl⟩ (hd := zpk)
end Go.Proofs.Ytelgegefmjlimaa

/-
  Plain facts on changes: lists that builders make, applied. No condition.
-/
namespace Go.Eng
open Go
theorem mem_atoms {l : List Stp} {s : Stp} (h : s ∈ l) : s.atoms.length ≤ (atomsOf l).length := by
  obtain ⟨x, y, rfl⟩ := List.append_of_mem h
  rw [atoms_append, atoms_cons, List.length_append, List.length_append]; omega
theorem fit_list {L : List Atm} (h1 : fromA L ≤ 65536) (h2 : toA L ≤ 65536) : Fit (listOf L) := by
  obtain ⟨e1, e2⟩ := list_sizes L
  have hok := (list_ok L).1
  have ha := atoms_le (atomsOf (listOf L))
  have hl := steps_le (listOf L) hok
  refine ⟨by omega, fun s hs => ?_, fun s hs => ?_, fun s hs => ?_⟩
  all_goals
    have := mem_atoms hs
    have hb := stp_bounds (hok s hs)
    omega
def okV (t : List UInt8) : Value := .tuple #[str t, .int .i64 0]
theorem apply_cases (s : List UInt8) (l : List Stp) : (∃ e : Int, e ≠ 0 ∧ applyV s l = .tuple #[str [], .int .i64 e]) ∨ (∃ t tt, sizesOf l = some ((s.length : Int), tt) ∧ applyA s (atomsOf l) = some t ∧ applyV s l = okV t) := by
  unfold applyV
  cases hs : sizesOf l with
  | none => exact .inl ⟨2, by decide, rfl⟩
  | some ft =>
    obtain ⟨f, tt⟩ := ft
    simp only
    by_cases hf : f = s.length
    · subst hf
      simp only [ne_eq, not_true, if_false]
      cases ha : applyA s (atomsOf l) with
      | none => exact .inl ⟨270, by decide, rfl⟩
      | some t => exact .inr ⟨t, tt, rfl, rfl, rfl⟩
    · simp only [ne_eq, hf, not_false_eq_true, if_true]
      exact .inl ⟨5, by decide, rfl⟩
theorem apply_listV {L : List Atm} {s t : List UInt8} (h1 : fromA L = s.length) (h2 : applyA s L = some t) (h3 : fromA L ≤ 65536) (h4 : toA L ≤ 65536) : applyV s (listOf L) = okV t := by
  unfold applyV
  rw [sizes_list L h3 h4]
  simp only
  rw [if_neg (by omega), apply_list, h2]; rfl
end Go.Eng

/-
  The walk of the law EditConverges. No condition.
-/
namespace Go.Eng
open Go
end Go.Eng
namespace Go.Proofs.Ytelgegefmjlimaa
open Go Go.Eng
set_option maxRecDepth 100000
set_option maxHeartbeats 4000000
set_option linter.all false
attribute [local irreducible] WL WC WQ QFun QLoop Does Q1 QRound QAssign Go.Addr.add
attribute [local irreducible] sizesOf carP comP applyV listOf
end Go.Proofs.Ytelgegefmjlimaa

/-
  The walks of the law's back and of the program's Invert. No condition.
-/
namespace Go.Eng
open Go
def invP (l : List Stp) : Int ⊕ List Stp := match sizesOf l with
  | none => .inl 2
  | some _ => .inr (listOf ((atomsOf l).map Atm.inv))
end Go.Eng
namespace Go.Proofs.Ytelgegefmjlimaa
open Go Go.Eng
set_option maxRecDepth 100000
set_option maxHeartbeats 4000000
set_option linter.all false
attribute [local irreducible] WL WC WQ QFun QLoop Does Q1 QRound QAssign Go.Addr.add
attribute [local irreducible] sizesF sizesOf
theorem back_any {a : Option Addr} {cap : Nat} {l : List Stp} (hlen : l.length ≤ 1000000000) (w0 : World) (m : Mem) (H : SHeap) :
    Does Try.prog 59 #[.slice a l.length cap] w0 m (.row a cap 84 3 (l.map Stp.cs) :: H) (fun v m' H' => m' = m ∧ ∃ c cp, v = .slice c l.length cp ∧ H' = .row c cp 59 3 (l.map Stp.cs) :: H) := by
  refine Does.of_body (args := [.slice a l.length cap]) Try.func59 rfl Try.ntmps59 rfl ?_
  have hln : (l.map Stp.cs).length = l.length := by simp
  (try (refine st ?_; intros))
  refine WC.newRow (T := 59) (sz := 3) ?_
  refine WC.loopH [(4, .int .i64 ((0) : Int)), (3, .slice (none) (0) (0)), (0, .slice a l.length cap)] ?_ ?_ (fun j r ds m' H' => ∃ i c cp k, j = l.length - i ∧ r = [(4, .int .i64 (i : Int)), (3, .slice c k cp), (0, .slice a l.length cap)] ∧ ds = [] ∧ m = m' ∧ H' = .row c cp 59 3 ((l.map Stp.cs).take i) :: .row a cap 84 3 (l.map Stp.cs) :: H ∧ (i ≤ l.length) ∧ (k = i)) (l.length - (0)) ⟨0, none, 0, 0, rfl, rfl, rfl, rfl, rfl, by omega, rfl⟩ ?_
  · (repeat (first | exact Env.Sub.nil | refine Env.Sub.cons rfl ?_))
  · exact zpk
  rintro j r ds m' H' ⟨i, c, cp, k, rfl, rfl, rfl, rfl, rfl, hi2, hk⟩
  subst hk
  by_cases hlt : k < l.length
  · obtain ⟨x, hx, hget, htk, hmem, hdr⟩ := at_idx (f := Stp.cs) hlt
    have htl : ((l.map Stp.cs).take k).length = k := by simp; omega
    have e : (l.map Stp.cs).take k ++ [x.cs] = (l.map Stp.cs).take (k + 1) := by rw [List.take_add_one, hget]; rfl
    refine WC.rowSome (a := a) (es := l.map Stp.cs) zhs (by omega) ?_
    rintro a0 rfl
    (try (refine st ?_; intros))
    refine WC.drawE 20 ([.row (some a0) cap 84 3 (l.map Stp.cs)]) (.row c cp 59 3 ((l.map Stp.cs).take k) :: H) rfl (by decide +kernel) zpk ?_
    (refine cm0 ?_)
    refine WE.act1 17 (by decide +kernel) rfl rfl (fun c h => by cases h) ?_
    (refine st ?_; intros; rename_i q0)
    refine WQ.acted (B := []) (U := .blk q0 (.cells [.int .i64 x.k, str x.d, str x.p].toArray 59 (0, 0)) :: .row c cp 59 3 ((l.map Stp.cs).take k) :: H) rfl (Mem.le.refl _) zpk ?_
    refine WE.act1 18 (by decide +kernel) rfl rfl (fun c h => by cases h) ?_
    (refine st ?_; intros; rename_i c2 cp2)
    refine WQ.acted (B := []) (U := .row c2 cp2 59 3 ((l.map Stp.cs).take k ++ [[.int .i64 x.k, str x.d, str x.p]]) :: H) rfl (Mem.le.refl _) zpk ?_
    (refine cm0 ?_)
    refine WE.done (by decide +kernel) ?_
    (try (refine st ?_; intros))
    rw [htl]
    refine WQ.next (l.length - (k + 1)) ⟨k + 1, c2, cp2, k + 1, rfl, rfl, rfl, rfl, rfl, ?_, ?_⟩ (by omega) zsb ?_
    · omega
    · rfl
    · rw [← e]; exact zpk
  · obtain rfl : k = l.length := by omega
    (try (refine st ?_; intros))
    have e : (l.map Stp.cs).take l.length = l.map Stp.cs := by rw [← hln]; exact List.take_length
    rw [e]
    exact q_fin0 (H0 := .row c cp 59 3 (l.map Stp.cs) :: H) ⟨rfl, c, cp, rfl, rfl⟩ (hd := zpk)
theorem sq_E25_1 {G : Prop} (h : G := by (repeat (first | (refine sp ?_; (repeat intro zzc)) | (refine iF 40 rfl ?_; refine w_callG Try.func40 ?_ (hs := sizes_any (by assumption) _ _ _ (by assumption))))); exact WQ.q1 rfl) : G := h
theorem st_E25_1 {G G' : Prop} (next : G') (h : Bx G' → G := by intro zzn; (first | ((refine st ?_; (repeat intro zzc)); (try ((first | (refine iF 40 rfl ?_; refine w_callG Try.func40 ?_ (hs := sizes_any (by assumption) _ _ _ (by assumption))) | ((refine iDraw ?_; (first | refine WC.drawAll rfl (by decide +kernel) ?_ | refine WC.draw 1 rfl (by decide +kernel) ?_ | refine WC.draw 2 rfl (by decide +kernel) ?_ | refine WC.draw 3 rfl (by decide +kernel) ?_ | refine WC.draw 4 rfl (by decide +kernel) ?_ | refine WC.draw 5 rfl (by decide +kernel) ?_ | refine WC.draw 6 rfl (by decide +kernel) ?_ | refine WC.draw 7 rfl (by decide +kernel) ?_ | refine WC.draw 8 rfl (by decide +kernel) ?_ | refine WC.draw 9 rfl (by decide +kernel) ?_ | refine WC.draw 10 rfl (by decide +kernel) ?_ | refine WC.draw 11 rfl (by decide +kernel) ?_ | refine WC.draw 12 rfl (by decide +kernel) ?_ | refine WC.draw 13 rfl (by decide +kernel) ?_ | refine WC.draw 14 rfl (by decide +kernel) ?_ | refine WC.draw 15 rfl (by decide +kernel) ?_ | refine WC.draw 16 rfl (by decide +kernel) ?_ | refine WC.draw 17 rfl (by decide +kernel) ?_ | refine WC.draw 18 rfl (by decide +kernel) ?_ | refine WC.draw 19 rfl (by decide +kernel) ?_ | refine WC.draw 20 rfl (by decide +kernel) ?_ | refine WC.draw 21 rfl (by decide +kernel) ?_ | refine WC.draw 22 rfl (by decide +kernel) ?_ | refine WC.draw 23 rfl (by decide +kernel) ?_ | refine WC.draw 24 rfl (by decide +kernel) ?_)); (repeat (refine WD.cons rfl (fun c h => by cases h) sq_E25_1 ?_)); refine WD.nil ?_)); (try (refine st ?_; (repeat intro zzc)))))) | ((first | (refine iF 40 rfl ?_; refine w_callG Try.func40 ?_ (hs := sizes_any (by assumption) _ _ _ (by assumption))) | ((refine iDraw ?_; (first | refine WC.drawAll rfl (by decide +kernel) ?_ | refine WC.draw 1 rfl (by decide +kernel) ?_ | refine WC.draw 2 rfl (by decide +kernel) ?_ | refine WC.draw 3 rfl (by decide +kernel) ?_ | refine WC.draw 4 rfl (by decide +kernel) ?_ | refine WC.draw 5 rfl (by decide +kernel) ?_ | refine WC.draw 6 rfl (by decide +kernel) ?_ | refine WC.draw 7 rfl (by decide +kernel) ?_ | refine WC.draw 8 rfl (by decide +kernel) ?_ | refine WC.draw 9 rfl (by decide +kernel) ?_ | refine WC.draw 10 rfl (by decide +kernel) ?_ | refine WC.draw 11 rfl (by decide +kernel) ?_ | refine WC.draw 12 rfl (by decide +kernel) ?_ | refine WC.draw 13 rfl (by decide +kernel) ?_ | refine WC.draw 14 rfl (by decide +kernel) ?_ | refine WC.draw 15 rfl (by decide +kernel) ?_ | refine WC.draw 16 rfl (by decide +kernel) ?_ | refine WC.draw 17 rfl (by decide +kernel) ?_ | refine WC.draw 18 rfl (by decide +kernel) ?_ | refine WC.draw 19 rfl (by decide +kernel) ?_ | refine WC.draw 20 rfl (by decide +kernel) ?_ | refine WC.draw 21 rfl (by decide +kernel) ?_ | refine WC.draw 22 rfl (by decide +kernel) ?_ | refine WC.draw 23 rfl (by decide +kernel) ?_ | refine WC.draw 24 rfl (by decide +kernel) ?_)); (repeat (refine WD.cons rfl (fun c h => by cases h) sq_E25_1 ?_)); refine WD.nil ?_)); (try (refine st ?_; (repeat intro zzc))))); (repeat ((first | (refine iF 40 rfl ?_; refine w_callG Try.func40 ?_ (hs := sizes_any (by assumption) _ _ _ (by assumption))) | ((refine iDraw ?_; (first | refine WC.drawAll rfl (by decide +kernel) ?_ | refine WC.draw 1 rfl (by decide +kernel) ?_ | refine WC.draw 2 rfl (by decide +kernel) ?_ | refine WC.draw 3 rfl (by decide +kernel) ?_ | refine WC.draw 4 rfl (by decide +kernel) ?_ | refine WC.draw 5 rfl (by decide +kernel) ?_ | refine WC.draw 6 rfl (by decide +kernel) ?_ | refine WC.draw 7 rfl (by decide +kernel) ?_ | refine WC.draw 8 rfl (by decide +kernel) ?_ | refine WC.draw 9 rfl (by decide +kernel) ?_ | refine WC.draw 10 rfl (by decide +kernel) ?_ | refine WC.draw 11 rfl (by decide +kernel) ?_ | refine WC.draw 12 rfl (by decide +kernel) ?_ | refine WC.draw 13 rfl (by decide +kernel) ?_ | refine WC.draw 14 rfl (by decide +kernel) ?_ | refine WC.draw 15 rfl (by decide +kernel) ?_ | refine WC.draw 16 rfl (by decide +kernel) ?_ | refine WC.draw 17 rfl (by decide +kernel) ?_ | refine WC.draw 18 rfl (by decide +kernel) ?_ | refine WC.draw 19 rfl (by decide +kernel) ?_ | refine WC.draw 20 rfl (by decide +kernel) ?_ | refine WC.draw 21 rfl (by decide +kernel) ?_ | refine WC.draw 22 rfl (by decide +kernel) ?_ | refine WC.draw 23 rfl (by decide +kernel) ?_ | refine WC.draw 24 rfl (by decide +kernel) ?_)); (repeat (refine WD.cons rfl (fun c h => by cases h) sq_E25_1 ?_)); refine WD.nil ?_)); (try (refine st ?_; (repeat intro zzc))))); (repeat revert zzc); exact zzn.out) : G := h ⟨next⟩
theorem eInvert_any {a : Option Addr} {cap : Nat} {l : List Stp} (hf : Fit l) (w0 : World) (m : Mem) (H : SHeap) (hr : RowR w0 m H 3 a (l.map Stp.cs)) :
    Does Try.prog 61 #[.slice a l.length cap] w0 m H (ListP 59 (invP l) .i64 m H) := by
  refine Does.of_body (args := [.slice a l.length cap]) Try.func61 rfl Try.ntmps61 rfl ?_
  have hln : (l.map Stp.cs).length = l.length := by simp
  cases hs : sizesOf l with
  | none =>
    have e : invP l = .inl 2 := by simp only [invP, hs]
    have e2 : szP (sizesOf l) = .tuple #[.int .i64 0, .int .i64 0, .int .i64 2] := by rw [hs]; rfl
    rw [e]
    (try (refine st_E25_1 ?_; intros))
    rw [e2]
    (try (refine st_E25_1 ?_; intros))
    exact q_fin0 (H0 := H) ⟨rfl, rfl, rfl⟩ (hd := zpk)
  | some ft =>
    obtain ⟨f, t⟩ := ft
    have e : invP l = .inr (listOf ((atomsOf l).map Atm.inv)) := by simp only [invP, hs]
    have e2 : szP (sizesOf l) = .tuple #[.int .i64 f, .int .i64 t, .int .i64 0] := by rw [hs]; rfl
    obtain ⟨hok, hal, hpl, hfr, _, g1, g2, _, _⟩ := sized hs
    have hlen := steps_le l hok
    rw [e]
    have hlist : listOf ((atomsOf l).map Atm.inv) = (Bld.start.run ((atomsOf l).map Atm.inv)).close.l := rfl
    generalize listOf ((atomsOf l).map Atm.inv) = R at *
    (try (refine st_E25_1 ?_; intros))
    rw [e2]
    (refine st_E25_1 ?_; intros; rename_i b)
    refine WC.newRow (T := 59) (sz := 3) ?_
    refine WC.loopH [(21, .int .i64 ((0) : Int)), (20, .int .i64 (l.length : Int)), (19, .slice a l.length cap), (7, .pointer (some ⟨b, 0, none⟩))] ?_ ?_ (fun j r ds m' H' => ∃ (i : Nat) (c : Option Addr) (cp : Nat) (B : Bld), j = l.length - i ∧ r = [(21, .int .i64 (i : Int)), (20, .int .i64 (l.length : Int)), (19, .slice a l.length cap), (7, .pointer (some ⟨b, 0, none⟩))] ∧ ds = [] ∧ m = m' ∧ H' = .blk b (.cells [.slice c B.l.length cp, str B.p, str B.d].toArray 98 (0, 0)) :: .row c cp 59 3 (B.l.map Stp.cs) :: H ∧ (i ≤ l.length) ∧ (B = Bld.start.run ((atomsOf (l.take i)).map Atm.inv))) (l.length - (0)) ⟨0, none, 0, Bld.start, rfl, rfl, rfl, rfl, rfl, by omega, by simp [atomsOf, Bld.run]⟩ ?_
    · (repeat (first | exact Env.Sub.nil | refine Env.Sub.cons rfl ?_))
    · exact zpk
    rintro j r ds m' H' ⟨i, c, cp, B, rfl, rfl, rfl, rfl, rfl, hi, hB⟩
    have htl : (atomsOf (l.take i)).length ≤ (atomsOf l).length := by
      have e : atomsOf l = atomsOf (l.take i) ++ atomsOf (l.drop i) := by rw [← atoms_append, List.take_append_drop]
      rw [e]; simp
    have hfit : BFit 10000000000 B := by rw [hB]; exact (BFit.runs _).mono (by rw [List.length_map]; omega)
    by_cases hlt : i < l.length
    · obtain ⟨x, hx, hget, htk, hmem, hdr⟩ := at_idx (f := Stp.cs) hlt
      have hr1 := (hr.more (i := .row c cp 59 3 (B.l.map Stp.cs))).more (i := .blk b (.cells [.slice c B.l.length cp, str B.p, str B.d].toArray 98 (0, 0)))
      have hxl := mem_atoms hmem
      have hxb := stp_bounds (hok x hmem)
      refine WC.rSome hr1 (by omega) ?_
      rintro a0 rfl
      (refine st_E25_1 ?_; intros; rename_i bx)
      refine WL.heap (H' := .blk b (.cells [.slice c B.l.length cp, str B.p, str B.d].toArray 98 (0, 0)) :: .row c cp 59 3 (B.l.map Stp.cs) :: H) zpk ?_
      refine w_callF Try.func45 ?_ (hs := step_any B x.inv (by simp only [Stp.inv]; omega) (by simp only [Stp.inv]; omega) (by simp only [Stp.inv]; omega) (hfit.mono (by omega)) _ _ _)
      rintro v m H1 ⟨rfl, rfl, c1, cp1, rfl⟩
      (try (refine st_E25_1 ?_; intros))
      refine WQ.next (l.length - (i + 1)) ⟨i + 1, c1, cp1, B.step x.inv, rfl, rfl, rfl, rfl, rfl, ?_, ?_⟩ (by omega) zsb zpk
      · omega
      · rw [htk, atoms_append, List.map_append, run_append, ← hB, atoms_one, ← inv_atoms (hok x hmem), run_step _ _ (inv_ok (hok x hmem))]
    · obtain rfl : i = l.length := by omega
      have hlen2 := hfit.len
      rw [List.take_length] at hB
      rw [hlist, ← hB]
      (try (refine st_E25_1 ?_; intros))
      refine w_callF Try.func48 ?_ (hs := done_any B (by omega) _ _ _)
      rintro v m H1 ⟨rfl, c1, cp1, rfl, rfl⟩
      (try (refine st_E25_1 ?_; intros))
      exact q_fin0 (H0 := .row c1 cp1 59 3 (B.close.l.map Stp.cs) :: H) ⟨rfl, c1, cp1, rfl, rfl⟩ (hd := zpk)
end Go.Proofs.Ytelgegefmjlimaa

/-
  The walk of the law's comparison of changes. No condition.
-/
namespace Go.Proofs.Ytelgegefmjlimaa
open Go Go.Eng
set_option maxRecDepth 100000
set_option maxHeartbeats 4000000
set_option linter.all false
attribute [local irreducible] WL WC WQ QFun QLoop Does Q1 QRound QAssign Go.Addr.add
theorem same_any {pa pb : Option Addr} {ca cb : Nat} {l : List Stp} (hl : l.length ≤ 1000000000) (w0 : World) (m : Mem) (H : SHeap) (hra : RowR w0 m H 3 pa (l.map Stp.cs)) (hrb : RowR w0 m H 3 pb (l.map Stp.cs)) :
    Does Try.prog 19 #[.slice pa l.length ca, .slice pb l.length cb] w0 m H (Gives (.bool true) m H) := by
  refine Does.of_body (args := [.slice pa l.length ca, .slice pb l.length cb]) Try.func19 rfl Try.ntmps19 rfl ?_
  have hln : (l.map Stp.cs).length = l.length := by simp
  (try (refine st ?_; intros))
  refine WC.loopH [(5, .int .i64 ((0) : Int)), (0, .slice pa l.length ca), (1, .slice pb l.length cb)] ?_ ?_ (fun j r ds m' H' => ∃ i, j = l.length - i ∧ r = [(5, .int .i64 (i : Int)), (0, .slice pa l.length ca), (1, .slice pb l.length cb)] ∧ ds = [] ∧ m = m' ∧ H' = H ∧ (i ≤ l.length) ∧ (RowR w0 m H 3 pa (l.map Stp.cs)) ∧ (RowR w0 m H 3 pb (l.map Stp.cs))) (l.length - (0)) ⟨0, rfl, rfl, rfl, rfl, rfl, by omega, hra, hrb⟩ ?_
  · (repeat (first | exact Env.Sub.nil | refine Env.Sub.cons rfl ?_))
  · exact zpk
  rintro j r ds m' H' ⟨i, rfl, rfl, rfl, rfl, rfl, hi, hra, hrb⟩
  generalize H' = H at *
  by_cases hlt : i < l.length
  · obtain ⟨x, hx, hget, htk, hmem, hdr⟩ := at_idx (f := Stp.cs) hlt
    refine WC.rSome hra (by omega) ?_
    rintro a0 rfl
    refine WC.rSome hrb (by omega) ?_
    rintro b0 rfl
    have h1 : x.d = x.d := rfl
    have h2 : x.p = x.p := rfl
    (try (refine st ?_; intros))
    refine WQ.next (l.length - (i + 1)) ⟨i + 1, rfl, rfl, rfl, rfl, rfl, ?_, ?_, ?_⟩ (by omega) zsb zpk
    · omega
    · assumption
    · assumption
  · obtain rfl : i = l.length := by omega
    (try (refine st ?_; intros))
    exact q_fin0 (H0 := H) (Gives.mk rfl) (hd := zpk)
end Go.Proofs.Ytelgegefmjlimaa

/-
  How long what Compose makes is. No condition.
-/
namespace Go.Eng
open Go
end Go.Eng

/-
  The walk of the law's spoiling of an answer. No condition.
-/
namespace Go.Eng
open Go Go.RowKit
section
variable {P : Program} {ro : Option Nat} {n : Nat} {w0 : World} {Q : Exit → Act → World → Prop} {r : Env} {ds : List Nat} {m : Mem} {H : SHeap}
end
end Go.Eng
namespace Go.Proofs.Ytelgegefmjlimaa
open Go Go.Eng
set_option maxRecDepth 100000
set_option maxHeartbeats 4000000
set_option linter.all false
attribute [local irreducible] WL WC WQ QFun QLoop Does Q1 QRound QAssign Go.Addr.add
end Go.Proofs.Ytelgegefmjlimaa

/-
  The walks of the law's applies and inverts. No condition.
-/
namespace Go.Eng
open Go
theorem fit_plain {l : List Stp} {f t : Int} (hs : sizesOf l = some (f, t)) : Fit (plainOf l) := by
  obtain ⟨hok, _, _, h1, h2, _, h4, _, h6⟩ := sized hs
  obtain ⟨n1, n2⟩ := nf_sizes l hok
  rw [plain_list]
  exact fit_list (by omega) (by omega)
theorem applyV_plain {l : List Stp} {f t : Int} (hs : sizesOf l = some (f, t)) (s : List UInt8) : applyV s (plainOf l) = applyV s l := by
  unfold applyV
  rw [plain_sizes hs, hs, plain_apply l (sized hs).1]
theorem applyV_some (s : List UInt8) (l : List Stp) : ∃ (o : List UInt8) (e : Int), applyV s l = .tuple #[str o, .int .i64 e] := by
  rcases apply_cases s l with ⟨e, _, h⟩ | ⟨t, _, _, _, h⟩
  · exact ⟨[], e, h⟩
  · exact ⟨t, 0, h⟩
theorem plain_said (l : List Stp) : listOf (sdA ((putsOf (gapsOf l)).zip ((dropsOf (gapsOf l)).zip (bytesOf (gapsOf l)))) ((putsOf (gapsOf l)).getD (dropsOf (gapsOf l)).length [])) = plainOf l := by
  rw [plain_list, ← sd_atoms]; rfl
theorem said_small {l : List Stp} {f t : Int} (hs : sizesOf l = some (f, t)) : (sdA ((putsOf (gapsOf l)).zip ((dropsOf (gapsOf l)).zip (bytesOf (gapsOf l)))) ((putsOf (gapsOf l)).getD (dropsOf (gapsOf l)).length [])).length ≤ 200000 := by
  have h : (sdA (posOf (gapsOf l)) (lastOf (gapsOf l))).length ≤ 200000 := by rw [sd_atoms]; have := (nf_len hs).1; omega
  exact h
theorem inv_fit {l : List Stp} {f t : Int} (hs : sizesOf l = some (f, t)) : Fit (listOf ((atomsOf l).map Atm.inv)) ∧ sizesOf (listOf ((atomsOf l).map Atm.inv)) = some (t, f) := by
  obtain ⟨hok, _, _, h1, h2, _, h4, _, h6⟩ := sized hs
  obtain ⟨n1, n2⟩ := inv_from (atomsOf l)
  refine ⟨fit_list (by omega) (by omega), ?_⟩
  rw [sizes_list _ (by omega) (by omega), n1, n2, h1, h2]
theorem inv_back {l : List Stp} {s t : List UInt8} {tt : Int} (hs : sizesOf l = some ((s.length : Int), tt)) (ha : applyA s (atomsOf l) = some t) : applyV t (listOf ((atomsOf l).map Atm.inv)) = okV s := by
  obtain ⟨hok, _, _, h1, h2, _, h4, _, h6⟩ := sized hs
  obtain ⟨n1, n2⟩ := inv_from (atomsOf l)
  have hl := apply_len _ _ _ ha
  exact apply_listV (by omega) (inv_apply _ _ _ ha (by omega)) (by omega) (by omega)
end Go.Eng
namespace Go.Proofs.Ytelgegefmjlimaa
open Go Go.Eng
set_option maxRecDepth 100000
set_option maxHeartbeats 4000000
set_option linter.all false
attribute [local irreducible] WL WC WQ QFun QLoop Does Q1 QRound QAssign Go.Addr.add
theorem sq_E26_1 {G : Prop} (h : G := by (repeat (first | (refine sp ?_; (repeat intro zzc)) | (refine iF 12 rfl ?_; refine w_callG Try.func12 ?_ (hs := live_any _ _ _)))); exact WQ.q1 rfl) : G := h
theorem st_E26_1 {G G' : Prop} (next : G') (h : Bx G' → G := by intro zzn; (first | ((refine st ?_; (repeat intro zzc)); (try ((first | (refine iF 12 rfl ?_; refine w_callG Try.func12 ?_ (hs := live_any _ _ _)) | ((refine iDraw ?_; (first | refine WC.drawAll rfl (by decide +kernel) ?_ | refine WC.draw 1 rfl (by decide +kernel) ?_ | refine WC.draw 2 rfl (by decide +kernel) ?_ | refine WC.draw 3 rfl (by decide +kernel) ?_ | refine WC.draw 4 rfl (by decide +kernel) ?_ | refine WC.draw 5 rfl (by decide +kernel) ?_ | refine WC.draw 6 rfl (by decide +kernel) ?_ | refine WC.draw 7 rfl (by decide +kernel) ?_ | refine WC.draw 8 rfl (by decide +kernel) ?_ | refine WC.draw 9 rfl (by decide +kernel) ?_ | refine WC.draw 10 rfl (by decide +kernel) ?_ | refine WC.draw 11 rfl (by decide +kernel) ?_ | refine WC.draw 12 rfl (by decide +kernel) ?_ | refine WC.draw 13 rfl (by decide +kernel) ?_ | refine WC.draw 14 rfl (by decide +kernel) ?_ | refine WC.draw 15 rfl (by decide +kernel) ?_ | refine WC.draw 16 rfl (by decide +kernel) ?_ | refine WC.draw 17 rfl (by decide +kernel) ?_ | refine WC.draw 18 rfl (by decide +kernel) ?_ | refine WC.draw 19 rfl (by decide +kernel) ?_ | refine WC.draw 20 rfl (by decide +kernel) ?_ | refine WC.draw 21 rfl (by decide +kernel) ?_ | refine WC.draw 22 rfl (by decide +kernel) ?_ | refine WC.draw 23 rfl (by decide +kernel) ?_ | refine WC.draw 24 rfl (by decide +kernel) ?_)); (repeat (refine WD.cons rfl (fun c h => by cases h) sq_E26_1 ?_)); refine WD.nil ?_)); (try (refine st ?_; (repeat intro zzc)))))) | ((first | (refine iF 12 rfl ?_; refine w_callG Try.func12 ?_ (hs := live_any _ _ _)) | ((refine iDraw ?_; (first | refine WC.drawAll rfl (by decide +kernel) ?_ | refine WC.draw 1 rfl (by decide +kernel) ?_ | refine WC.draw 2 rfl (by decide +kernel) ?_ | refine WC.draw 3 rfl (by decide +kernel) ?_ | refine WC.draw 4 rfl (by decide +kernel) ?_ | refine WC.draw 5 rfl (by decide +kernel) ?_ | refine WC.draw 6 rfl (by decide +kernel) ?_ | refine WC.draw 7 rfl (by decide +kernel) ?_ | refine WC.draw 8 rfl (by decide +kernel) ?_ | refine WC.draw 9 rfl (by decide +kernel) ?_ | refine WC.draw 10 rfl (by decide +kernel) ?_ | refine WC.draw 11 rfl (by decide +kernel) ?_ | refine WC.draw 12 rfl (by decide +kernel) ?_ | refine WC.draw 13 rfl (by decide +kernel) ?_ | refine WC.draw 14 rfl (by decide +kernel) ?_ | refine WC.draw 15 rfl (by decide +kernel) ?_ | refine WC.draw 16 rfl (by decide +kernel) ?_ | refine WC.draw 17 rfl (by decide +kernel) ?_ | refine WC.draw 18 rfl (by decide +kernel) ?_ | refine WC.draw 19 rfl (by decide +kernel) ?_ | refine WC.draw 20 rfl (by decide +kernel) ?_ | refine WC.draw 21 rfl (by decide +kernel) ?_ | refine WC.draw 22 rfl (by decide +kernel) ?_ | refine WC.draw 23 rfl (by decide +kernel) ?_ | refine WC.draw 24 rfl (by decide +kernel) ?_)); (repeat (refine WD.cons rfl (fun c h => by cases h) sq_E26_1 ?_)); refine WD.nil ?_)); (try (refine st ?_; (repeat intro zzc))))); (repeat ((first | (refine iF 12 rfl ?_; refine w_callG Try.func12 ?_ (hs := live_any _ _ _)) | ((refine iDraw ?_; (first | refine WC.drawAll rfl (by decide +kernel) ?_ | refine WC.draw 1 rfl (by decide +kernel) ?_ | refine WC.draw 2 rfl (by decide +kernel) ?_ | refine WC.draw 3 rfl (by decide +kernel) ?_ | refine WC.draw 4 rfl (by decide +kernel) ?_ | refine WC.draw 5 rfl (by decide +kernel) ?_ | refine WC.draw 6 rfl (by decide +kernel) ?_ | refine WC.draw 7 rfl (by decide +kernel) ?_ | refine WC.draw 8 rfl (by decide +kernel) ?_ | refine WC.draw 9 rfl (by decide +kernel) ?_ | refine WC.draw 10 rfl (by decide +kernel) ?_ | refine WC.draw 11 rfl (by decide +kernel) ?_ | refine WC.draw 12 rfl (by decide +kernel) ?_ | refine WC.draw 13 rfl (by decide +kernel) ?_ | refine WC.draw 14 rfl (by decide +kernel) ?_ | refine WC.draw 15 rfl (by decide +kernel) ?_ | refine WC.draw 16 rfl (by decide +kernel) ?_ | refine WC.draw 17 rfl (by decide +kernel) ?_ | refine WC.draw 18 rfl (by decide +kernel) ?_ | refine WC.draw 19 rfl (by decide +kernel) ?_ | refine WC.draw 20 rfl (by decide +kernel) ?_ | refine WC.draw 21 rfl (by decide +kernel) ?_ | refine WC.draw 22 rfl (by decide +kernel) ?_ | refine WC.draw 23 rfl (by decide +kernel) ?_ | refine WC.draw 24 rfl (by decide +kernel) ?_)); (repeat (refine WD.cons rfl (fun c h => by cases h) sq_E26_1 ?_)); refine WD.nil ?_)); (try (refine st ?_; (repeat intro zzc))))); (repeat revert zzc); exact zzn.out) : G := h ⟨next⟩
attribute [local irreducible] sizesOf applyV listOf plainOf putsOf dropsOf bytesOf gapsOf
theorem applies_any {pa : Option Addr} {ca : Nat} {a : List Stp} {s : List UInt8} (hsl : s.length ≤ 1048576) (hfa : Fit a) (w0 : World) (m : Mem) (H : SHeap) (hra : ∀ Hp, RowR w0 m Hp 3 pa (a.map Stp.cs)) :
    Does Try.prog 24 #[str s, .slice pa a.length ca] w0 m H (Gives (.bool true) m H) := by
  refine Does.of_body (args := [str s, .slice pa a.length ca]) Try.func24 rfl Try.ntmps24 rfl ?_
  have hla := hfa.len
  (try (refine st_E26_1 ?_; intros))
  refine w_callF Try.func13 ?_ (hs := ref_any hfa _ _ _ hra)
  rintro v m H2 ⟨rfl, (⟨hsm, c1, p1, rfl, rfl⟩ | ⟨hsm, rfl, rfl⟩)⟩
  · by_cases hsl2 : s.length ≤ 40000
    · (try (refine st_E26_1 ?_; intros))
      refine w_callF Try.func14 ?_ (hs := refSizes_any hfa _ _ _ (RowR.row (a := c1) zhs))
      rintro v m H1 ⟨rfl, rfl, rfl⟩
      cases hsa : sizesOf a with
      | none =>
        have e : applyV s a = .tuple #[str [], .int .i64 2] := by unfold applyV; rw [hsa]
        rw [show szR none = .tuple #[.int .i64 0, .int .i64 0, .bool false] from rfl]
        (try (refine st_E26_1 ?_; intros))
        refine w_callF Try.func22 ?_ (hs := apply_any hfa (by omega) _ _ _ (hra _))
        rintro v m H1 ⟨rfl, rfl, rfl⟩
        rw [e]
        (try (refine st_E26_1 ?_; intros))
        exact q_fin0 (H0 := H) (Gives.mk rfl) (hd := zpk)
      | some ft =>
        obtain ⟨fa, ta⟩ := ft
        rw [show szR (some (fa, ta)) = .tuple #[.int .i64 fa, .int .i64 ta, .bool true] from rfl]
        (try (refine st_E26_1 ?_; intros))
        refine w_callF Try.func22 ?_ (hs := apply_any hfa (by omega) _ _ _ (hra _))
        rintro v m H1 ⟨rfl, rfl, rfl⟩
        obtain ⟨o, e, he⟩ := applyV_some s a
        have ho : o = o := rfl
        have hee : e = e := rfl
        rw [he]
        (try (refine st_E26_1 ?_; intros))
        refine w_callF Try.func58 ?_ (hs := rApply_any hfa hsa (by omega) _ _ _ (RowR.row (a := c1) zhs))
        rintro v m H1 ⟨rfl, rfl, rfl⟩
        rw [he]
        (try (refine st_E26_1 ?_; intros))
        refine w_callF Try.func43 ?_ (hs := say_any hfa hsa _ _ _ (RowR.row (a := c1) zhs))
        rintro _ m _ ⟨rfl, q2, q4, q6, rfl, rfl⟩
        (try (refine st_E26_1 ?_; intros))
        obtain ⟨la1, la2⟩ := said_len (gapsOf a)
        refine w_callF Try.func60 ?_ (hs := rPlain_any la1 la2 (said_small hsa) _ _ _)
        rintro v m H1 ⟨rfl, c2, p2, rfl, rfl⟩
        rw [plain_said]
        have hfp := fit_plain hsa
        have hlp := hfp.len
        (try (refine st_E26_1 ?_; intros))
        refine w_callF Try.func59 ?_ (hs := back_any (l := plainOf a) (by omega) _ _ _)
        rintro v m H1 ⟨rfl, c3, p3, rfl, rfl⟩
        (try (refine st_E26_1 ?_; intros))
        refine w_callF Try.func22 ?_ (hs := apply_any hfp (by omega) _ _ _ (RowR.row (a := c3) zhs))
        rintro v m H1 ⟨rfl, rfl, rfl⟩
        rw [applyV_plain hsa, he]
        (try (refine st_E26_1 ?_; intros))
        exact q_fin0 (H0 := H) (Gives.mk (show Value.bool (dcd (e = e)) = Value.bool true from congrArg Value.bool (dcd_true rfl))) (hd := zpk)
    · (try (refine st_E26_1 ?_; intros))
      exact q_fin0 (H0 := H) (Gives.mk rfl) (hd := zpk)
  · (try (refine st_E26_1 ?_; intros))
    exact q_fin0 (H0 := H2) (Gives.mk rfl) (hd := zpk)
theorem inverts_any {pa : Option Addr} {ca : Nat} {a : List Stp} {s : List UInt8} (hsl : s.length ≤ 1048576) (hfa : Fit a) (w0 : World) (m : Mem) (H : SHeap) (hra : ∀ Hp, RowR w0 m Hp 3 pa (a.map Stp.cs)) :
    Does Try.prog 25 #[str s, .slice pa a.length ca] w0 m H (Gives (.bool true) m H) := by
  refine Does.of_body (args := [str s, .slice pa a.length ca]) Try.func25 rfl Try.ntmps25 rfl ?_
  have hla := hfa.len
  (try (refine st_E26_1 ?_; intros))
  refine w_callF Try.func13 ?_ (hs := ref_any hfa _ _ _ hra)
  rintro v m H2 ⟨rfl, (⟨hsm, c1, p1, rfl, rfl⟩ | ⟨hsm, rfl, rfl⟩)⟩
  · by_cases hsl2 : s.length ≤ 40000
    · (try (refine st_E26_1 ?_; intros))
      refine w_callF Try.func14 ?_ (hs := refSizes_any hfa _ _ _ (RowR.row (a := c1) zhs))
      rintro v m H1 ⟨rfl, rfl, rfl⟩
      cases hsa : sizesOf a with
      | none =>
        have e : invP a = .inl 2 := by unfold invP; rw [hsa]
        rw [show szR none = .tuple #[.int .i64 0, .int .i64 0, .bool false] from rfl]
        (try (refine st_E26_1 ?_; intros))
        refine w_callF Try.func61 ?_ (hs := eInvert_any hfa _ _ _ (hra _))
        rintro v m H1 ⟨rfl, hv⟩
        rw [e] at hv
        obtain ⟨rfl, rfl⟩ := hv
        (try (refine st_E26_1 ?_; intros))
        exact q_fin0 (H0 := H) (Gives.mk rfl) (hd := zpk)
      | some ft =>
        obtain ⟨fa, ta⟩ := ft
        have hok := (sized hsa).1
        obtain ⟨hfr, hsr⟩ := inv_fit hsa
        have e1 : invP a = .inr (listOf ((atomsOf a).map Atm.inv)) := by unfold invP; rw [hsa]
        have e2 : invP (listOf ((atomsOf a).map Atm.inv)) = .inr (plainOf a) := by unfold invP; rw [hsr]; simp only; rw [inv_twice a hok]
        have e3 := inv_nf a hok
        have hback := fun t tt (h1 : sizesOf a = some ((s.length : Int), tt)) (h2 : applyA s (atomsOf a) = some t) => inv_back h1 h2
        have hlr := hfr.len
        have hlp := (fit_plain hsa).len
        generalize listOf ((atomsOf a).map Atm.inv) = R at *
        rw [show szR (some (fa, ta)) = .tuple #[.int .i64 fa, .int .i64 ta, .bool true] from rfl]
        (try (refine st_E26_1 ?_; intros))
        refine w_callF Try.func61 ?_ (hs := eInvert_any hfa _ _ _ (hra _))
        rintro v m H1 ⟨rfl, hv⟩
        rw [e1] at hv
        obtain ⟨c2, p2, rfl, rfl⟩ := hv
        (try (refine st_E26_1 ?_; intros))
        refine w_callF Try.func35 ?_ (hs := rInvert_any hfa hsa _ _ _ (RowR.row (a := c1) zhs))
        rintro v m H1 ⟨rfl, c3, p3, rfl, rfl⟩
        rw [← e3]
        (try (refine st_E26_1 ?_; intros))
        refine w_callF Try.func19 ?_ (hs := same_any (l := R) (by omega) _ _ _ (RowR.row (a := c2) zhs) (RowR.row (a := c3) zhs))
        rintro v m H1 ⟨rfl, rfl, rfl⟩
        (try (refine st_E26_1 ?_; intros))
        refine w_callF Try.func61 ?_ (hs := eInvert_any hfr _ _ _ (RowR.row (a := c2) zhs))
        rintro v m H1 ⟨rfl, hv⟩
        rw [e2] at hv
        obtain ⟨c4, p4, rfl, rfl⟩ := hv
        (try (refine st_E26_1 ?_; intros))
        refine w_callF Try.func43 ?_ (hs := say_any hfa hsa _ _ _ (RowR.row (a := c1) zhs))
        rintro _ m _ ⟨rfl, q2, q4, q6, rfl, rfl⟩
        (try (refine st_E26_1 ?_; intros))
        obtain ⟨la1, la2⟩ := said_len (gapsOf a)
        refine w_callF Try.func60 ?_ (hs := rPlain_any la1 la2 (said_small hsa) _ _ _)
        rintro v m H1 ⟨rfl, c5, p5, rfl, rfl⟩
        rw [plain_said]
        (try (refine st_E26_1 ?_; intros))
        refine w_callF Try.func19 ?_ (hs := same_any (l := plainOf a) (by omega) _ _ _ (RowR.row (a := c4) zhs) (RowR.row (a := c5) zhs))
        rintro v m H1 ⟨rfl, rfl, rfl⟩
        (try (refine st_E26_1 ?_; intros))
        refine w_callF Try.func22 ?_ (hs := apply_any hfa (by omega) _ _ _ (hra _))
        rintro v m H1 ⟨rfl, rfl, rfl⟩
        rcases apply_cases s a with ⟨ea, hea, eqa⟩ | ⟨t, ta', hsa', hta, eqa⟩
        · rw [eqa]
          (try (refine st_E26_1 ?_; intros))
          exact q_fin0 (H0 := H) (Gives.mk (show Value.bool (dcd (([] : List UInt8) = [])) = Value.bool true from congrArg Value.bool (dcd_true rfl))) (hd := zpk)
        · have hb := hback t ta' hsa' hta
          have hlt := apply_len _ _ _ hta
          have hlt2 : t.length ≤ 1000000000 := by obtain ⟨_, h1, _⟩ := sized hsa'; have := toA_le (atomsOf a); omega
          rw [eqa, okV]
          (try (refine st_E26_1 ?_; intros))
          refine w_callF Try.func22 ?_ (hs := apply_any hfr (by omega) _ _ _ (RowR.row (a := c2) zhs))
          rintro v m H1 ⟨rfl, rfl, rfl⟩
          rw [hb, okV]
          have hss : s = s := rfl
          (try (refine st_E26_1 ?_; intros))
          exact q_fin0 (H0 := H) (Gives.mk (show Value.bool (dcd ((0 : Int) = 0)) = Value.bool true from congrArg Value.bool (dcd_true rfl))) (hd := zpk)
    · (try (refine st_E26_1 ?_; intros))
      exact q_fin0 (H0 := H) (Gives.mk rfl) (hd := zpk)
  · (try (refine st_E26_1 ?_; intros))
    exact q_fin0 (H0 := H2) (Gives.mk rfl) (hd := zpk)
end Go.Proofs.Ytelgegefmjlimaa

/-
  Plain facts on the pieces of a text, second part: pieces lie in step with the forms; the last piece. No condition.
-/
set_option linter.all false
namespace Go.Eng
open Go
set_option linter.all false
theorem fm_lead {c : Nat} (hc : c ≤ 1114111) : (fm c).getD 0 0 < 128 ∨ (192 ≤ (fm c).getD 0 0) := by
  unfold fm
  split
  · left; simpa
  · split
    · right; simp
    · split
      · right; simp; omega
      · right; simp; omega
theorem fm_cont {c i : Nat} (h1 : 1 ≤ i) (h2 : i < wd c) : 128 ≤ (fm c).getD i 0 ∧ (fm c).getD i 0 < 192 := by
  unfold fm
  unfold wd at h2
  split at h2
  · omega
  · rename_i h3
    rw [if_neg h3]
    split at h2
    · rename_i h4
      rw [if_pos h4]
      have : i = 1 := by omega
      subst this
      simp; omega
    · rename_i h4
      rw [if_neg h4]
      split at h2
      · rename_i h5
        rw [if_pos h5]
        obtain rfl | rfl : i = 1 ∨ i = 2 := by omega
        · simp; omega
        · simp; omega
      · rename_i h5
        rw [if_neg h5]
        obtain rfl | rfl | rfl : i = 1 ∨ i = 2 ∨ i = 3 := by omega
        · simp; omega
        · simp; omega
        · simp; omega
theorem head_lead {l : List UInt8} (hl : 0 < l.length) (h : ¬ dl l = (65533, 1)) : gb l 0 < 128 ∨ 192 ≤ gb l 0 := by
  rcases dl_cases l hl with ⟨h1, h2, h3⟩ | ⟨h1, _⟩
  · have := h3.2 0 (wd_pos _).1
    rw [show gb l 0 = nb l 0 from rfl, this]
    exact fm_lead (okr_le h1)
  · exact absurd h1 h
theorem tail_cont {l : List UInt8} (hl : 0 < l.length) {i : Nat} (h1 : 1 ≤ i) (h2 : i < (dl l).2) : 128 ≤ gb l i ∧ gb l i < 192 := by
  rcases dl_cases l hl with ⟨g1, g2, g3⟩ | ⟨g1, _⟩
  · rw [g2] at h2
    have := g3.2 i h2
    rw [show gb l i = nb l i from rfl, this]
    exact fm_cont h1 h2
  · rw [g1] at h2; simp at h2; omega
/-- a place where a piece begins -/
def Reach (l : List UInt8) (j : Nat) : Prop := ∃ pre, pieces l = pre ++ from_ l j
theorem Reach.zero (l : List UInt8) : Reach l 0 := ⟨[], rfl⟩
theorem Reach.step {l : List UInt8} {j : Nat} (h : Reach l j) (hj : j < l.length) : Reach l (j + (readP l j).w) := by
  obtain ⟨pre, h⟩ := h
  exact ⟨pre ++ [readP l j], by rw [h, from_cons hj]; simp⟩
theorem reach_lead {l : List UInt8} {j : Nat} (hj : j < l.length) (hlead : gb l j < 128 ∨ 192 ≤ gb l j) : ∀ d i, j - i ≤ d → i ≤ j → Reach l i → Reach l j
  | 0, i, hd, hi, h => by
    have : i = j := by omega
    subst this; exact h
  | d + 1, i, hd, hi, h => by
    by_cases e : i = j
    · subst e; exact h
    · have hil : i < l.length := by omega
      have hw := readP_w hil
      have h2 : i + (readP l i).w ≤ j := by
        rw [readP_w_eq]
        rcases Nat.lt_or_ge j (i + (dl (l.drop i)).2) with hlt | hge
        · exfalso
          have := tail_cont (l := l.drop i) (by simp; omega) (i := j - i) (by omega) (by omega)
          rw [show gb (l.drop i) (j - i) = gb l (i + (j - i)) from nb_drop l i (j - i), show i + (j - i) = j by omega] at this
          omega
        · exact hge
      exact reach_lead hj hlead d _ (by omega) h2 (h.step hil)
/-- what begins whole at a place begins a piece -/
theorem reach_whole {l : List UInt8} {j : Nat} (hj : j < l.length) (h : (readP l j).b = false) : Reach l j := by
  have h1 : ¬ dl (l.drop j) = (65533, 1) := by
    intro h2
    simp [readP, h2] at h
  have := head_lead (l := l.drop j) (by simp; omega) h1
  rw [show gb (l.drop j) 0 = gb l (j + 0) from nb_drop l j 0] at this
  exact reach_lead hj this j 0 (by omega) (by omega) (Reach.zero l)
theorem readP_b {l : List UInt8} {j : Nat} (h : (readP l j).b = true) : (readP l j).w = 1 := by
  unfold readP at h ⊢
  split
  · rfl
  · rename_i h2
    rw [if_neg h2] at h
    cases h
def lastP (l : List UInt8) : Pc := (pieces l).getLastD ⟨0, 0, 0, false⟩
end Go.Eng

/-
  Plain facts on the pieces of a text, third part: which places are boundaries, and what stands around a place. No condition.
-/
set_option linter.all false
namespace Go.Eng
open Go
set_option linter.all false
theorem from_split (l : List UInt8) : ∀ d k, l.length - k ≤ d → ∀ pre p post, from_ l k = pre ++ p :: post → k ≤ p.at_ ∧ p.at_ < l.length ∧ p = readP l p.at_ ∧ p :: post = from_ l p.at_ ∧ (∀ q ∈ pre, q.at_ < p.at_)
  | 0, k, hd, pre, p, post, h => by
    rw [from_nil (by omega)] at h; simp at h
  | d + 1, k, hd, pre, p, post, h => by
    by_cases hk : k < l.length
    · have hw := readP_w hk
      have h' := h
      rw [from_cons hk] at h
      cases pre with
      | nil =>
        simp only [List.nil_append, List.cons.injEq] at h
        obtain ⟨rfl, h2⟩ := h
        have ha := readP_at l k
        refine ⟨by omega, by omega, by rw [ha], by rw [ha, from_cons hk, h2], by simp⟩
      | cons q pre =>
        simp only [List.cons_append, List.cons.injEq] at h
        obtain ⟨rfl, h2⟩ := h
        obtain ⟨g1, g2, g3, g4, g5⟩ := from_split l d _ (by omega) pre p post h2
        refine ⟨by omega, g2, g3, g4, fun q hq => ?_⟩
        rcases List.mem_cons.1 hq with rfl | hq
        · rw [readP_at]; omega
        · exact g5 q hq
    · rw [from_nil hk] at h; simp at h
theorem pieces_split {l : List UInt8} {pre post : List Pc} {p : Pc} (h : pieces l = pre ++ p :: post) : p.at_ < l.length ∧ p = readP l p.at_ ∧ p :: post = from_ l p.at_ ∧ (∀ q ∈ pre, q.at_ < p.at_) :=
  (from_split l l.length 0 (by omega) pre p post h).2
theorem reach_of_mem {l : List UInt8} {p : Pc} (h : p ∈ pieces l) : Reach l p.at_ ∧ p.at_ < l.length ∧ p = readP l p.at_ := by
  obtain ⟨pre, post, e⟩ := List.append_of_mem h
  obtain ⟨h1, h2, h3, _⟩ := pieces_split e
  exact ⟨⟨pre, by rw [e, h3]⟩, h1, h2⟩
theorem reach_mem {l : List UInt8} {k : Nat} (h : Reach l k) (hk : k < l.length) : readP l k ∈ pieces l := by
  obtain ⟨pre, e⟩ := h
  rw [e, from_cons hk]; simp
/-- what lies ahead of a place where a piece begins, and what from it on -/
theorem reach_parts {l : List UInt8} {k : Nat} (h : Reach l k) : ∃ pre, pieces l = pre ++ from_ l k ∧ (∀ q ∈ pre, q.at_ < k ∨ l.length ≤ k) ∧ (∀ q ∈ from_ l k, k ≤ q.at_) := by
  obtain ⟨pre, e⟩ := h
  refine ⟨pre, e, fun q hq => ?_, fun q hq => ?_⟩
  · by_cases hk : k < l.length
    · rw [from_cons hk] at e
      have := (pieces_split e).2.2.2 q hq
      rw [readP_at] at this
      exact .inl this
    · exact .inr (by omega)
  · obtain ⟨a, b, e2⟩ := List.append_of_mem hq
    exact (from_split l l.length k (by omega) a q b e2).1
/-- within a piece no piece begins -/
theorem not_reach_within {l : List UInt8} {i j : Nat} (hi : i < l.length) (h : Reach l i) (h1 : i < j) (h2 : j < i + (readP l i).w) : ¬ Reach l j := by
  intro hj
  have hw := readP_w hi
  have hjl : j < l.length := by omega
  obtain ⟨pre, e, g1, g2⟩ := reach_parts h
  have hm := reach_mem hj hjl
  rw [e, List.mem_append] at hm
  rcases hm with hm | hm
  · rcases g1 _ hm with g | g
    · rw [readP_at] at g; omega
    · omega
  · rw [from_cons hi] at hm
    rcases List.mem_cons.1 hm with hm | hm
    · have := congrArg Pc.at_ hm
      rw [readP_at, readP_at] at this; omega
    · obtain ⟨a, b, e2⟩ := List.append_of_mem hm
      have := (from_split l l.length _ (by omega) a _ b e2).1
      rw [readP_at] at this; omega
/-- a place within a form: where the form begins -/
def Within (l : List UInt8) (at_ i : Nat) : Prop := i < at_ ∧ at_ < i + (readP l i).w ∧ (readP l i).b = false
end Go.Eng

/-
  Plain facts: pieces that two texts have alike, their order; a rune's first piece. No condition.
-/
set_option linter.all false
namespace Go.Eng
open Go
/-- a piece's place in the order of pieces -/
def wt (l : List UInt8) (p : Pc) : Nat := if p.b then 16777216 + gb l p.at_ else p.r
def cm : List Nat → List Nat → Nat
  | x :: X, y :: Y => if x = y then cm X Y + 1 else 0
  | _, _ => 0
def cmpL : List Nat → List Nat → Int
  | [], [] => 0
  | [], _ :: _ => -1
  | _ :: _, [] => 1
  | x :: X, y :: Y => if x = y then cmpL X Y else if x < y then -1 else 1
theorem cm_pre : ∀ (P X Y : List Nat), cm (P ++ X) (P ++ Y) = P.length + cm X Y
  | [], X, Y => by simp
  | p :: P, X, Y => by simp [cm, cm_pre P X Y]; omega
theorem cmpL_pre : ∀ (P X Y : List Nat), cmpL (P ++ X) (P ++ Y) = cmpL X Y
  | [], X, Y => rfl
  | p :: P, X, Y => by simp [cmpL, cmpL_pre P X Y]
/-- two rows that have nothing alike at their heads -/
def stop : List Nat → List Nat → Prop
  | x :: _, y :: _ => x ≠ y
  | _, _ => True
theorem readP_cases {l : List UInt8} {k : Nat} (hk : k < l.length) : ((readP l k).b = true ∧ (readP l k).w = 1 ∧ (readP l k).r = 65533) ∨ ((readP l k).b = false ∧ (readP l k).w = wd (readP l k).r ∧ (readP l k).r ≤ 1114111) := by
  unfold readP
  split
  · exact .inl ⟨rfl, rfl, rfl⟩
  · rename_i h
    rcases dl_cases (l.drop k) (by simp; omega) with ⟨h1, h2, _⟩ | ⟨h2, _⟩
    · exact .inr ⟨rfl, h2, okr_le h1⟩
    · exact absurd h2 h
theorem wt_read {l : List UInt8} {k : Nat} : wt l (readP l k) = if (readP l k).b then 16777216 + gb l k else (readP l k).r := by unfold wt; rw [readP_at]
/-- so far all is alike -/
def Sh (a b : List UInt8) (n k : Nat) : Prop := ∃ pa pb, pieces a = pa ++ from_ a k ∧ pieces b = pb ++ from_ b k ∧ pa.length = n ∧ pb.length = n ∧ pa.map (wt a) = pb.map (wt b) ∧ k ≤ a.length ∧ k ≤ b.length
theorem Sh.start (a b : List UInt8) : Sh a b 0 0 := ⟨[], [], rfl, rfl, rfl, rfl, rfl, by omega, by omega⟩
theorem wt_same {a b : List UInt8} {k : Nat} (ha : k < a.length) (hb : k < b.length) : wt a (readP a k) = wt b (readP b k) ↔ readP a k = readP b k ∧ ((readP a k).b = true → gb a k = gb b k) := by
  rw [wt_read, wt_read]
  have h1 := readP_at a k
  have h2 := readP_at b k
  have h3 := gb_lt a k
  have h4 := gb_lt b k
  have e1 := readP_cases ha
  have e2 := readP_cases hb
  generalize readP a k = p at *
  generalize readP b k = q at *
  obtain ⟨pa, pw, pr, pb⟩ := p
  obtain ⟨qa, qw, qr, qb⟩ := q
  simp only at *
  subst h1; subst h2
  simp only [Pc.mk.injEq]
  rcases e1 with ⟨rfl, rfl, rfl⟩ | ⟨rfl, rfl, h5⟩ <;> rcases e2 with ⟨rfl, rfl, rfl⟩ | ⟨rfl, rfl, h6⟩
  · simp
  · simp; omega
  · simp; omega
  · simp; intro h; rw [h]
theorem Sh.next {a b : List UInt8} {n k : Nat} (h : Sh a b n k) (ha : k < a.length) (hb : k < b.length) (hw : wt a (readP a k) = wt b (readP b k)) : Sh a b (n + 1) (k + (readP a k).w) := by
  obtain ⟨pa, pb, h1, h2, h3, h4, h5, h6, h7⟩ := h
  have he := ((wt_same ha hb).1 hw).1
  rw [from_cons ha] at h1
  rw [from_cons hb] at h2
  have w1 := readP_w ha
  have w2 := readP_w hb
  refine ⟨pa ++ [readP a k], pb ++ [readP b k], by simpa using h1, by rw [he]; simpa using h2, by simp [h3], by simp [h4], by simp [h5, hw], by omega, by rw [he]; omega⟩
theorem Sh.done {a b : List UInt8} {n k : Nat} (h : Sh a b n k) (hs : k = a.length ∨ k = b.length ∨ wt a (readP a k) ≠ wt b (readP b k)) :
    n = cm ((pieces a).map (wt a)) ((pieces b).map (wt b)) ∧ cmpL ((pieces a).map (wt a)) ((pieces b).map (wt b)) = if k = a.length ∧ k = b.length then 0 else if k = a.length then -1 else if k = b.length then 1 else if wt a (readP a k) < wt b (readP b k) then -1 else 1 := by
  obtain ⟨pa, pb, h1, h2, h3, h4, h5, h6, h7⟩ := h
  rw [h1, h2, List.map_append, List.map_append, ← h5, cm_pre, cmpL_pre, List.length_map, h3]
  rcases Nat.lt_or_eq_of_le h6 with ha | ha
  · rw [from_cons ha]
    rcases Nat.lt_or_eq_of_le h7 with hb | hb
    · rw [from_cons hb]
      have hne : wt a (readP a k) ≠ wt b (readP b k) := by omega
      simp only [List.map_cons, cm, cmpL, if_neg hne]
      refine ⟨by omega, ?_⟩
      simp [show ¬ k = a.length by omega, show ¬ k = b.length by omega]
    · rw [from_nil (l := b) (k := k) (by omega)]
      simp only [List.map_cons, List.map_nil, cm, cmpL]
      refine ⟨by omega, ?_⟩
      rw [if_neg (by omega), if_neg (by omega), if_pos hb]
  · rw [from_nil (l := a) (k := k) (by omega)]
    rcases Nat.lt_or_eq_of_le h7 with hb | hb
    · rw [from_cons hb]
      simp only [List.map_cons, List.map_nil, cm, cmpL]
      refine ⟨by omega, ?_⟩
      rw [if_neg (by omega), if_pos ha]
    · rw [from_nil (l := b) (k := k) (by omega)]
      simp only [List.map_nil, cm, cmpL]
      refine ⟨by omega, ?_⟩
      rw [if_pos ⟨ha, hb⟩]
/-- the place of a rune's first piece -/
def idx : List Pc → Int → Int
  | [], _ => -1
  | p :: ps, r => if (p.r : Int) = r ∧ p.b = false then (p.at_ : Int) else idx ps r
def noIdx (ps : List Pc) (r : Int) : Prop := ∀ p ∈ ps, ¬ ((p.r : Int) = r ∧ p.b = false)
end Go.Eng

/-
  Plain facts on the pieces of a text, fourth part: the boundaries as a row of numbers, and the ones next to a place. No condition.
-/
set_option linter.all false
namespace Go.Eng
open Go
set_option linter.all false
/-- the boundaries of a text -/
def endsOf (l : List UInt8) : List Nat := (pieces l).map Pc.at_ ++ [l.length]
def leOf (k : Nat) : List Nat → Nat → Nat
  | [], a => a
  | x :: xs, a => leOf k xs (if x ≤ k then x else a)
def geOf (k : Nat) : List Nat → Nat → Nat
  | [], a => a
  | x :: xs, a => if k ≤ x then x else geOf k xs a
end Go.Eng

/-
  Plain facts: pieces of a text's beginning; a text's pieces as texts; from the end on. No condition.
-/
set_option linter.all false
namespace Go.Eng
open Go
theorem begins_take {l : List UInt8} {c n : Nat} (h : begins (l.take n) c) : begins l c := by
  obtain ⟨h1, h2⟩ := h
  simp only [List.length_take] at h1
  refine ⟨by omega, fun k hk => ?_⟩
  rw [← h2 k hk]
  simp only [nb, gb, List.getD_eq_getElem?_getD, List.length_take]
  rw [List.getElem?_take_of_lt (by omega)]
theorem begins_of_take {l : List UInt8} {c n : Nat} (h : begins l c) (hn : wd c ≤ n) : begins (l.take n) c := by
  obtain ⟨h1, h2⟩ := h
  refine ⟨by simp only [List.length_take]; omega, fun k hk => ?_⟩
  rw [← h2 k hk]
  simp only [nb, gb, List.getD_eq_getElem?_getD, List.length_take]
  rw [List.getElem?_take_of_lt (by omega)]
/-- a piece's bytes -/
def txt (l : List UInt8) (p : Pc) : List UInt8 := (l.take (p.at_ + p.w)).drop p.at_
theorem mem_w {l : List UInt8} {p : Pc} (h : p ∈ pieces l) : p.at_ < l.length ∧ 1 ≤ p.w ∧ p.w ≤ 4 ∧ p.at_ + p.w ≤ l.length := by
  obtain ⟨_, h2, h3⟩ := reach_of_mem h
  have := readP_w h2
  rw [← h3] at this
  omega
def mendOf (l w : List UInt8) (ps : List Pc) : List UInt8 := ps.flatMap fun p => if p.b then w else txt l p
def textsOf (l : List UInt8) (ps : List Pc) : List UInt8 := ps.flatMap (txt l)
/-- where the first so many pieces end -/
def cutK (l : List UInt8) (n : Int) : Nat := if n ≤ 0 then 0 else (endsOf l).getD n.toNat l.length
end Go.Eng

/-
  Plain facts: the pieces so far are the text's beginning; places within a form. No condition.
-/
set_option linter.all false
namespace Go.Eng
open Go
end Go.Eng

/-
  Plain facts on pieces: their order, and the pieces of a text's end. No condition.
-/
set_option linter.all false
namespace Go.Eng
open Go
theorem pc_broken {l : List UInt8} {p : Pc} (h : p ∈ pieces l) : p.b = true ↔ p.r = 65533 ∧ p.w = 1 := by
  obtain ⟨_, h2, h3⟩ := reach_of_mem h
  rw [h3]
  rcases readP_cases h2 with ⟨e1, e2, e3⟩ | ⟨e1, e2, e3⟩
  · rw [e1, e2, e3]; simp
  · rw [e1]
    constructor
    · intro h; cases h
    · rintro ⟨g1, g2⟩
      exfalso
      rw [g1] at e2
      have : wd 65533 = 3 := by decide
      omega
/-- where one piece ends ahead of a boundary -/
theorem reach_next {l : List UInt8} {k j : Nat} (hk : Reach l k) (hj : Reach l j) (hjl : j ≤ l.length) (hlt : k < j) : k + (readP l k).w ≤ j := by
  rcases Nat.lt_or_ge j (k + (readP l k).w) with h | h
  · exact absurd hj (not_reach_within (by omega) hk hlt h)
  · exact h
/-- a piece, told from further on -/
def Pc.sub (p : Pc) (n : Nat) : Pc := ⟨p.at_ - n, p.w, p.r, p.b⟩
end Go.Eng

/-
  The walk of the reference's Pieces (canticleref03): a text's pieces as Go's range tells them. No condition.
-/
namespace Go.Eng
open Go
/-- a piece whose break is not told yet, and one whose width is not -/
def Pc.nb (p : Pc) : List Value := [.int .i64 (p.at_ : Int), .int .i64 (p.w : Int), .int .i32 (p.r : Int), .bool false]
def Pc.nz (p : Pc) : List Value := [.int .i64 (p.at_ : Int), .int .i64 0, .int .i32 (p.r : Int), .bool false]
theorem pieces_count (l : List UInt8) : ∀ (d k : Nat), l.length - k ≤ d → (from_ l k).length ≤ l.length - k
  | d, k, h => by
    by_cases hk : k < l.length
    · have hw := readP_w hk
      rw [from_cons hk, List.length_cons]
      cases d with
      | zero => omega
      | succ d =>
        have := pieces_count l d (k + (readP l k).w) (by omega)
        omega
    · rw [from_nil hk]; exact Nat.zero_le _
end Go.Eng
namespace Go.Proofs.Ytelgegefmjlimaa
open Go Go.Eng
set_option maxRecDepth 100000
set_option maxHeartbeats 4000000
set_option linter.all false
attribute [local irreducible] WL WC WQ QFun QLoop Does Q1 QRound QAssign Go.Addr.add
attribute [local irreducible] readP pieces dl from_
theorem p3_any (l : List UInt8) (hl : l.length ≤ 1000000) (w0 : World) (m : Mem) (H : SHeap) :
    Does Try.prog 56 #[str l] w0 m H (fun v m' H' => m' = m ∧ ∃ c cp, v = .slice c (pieces l).length cp ∧ H' = .row c cp 118 4 ((pieces l).map Pc.cs) :: H) := by
  refine Does.of_body (args := [str l]) Try.func56 rfl Try.ntmps56 rfl ?_
  have hcnt := pieces_count l _ 0 (Nat.le_refl _)
  have hp0 : pieces l = from_ l 0 := by unfold pieces; rfl
  (refine st ?_; intros; rename_i it)
  refine WC.newRow (T := 118) (sz := 4) ?_
  refine WC.loopH [(8, .pointer (some ⟨it, 0, none⟩)), (3, .slice (none) (([] : List Pc)).length (0)), (0, str l)] ?_ ?_ (fun j r ds m' H' => ∃ (k : Nat) (c : Option Addr) (cp : Nat) (es : List (List Value)) (pre : List Pc), j = l.length - k ∧ r = [(8, .pointer (some ⟨it, 0, none⟩)), (3, .slice c pre.length cp), (0, str l)] ∧ ds = [] ∧ m = m' ∧ H' = .row c cp 118 4 es :: .blk it (.stringIter ⟨l.toArray⟩ k) :: H ∧ (pieces l = pre ++ from_ l k) ∧ ((pre = [] ∧ es = []) ∨ ∃ ps p, pre = ps ++ [p] ∧ es = ps.map Pc.nb ++ [p.nz] ∧ p.at_ + p.w = k) ∧ (k ≤ l.length)) (l.length - (0)) ⟨0, none, 0, ([] : List (List Value)), ([] : List Pc), rfl, rfl, rfl, rfl, rfl, hp0, .inl ⟨rfl, rfl⟩, Nat.zero_le _⟩ ?_
  · (repeat (first | exact Env.Sub.nil | refine Env.Sub.cons rfl ?_))
  · exact zpk
  rintro j r ds m' H' ⟨k, c, cp, es, pre, rfl, rfl, rfl, rfl, rfl, hp, hes, hkl⟩
  have hpl : pre.length ≤ l.length := by have := congrArg List.length hp; rw [List.length_append] at this; rw [hp0] at this; omega
  have hel : es.length = pre.length := by
    rcases hes with ⟨rfl, rfl⟩ | ⟨ps, p, rfl, rfl, _⟩
    · rfl
    · simp
  by_cases hk : k < l.length
  · have hw := readP_w hk
    have hwe := readP_w_eq l k
    have hre := readP_r_eq l k
    have em : [Value.int .i64 (k : Int), .int .i64 0, .int .i32 ((dl (l.drop k)).1 : Int), .bool false] = (readP l k).nz := by unfold Pc.nz; rw [readP_at, readP_r_eq]
    rw [from_cons hk] at hp
    rcases hes with ⟨rfl, rfl⟩ | ⟨ps, p, rfl, rfl, hpk⟩
    · have h0 : ([] : List Pc).length = 0 := rfl
      (refine st ?_; intros; rename_i q c2 cp2)
      rw [List.nil_append, em]
      refine WQ.next (l.length - (k + (dl (l.drop k)).2)) ⟨k + (dl (l.drop k)).2, c2, cp2, [(readP l k).nz], [readP l k], rfl, rfl, rfl, rfl, rfl, ?_, ?_, ?_⟩ (by omega) zsb zpk
      · rw [hp, hwe]; rfl
      · refine .inr ⟨[], readP l k, rfl, rfl, ?_⟩
        rw [readP_at, hwe]
      · omega
    · have h1 : (ps ++ [p]).length = ps.length + 1 := by simp
      have hget : (ps.map Pc.nb ++ [p.nz])[(ps ++ [p]).length - 1]? = some p.nz := by rw [h1]; simp
      have hset : ∀ e, (ps.map Pc.nb ++ [p.nz]).set ((ps ++ [p]).length - 1) e = ps.map Pc.nb ++ [e] := fun e => by rw [h1]; simp
      have hwp : (k : Int) - (p.at_ : Int) = (p.w : Int) := by omega
      refine WC.rowSome (a := c) (es := ps.map Pc.nb ++ [p.nz]) zhs (by simp) ?_
      rintro c0 rfl
      generalize hE : ps.map Pc.nb ++ [p.nz] = E at *
      have e : [Value.int .i64 (p.at_ : Int), .int .i64 ((k : Int) - (p.at_ : Int)), .int .i32 (p.r : Int), .bool false] = p.nb := by rw [hwp]; rfl
      have hFl : (ps.map Pc.nb ++ [p.nb]).length = (ps ++ [p]).length := by simp
      have en : (ps ++ [p]).length + 1 = (ps ++ [p] ++ [readP l k]).length := by simp
      (refine st ?_; intros; rename_i q)
      rw [hset, e]
      generalize hF : ps.map Pc.nb ++ [p.nb] = F at *
      (refine st ?_; intros; rename_i c2 cp2)
      rw [em, hFl, en]
      refine WQ.next (l.length - (k + (dl (l.drop k)).2)) ⟨k + (dl (l.drop k)).2, c2, cp2, F ++ [(readP l k).nz], ps ++ [p] ++ [readP l k], rfl, rfl, rfl, rfl, rfl, ?_, ?_, ?_⟩ (by omega) zsb zpk
      · rw [hp, hwe]; simp
      · refine .inr ⟨ps ++ [p], readP l k, rfl, ?_, ?_⟩
        · rw [← hF]; simp
        · rw [readP_at, hwe]
      · omega
  · obtain rfl : k = l.length := by omega
    rw [from_nil hk, List.append_nil] at hp
    rw [hp]
    rcases hes with ⟨rfl, rfl⟩ | ⟨ps, p, rfl, rfl, hpk⟩
    · have h0 : ([] : List Pc).length = 0 := rfl
      (try (refine st ?_; intros))
      refine WC.loopH [(6, .int .i64 0), (3, .slice c ([] : List Pc).length cp)] ?_ ?_ (fun j r ds m' H' => ∃ (u : Nat), j = 2 * u ∧ r = [(6, .int .i64 0), (3, .slice c ([] : List Pc).length cp)] ∧ ds = [] ∧ m = m' ∧ H' = .row c cp 118 4 [] :: H) (2 * (0)) ⟨0, rfl, rfl, rfl, rfl, rfl⟩ ?_
      · (repeat (first | exact Env.Sub.nil | refine Env.Sub.cons rfl ?_))
      · exact zpk
      rintro j r ds m' H' ⟨u, rfl, rfl, rfl, rfl, rfl⟩
      (try (refine st ?_; intros))
      exact q_fin0 (H0 := .row c cp 118 4 [] :: H) ⟨rfl, c, cp, rfl, rfl⟩ (hd := zpk)
    · have h1 : (ps ++ [p]).length = ps.length + 1 := by simp
      have hget : (ps.map Pc.nb ++ [p.nz])[(ps ++ [p]).length - 1]? = some p.nz := by rw [h1]; simp
      have hset : ∀ e, (ps.map Pc.nb ++ [p.nz]).set ((ps ++ [p]).length - 1) e = ps.map Pc.nb ++ [e] := fun e => by rw [h1]; simp
      have hwp : (l.length : Int) - (p.at_ : Int) = (p.w : Int) := by omega
      refine WC.rowSome (a := c) (es := ps.map Pc.nb ++ [p.nz]) zhs (by simp) ?_
      rintro c0 rfl
      generalize hE : ps.map Pc.nb ++ [p.nz] = E at *
      have e : [Value.int .i64 (p.at_ : Int), .int .i64 ((l.length : Int) - (p.at_ : Int)), .int .i32 (p.r : Int), .bool false] = p.nb := by rw [hwp]; rfl
      have hps : ps ++ [p] = pieces l := hp.symm
      have hE2 : ps.map Pc.nb ++ [p.nb] = (pieces l).map Pc.nb := by rw [hp]; simp
      have hcn : (pieces l).length ≤ 1000000 := by rw [hp0]; omega
      (try (refine st ?_; intros))
      rw [hset, e, hE2]
      rw [hps] at h1 hel ⊢
      refine WC.loopH [(6, .int .i64 ((0) : Int)), (3, .slice (some c0) (pieces l).length cp)] ?_ ?_ (fun j r ds m' H' => ∃ (i : Nat) (es : List (List Value)), j = (pieces l).length - i ∧ r = [(6, .int .i64 (i : Int)), (3, .slice (some c0) (pieces l).length cp)] ∧ ds = [] ∧ m = m' ∧ H' = .row (some c0) cp 118 4 es :: H ∧ (i ≤ (pieces l).length) ∧ (es = ((pieces l).take i).map Pc.cs ++ ((pieces l).drop i).map Pc.nb)) ((pieces l).length - (0)) ⟨0, (pieces l).map Pc.nb, rfl, rfl, rfl, rfl, rfl, Nat.zero_le _, by simp⟩ ?_
      · (repeat (first | exact Env.Sub.nil | refine Env.Sub.cons rfl ?_))
      · exact zpk
      rintro j r ds m' H' ⟨i, es, rfl, rfl, rfl, rfl, rfl, hi, hes⟩
      have hel2 : es.length = (pieces l).length := by rw [hes]; simp; omega
      by_cases hlt : i < (pieces l).length
      · have hmem : (pieces l)[i] ∈ pieces l := List.getElem_mem hlt
        have hbr := pc_broken hmem
        generalize hpi : (pieces l)[i] = pi at *
        have hget : es[i]? = some pi.nb := by
          rw [hes, List.getElem?_append_right (by simp; omega)]
          simp only [List.length_map, List.length_take, Nat.min_eq_left (Nat.le_of_lt hlt), Nat.sub_self]
          rw [List.drop_eq_getElem_cons hlt, hpi]; rfl
        have hset2 : es.set i pi.cs = ((pieces l).take (i + 1)).map Pc.cs ++ ((pieces l).drop (i + 1)).map Pc.nb := by
          rw [hes, List.set_append_right _ _ (by simp; omega)]
          simp only [List.length_map, List.length_take, Nat.min_eq_left (Nat.le_of_lt hlt), Nat.sub_self]
          rw [List.drop_eq_getElem_cons hlt, hpi, List.take_succ_eq_append_getElem hlt, hpi]
          simp
        by_cases hr : pi.r = 65533
        · by_cases hw1 : pi.w = 1
          · have hb : pi.b = true := hbr.2 ⟨hr, hw1⟩
            have ec : [Value.int .i64 (pi.at_ : Int), .int .i64 (pi.w : Int), .int .i32 (pi.r : Int), .bool (dcd ((pi.w : Int) = 1))] = pi.cs := by unfold Pc.cs; rw [hb, dcd_true (by omega)]
            (try (refine st ?_; intros))
            rw [ec, hset2]
            refine WQ.next ((pieces l).length - (i + 1)) ⟨i + 1, ((pieces l).take (i + 1)).map Pc.cs ++ ((pieces l).drop (i + 1)).map Pc.nb, rfl, rfl, rfl, rfl, rfl, ?_, ?_⟩ (by omega) zsb zpk
            · omega
            · rfl
          · have hb : pi.b = false := by
              cases hh : pi.b with
              | false => rfl
              | true => exact absurd (hbr.1 hh).2 hw1
            have ec : [Value.int .i64 (pi.at_ : Int), .int .i64 (pi.w : Int), .int .i32 (pi.r : Int), .bool (dcd ((pi.w : Int) = 1))] = pi.cs := by unfold Pc.cs; rw [hb, dcd_false (by omega)]
            (try (refine st ?_; intros))
            rw [ec, hset2]
            refine WQ.next ((pieces l).length - (i + 1)) ⟨i + 1, ((pieces l).take (i + 1)).map Pc.cs ++ ((pieces l).drop (i + 1)).map Pc.nb, rfl, rfl, rfl, rfl, rfl, ?_, ?_⟩ (by omega) zsb zpk
            · omega
            · rfl
        · have hb : pi.b = false := by
            cases hh : pi.b with
            | false => rfl
            | true => exact absurd (hbr.1 hh).1 hr
          have ec : [Value.int .i64 (pi.at_ : Int), .int .i64 (pi.w : Int), .int .i32 (pi.r : Int), .bool false] = pi.cs := by unfold Pc.cs; rw [hb]
          (try (refine st ?_; intros))
          rw [ec, hset2]
          refine WQ.next ((pieces l).length - (i + 1)) ⟨i + 1, ((pieces l).take (i + 1)).map Pc.cs ++ ((pieces l).drop (i + 1)).map Pc.nb, rfl, rfl, rfl, rfl, rfl, ?_, ?_⟩ (by omega) zsb zpk
          · omega
          · rfl
      · obtain rfl : i = (pieces l).length := by omega
        rw [List.take_length, List.drop_length, List.map_nil, List.append_nil] at hes
        subst hes
        (try (refine st ?_; intros))
        exact q_fin0 (H0 := .row (some c0) cp 118 4 ((pieces l).map Pc.cs) :: H) ⟨rfl, some c0, cp, rfl, rfl⟩ (hd := zpk)
end Go.Proofs.Ytelgegefmjlimaa

/-
  The walks of the law's edge and cuts: where the rows of a change begin and end. No condition.
-/
namespace Go.Eng
open Go
/-- up to which byte a change has gone, of the text that it is of, or of the one that it makes -/
def goneA (from_ : Bool) (L : List Atm) : Nat := if from_ then fromA L else toA L
end Go.Eng
namespace Go.Proofs.Ytelgegefmjlimaa
open Go Go.Eng
set_option maxRecDepth 100000
set_option maxHeartbeats 4000000
set_option linter.all false
attribute [local irreducible] WL WC WQ QFun QLoop Does Q1 QRound QAssign Go.Addr.add
attribute [local irreducible] readP pieces dl from_
theorem edge_any (l : List UInt8) (e : Nat) (hl : l.length ≤ 1000000) (hr : Go.Eng.Reach l e) (he : e ≤ l.length) (w0 : World) (m : Mem) (H : SHeap) :
    Does Try.prog 57 #[str l, .int .i64 (e : Int)] w0 m H (Gives (.bool true) m H) := by
  refine Does.of_body (args := [str l, .int .i64 (e : Int)]) Try.func57 rfl Try.ntmps57 rfl ?_
  (refine st ?_; intros; rename_i it)
  refine WC.loopH [(7, .pointer (some ⟨it, 0, none⟩)), (0, str l), (1, .int .i64 (e : Int))] ?_ ?_ (fun j r ds m' H' => ∃ (k : Nat), j = 2 * (l.length - k) ∧ r = [(7, .pointer (some ⟨it, 0, none⟩)), (0, str l), (1, .int .i64 (e : Int))] ∧ ds = [] ∧ m = m' ∧ H' = .blk it (.stringIter ⟨l.toArray⟩ k) :: H ∧ (Go.Eng.Reach l k) ∧ (k ≤ e)) (2 * (l.length - (0))) ⟨0, rfl, rfl, rfl, rfl, rfl, Go.Eng.Reach.zero l, Nat.zero_le _⟩ ?_
  · (repeat (first | exact Env.Sub.nil | refine Env.Sub.cons rfl ?_))
  · exact zpk
  rintro j r ds m' H' ⟨k, rfl, rfl, rfl, rfl, rfl, hk, hke⟩
  by_cases hkl : k < l.length
  · have hw := readP_w hkl
    have hwe := readP_w_eq l k
    by_cases hke2 : k = e
    · subst hke2
      (try (refine st ?_; intros))
      exact q_fin0 (H0 := H) (Gives.mk rfl) (hd := zpk)
    · have hnx := reach_next hk hr he (by omega)
      (try (refine st ?_; intros))
      refine WQ.next (2 * (l.length - (k + (dl (l.drop k)).2))) ⟨k + (dl (l.drop k)).2, rfl, rfl, rfl, rfl, rfl, ?_, ?_⟩ (by omega) zsb zpk
      · rw [← hwe]; exact hk.step hkl
      · omega
  · obtain rfl : k = l.length := by omega
    obtain rfl : e = l.length := by omega
    (try (refine st ?_; intros))
    exact q_fin0 (H0 := H) (Gives.mk (show Value.bool (dcd ((l.length : Int) = (l.length : Int))) = Value.bool true from congrArg Value.bool (dcd_true rfl))) (hd := zpk)
end Go.Proofs.Ytelgegefmjlimaa

/-
  The walks of package runes and of its reference, first part: a rune's width, the piece that is read at a place. No condition.
-/
namespace Go.Proofs.Ytelgegefmjlimaa
open Go Go.Eng
set_option maxRecDepth 100000
set_option maxHeartbeats 4000000
set_option linter.all false
attribute [local irreducible] WL WC WQ QFun QLoop Does Q1 QRound QAssign Go.Addr.add
/-- runes.Width, of whatever number -/
def widthS (r : Int) : Int := if r ≠ 65533 ∧ fmb (rn r) = [239, 191, 189] then 0 else (wd (rn r) : Int)
theorem width_any (r : Int) (w0 : World) (m : Mem) (H : SHeap) : Does Try.prog 80 #[.int .i32 r] w0 m H (Gives (.int .i64 (widthS r)) m H) := by
  refine Does.of_body (args := [.int .i32 r]) Try.func80 rfl Try.ntmps80 rfl ?_
  (try (refine st ?_; intros))
  (first | refine c_ways (fun h1 => ?_) (fun h1 => ?_) | refine c_nways (fun h1 => ?_) (fun h1 => ?_) | refine w_gways (fun h1 => ?_) (fun h1 => ?_) | refine w_gnways (fun h1 => ?_) (fun h1 => ?_))
  · (try (refine st ?_; intros))
    (first | refine c_ways (fun h2 => ?_) (fun h2 => ?_) | refine c_nways (fun h2 => ?_) (fun h2 => ?_) | refine w_gways (fun h2 => ?_) (fun h2 => ?_) | refine w_gnways (fun h2 => ?_) (fun h2 => ?_))
    · (try (refine st ?_; intros))
      rw [encode_eq] at h2
      exact WQ.fin _ (res_tmp rfl rfl) (.mk (by rw [widthS, if_pos ⟨h1, h2⟩]))
    · (try (refine st ?_; intros))
      rw [encode_eq] at h2 ⊢
      exact WQ.fin _ (res_tmp rfl rfl) (.mk (by rw [widthS, if_neg (fun h => h2 h.2), fmb_length]))
  · (try (refine st ?_; intros))
    rw [encode_eq]
    exact WQ.fin _ (res_tmp rfl rfl) (.mk (by rw [widthS, if_neg (fun h => h.1 h1), fmb_length]))

theorem widthS_ok {c : Nat} (h : okr c) : widthS (c : Int) = (wd c : Int) := by
  unfold widthS
  rw [rn_nat h, if_neg]
  rintro ⟨h1, h2⟩
  apply h1
  have h3 : wd c = 3 := by rw [← fmb_length c, h2]; rfl
  have hc : ¬ c < 128 ∧ ¬ c < 2048 ∧ c < 65536 := by
    unfold wd at h3
    split at h3
    · cases h3
    · split at h3
      · cases h3
      · split at h3
        · omega
        · cases h3
  have h4 := nb_fmb c 0 (by omega) (by omega)
  have h5 := nb_fmb c 1 (by omega) (by omega)
  have h6 := nb_fmb c 2 (by omega) (by omega)
  rw [h2] at h4 h5 h6
  unfold fm at h4 h5 h6
  rw [if_neg hc.1, if_neg hc.2.1, if_pos hc.2.2] at h4 h5 h6
  simp [nb, gb] at h4 h5 h6
  omega
theorem fmb_lost : fmb 65533 = [239, 191, 189] := by decide
/-- what the text bears there is the form of U+FFFD just if it is decoded as one of three bytes -/
theorem lost_iff (l : List UInt8) (hl : 0 < l.length) (h : (dl l).1 = 65533) : (¬ l.length < 3 ∧ l.take 3 = [239, 191, 189]) ↔ ¬ dl l = (65533, 1) := by
  have hw : wd 65533 = 3 := by decide
  constructor
  · rintro ⟨h1, h2⟩ h3
    have := dl_of_begins (l := l) (c := 65533) (by right; decide) ((begins_iff l 65533 (by decide)).2 (by rw [hw, h2, fmb_lost]))
    rw [h3, hw] at this
    cases this
  · intro h3
    rcases dl_cases l hl with ⟨_, _, hb⟩ | ⟨he, _⟩
    · rw [h] at hb
      have := (begins_iff l 65533 (by decide)).1 hb
      rw [hw, fmb_lost] at this
      have hb1 := hb.1
      rw [hw] at hb1
      exact ⟨by omega, this⟩
    · exact absurd he h3
theorem readP_some {l : List UInt8} {k : Nat} (hk : k < l.length) (h : ¬ dl (l.drop k) = (65533, 1)) : okr (dl (l.drop k)).1 ∧ widthS ((dl (l.drop k)).1 : Int) = ((dl (l.drop k)).2 : Int) := by
  rcases dl_cases (l.drop k) (by simp; omega) with ⟨h1, h2, _⟩ | ⟨he, _⟩
  · exact ⟨h1, by rw [widthS_ok h1, h2]⟩
  · exact absurd he h

theorem take_drop_swap (l : List UInt8) (k j : Nat) : (l.take (k + j)).drop k = (l.drop k).take j := by
  rw [List.drop_take]; congr 1; omega
theorem read_any (l : List UInt8) (k : Nat) (hl : l.length ≤ 9223372036854775804) (hk : k < l.length) (w0 : World) (m : Mem) (H : SHeap) :
    Does Try.prog 78 #[str l, .int .i64 (k : Int)] w0 m H (Gives (readP l k).v m H) := by
  have hlen : (l.drop k).length = l.length - k := List.length_drop
  have hli := lost_iff (l.drop k) (by omega)
  have hso := fun h => (readP_some hk h).2
  rw [hlen] at hli
  refine Does.of_body (args := [str l, .int .i64 (k : Int)]) Try.func78 rfl Try.ntmps78 rfl ?_
  (try (refine st ?_; intros))
  apply WC.loop1
  (try (refine st ?_; intros))
  refine WL.rename 15 (u := .int .i32 ((dl (l.drop k)).1 : Int)) rfl rfl ?_
  refine WL.rename 6 (u := .int .i32 ((dl (l.drop k)).1 : Int)) rfl rfl ?_
  refine w_callF Try.func80 ?_ (hs := width_any _ _ _ _)
  rintro _ _ _ ⟨rfl, rfl, rfl⟩
  by_cases hA : dl (l.drop k) = (65533, 1)
  · have h1 : (dl (l.drop k)).1 = 65533 := by rw [hA]
    (try (refine st ?_; intros))
    (first | refine c_ways (fun h2 => ?_) (fun h2 => ?_) | refine c_nways (fun h2 => ?_) (fun h2 => ?_) | refine w_gways (fun h2 => ?_) (fun h2 => ?_) | refine w_gnways (fun h2 => ?_) (fun h2 => ?_))
    · (try (refine st ?_; intros))
      (refine q_fin0 ?_)
      refine Gives.mk ?_
      unfold readP; rw [if_pos hA]; rfl
    · (try (refine st ?_; intros))
      (first | refine c_ways (fun h3 => ?_) (fun h3 => ?_) | refine c_nways (fun h3 => ?_) (fun h3 => ?_) | refine w_gways (fun h3 => ?_) (fun h3 => ?_) | refine w_gnways (fun h3 => ?_) (fun h3 => ?_))
      · (try (refine st ?_; intros))
        (refine q_fin0 ?_)
        refine Gives.mk ?_
        unfold readP; rw [if_pos hA]; rfl
      · exfalso
        rw [take_drop_swap] at h3
        exact (hli h1).1 ⟨by omega, h3⟩ hA
  · have hw := hso hA
    (try (refine st ?_; intros))
    (first | refine c_ways (fun h2 => ?_) (fun h2 => ?_) | refine c_nways (fun h2 => ?_) (fun h2 => ?_) | refine w_gways (fun h2 => ?_) (fun h2 => ?_) | refine w_gnways (fun h2 => ?_) (fun h2 => ?_))
    · have h1 : (dl (l.drop k)).1 = 65533 := by omega
      obtain ⟨h4, h5⟩ := (hli h1).2 hA
      (try (refine st ?_; intros))
      (first | refine c_ways (fun h3 => ?_) (fun h3 => ?_) | refine c_nways (fun h3 => ?_) (fun h3 => ?_) | refine w_gways (fun h3 => ?_) (fun h3 => ?_) | refine w_gnways (fun h3 => ?_) (fun h3 => ?_))
      · exfalso
        rw [take_drop_swap] at h3
        exact h3 h5
      · (try (refine st ?_; intros))
        (refine q_fin0 ?_)
        refine Gives.mk ?_
        unfold readP; rw [if_neg hA, hw]; rfl
    · (try (refine st ?_; intros))
      (refine q_fin0 ?_)
      refine Gives.mk ?_
      unfold readP; rw [if_neg hA, hw]; rfl
end Go.Proofs.Ytelgegefmjlimaa

/-
  The walks of runes.last, Before, shared, Common and Cut, for a seat that does not reach the rest of runes. No condition.
-/
namespace Go.Proofs.Ytelgegefmjlimaa
open Go Go.Eng
set_option maxRecDepth 100000
set_option maxHeartbeats 4000000
set_option linter.all false
attribute [local irreducible] WL WC WQ QFun QLoop Does Q1 QRound QAssign Go.Addr.add
theorem read_z (l : List UInt8) {z : Int} {k : Nat} (hz : z = (k : Int)) (hl : l.length ≤ 9223372036854775804) (hk : k < l.length) (w0 : World) (m : Mem) (H : SHeap) :
    Does Try.prog 78 #[str l, .int .i64 z] w0 m H (Gives (readP l k).v m H) := by subst hz; exact read_any l k hl hk w0 m H
end Go.Proofs.Ytelgegefmjlimaa

/-
  The walks of runes.At and of the program's bounds. No condition.
-/
namespace Go.Eng
open Go
/-- does a piece begin there, or does the text end there? -/
def edgeB (s : List UInt8) (i : Nat) : Bool := decide (i = s.length) || (pieces s).any fun p => decide (p.at_ = i)
theorem edge_iff {s : List UInt8} {i : Nat} (h : i ≤ s.length) : edgeB s i = true ↔ Reach s i := by
  unfold edgeB
  rw [Bool.or_eq_true, decide_eq_true_eq, List.any_eq_true]
  constructor
  · rintro (rfl | ⟨p, hp, he⟩)
    · exact ⟨pieces s, by rw [from_nil (by omega), List.append_nil]⟩
    · obtain ⟨h1, _⟩ := reach_of_mem hp
      rw [decide_eq_true_eq] at he
      rwa [he] at h1
  · intro hr
    rcases Nat.lt_or_eq_of_le h with g | g
    · exact .inr ⟨_, reach_mem hr g, by rw [readP_at]; simp⟩
    · exact .inl g
/-- what is told up to a place -/
def edgesTo (s : List UInt8) (k : Nat) : List Bool := (List.range (s.length + 1)).map fun i => edgeB s i && decide (i < k)
def edgesOf (s : List UInt8) : List Bool := (List.range (s.length + 1)).map (edgeB s)
theorem edgesTo_len (s : List UInt8) (k : Nat) : (edgesTo s k).length = s.length + 1 := by simp [edgesTo]
theorem edges_zero (s : List UInt8) : edgesTo s 0 = List.replicate (s.length + 1) false := by
  unfold edgesTo
  apply List.ext_getElem
  · simp
  · intro i h1 h2; simp
theorem edges_set {s : List UInt8} {k : Nat} (hk : Reach s k) (hkl : k < s.length) : (edgesTo s k).set k true = edgesTo s (k + (readP s k).w) := by
  have hw := readP_w hkl
  apply List.ext_getElem
  · simp [edgesTo]
  · intro i h1 h2
    have hi : i < s.length + 1 := by simpa [edgesTo] using h2
    rw [List.getElem_set]
    split
    · rename_i e
      subst e
      simp only [edgesTo, List.getElem_map, List.getElem_range]
      rw [(edge_iff (by omega)).2 hk, decide_eq_true (by omega)]; rfl
    · rename_i e
      simp only [edgesTo, List.getElem_map, List.getElem_range]
      cases he : edgeB s i with
      | false => rfl
      | true =>
        have hr := (edge_iff (by omega)).1 he
        simp only [Bool.true_and]
        by_cases h3 : i < k
        · rw [decide_eq_true h3, decide_eq_true (by omega)]
        · rw [decide_eq_false h3, decide_eq_false]
          intro h4
          exact not_reach_within hkl hk (by omega) h4 hr
theorem edges_last (s : List UInt8) : (edgesTo s s.length).set s.length true = edgesOf s := by
  apply List.ext_getElem
  · simp [edgesTo, edgesOf]
  · intro i h1 h2
    have hi : i < s.length + 1 := by simpa [edgesOf] using h2
    rw [List.getElem_set]
    split
    · rename_i e
      subst e
      simp [edgesOf, edgeB]
    · rename_i e
      simp only [edgesTo, edgesOf, List.getElem_map, List.getElem_range]
      rw [decide_eq_true (by omega), Bool.and_true]
end Go.Eng
namespace Go.Proofs.Ytelgegefmjlimaa
open Go Go.Eng
set_option maxRecDepth 100000
set_option maxHeartbeats 4000000
set_option linter.all false
attribute [local irreducible] WL WC WQ QFun QLoop Does Q1 QRound QAssign Go.Addr.add
theorem sq_E34_1 {G : Prop} (h : G := by (repeat (first | (refine sp ?_; (repeat intro zzc)) | (refine iF 78 rfl ?_; refine w_callG Try.func78 ?_ (hs := read_z _ (by (first | with_reducible exact natz _ | with_reducible exact natz0 | with_reducible exact natz1 | with_reducible exact natz2 | with_reducible exact natz3 | with_reducible exact natz4 | with_reducible exact natz8 | (apply natz_add; (· first | with_reducible exact natz _ | with_reducible exact natz0 | with_reducible exact natz1 | with_reducible exact natz2 | with_reducible exact natz3 | with_reducible exact natz4 | with_reducible exact natz8); (· first | with_reducible exact natz _ | with_reducible exact natz0 | with_reducible exact natz1 | with_reducible exact natz2 | with_reducible exact natz3 | with_reducible exact natz4 | with_reducible exact natz8)) | (apply natz_sub; (· first | with_reducible exact natz _ | with_reducible exact natz0 | with_reducible exact natz1 | with_reducible exact natz2 | with_reducible exact natz3 | with_reducible exact natz4 | with_reducible exact natz8); (· first | with_reducible exact natz _ | with_reducible exact natz0 | with_reducible exact natz1 | with_reducible exact natz2 | with_reducible exact natz3 | with_reducible exact natz4 | with_reducible exact natz8); (· omega)) | exact (Int.toNat_of_nonneg (by omega)).symm)) (by omega) (by omega) _ _ _)))); exact WQ.q1 rfl) : G := h
theorem st_E34_1 {G G' : Prop} (next : G') (h : Bx G' → G := by intro zzn; (first | ((refine st ?_; (repeat intro zzc)); (try ((first | (refine iF 78 rfl ?_; refine w_callG Try.func78 ?_ (hs := read_z _ (by (first | with_reducible exact natz _ | with_reducible exact natz0 | with_reducible exact natz1 | with_reducible exact natz2 | with_reducible exact natz3 | with_reducible exact natz4 | with_reducible exact natz8 | (apply natz_add; (· first | with_reducible exact natz _ | with_reducible exact natz0 | with_reducible exact natz1 | with_reducible exact natz2 | with_reducible exact natz3 | with_reducible exact natz4 | with_reducible exact natz8); (· first | with_reducible exact natz _ | with_reducible exact natz0 | with_reducible exact natz1 | with_reducible exact natz2 | with_reducible exact natz3 | with_reducible exact natz4 | with_reducible exact natz8)) | (apply natz_sub; (· first | with_reducible exact natz _ | with_reducible exact natz0 | with_reducible exact natz1 | with_reducible exact natz2 | with_reducible exact natz3 | with_reducible exact natz4 | with_reducible exact natz8); (· first | with_reducible exact natz _ | with_reducible exact natz0 | with_reducible exact natz1 | with_reducible exact natz2 | with_reducible exact natz3 | with_reducible exact natz4 | with_reducible exact natz8); (· omega)) | exact (Int.toNat_of_nonneg (by omega)).symm)) (by omega) (by omega) _ _ _)) | ((refine iDraw ?_; (first | refine WC.drawAll rfl (by decide +kernel) ?_ | refine WC.draw 1 rfl (by decide +kernel) ?_ | refine WC.draw 2 rfl (by decide +kernel) ?_ | refine WC.draw 3 rfl (by decide +kernel) ?_ | refine WC.draw 4 rfl (by decide +kernel) ?_ | refine WC.draw 5 rfl (by decide +kernel) ?_ | refine WC.draw 6 rfl (by decide +kernel) ?_ | refine WC.draw 7 rfl (by decide +kernel) ?_ | refine WC.draw 8 rfl (by decide +kernel) ?_ | refine WC.draw 9 rfl (by decide +kernel) ?_ | refine WC.draw 10 rfl (by decide +kernel) ?_ | refine WC.draw 11 rfl (by decide +kernel) ?_ | refine WC.draw 12 rfl (by decide +kernel) ?_ | refine WC.draw 13 rfl (by decide +kernel) ?_ | refine WC.draw 14 rfl (by decide +kernel) ?_ | refine WC.draw 15 rfl (by decide +kernel) ?_ | refine WC.draw 16 rfl (by decide +kernel) ?_ | refine WC.draw 17 rfl (by decide +kernel) ?_ | refine WC.draw 18 rfl (by decide +kernel) ?_ | refine WC.draw 19 rfl (by decide +kernel) ?_ | refine WC.draw 20 rfl (by decide +kernel) ?_ | refine WC.draw 21 rfl (by decide +kernel) ?_ | refine WC.draw 22 rfl (by decide +kernel) ?_ | refine WC.draw 23 rfl (by decide +kernel) ?_ | refine WC.draw 24 rfl (by decide +kernel) ?_)); (repeat (refine WD.cons rfl (fun c h => by cases h) sq_E34_1 ?_)); refine WD.nil ?_)); (try (refine st ?_; (repeat intro zzc)))))) | ((first | (refine iF 78 rfl ?_; refine w_callG Try.func78 ?_ (hs := read_z _ (by (first | with_reducible exact natz _ | with_reducible exact natz0 | with_reducible exact natz1 | with_reducible exact natz2 | with_reducible exact natz3 | with_reducible exact natz4 | with_reducible exact natz8 | (apply natz_add; (· first | with_reducible exact natz _ | with_reducible exact natz0 | with_reducible exact natz1 | with_reducible exact natz2 | with_reducible exact natz3 | with_reducible exact natz4 | with_reducible exact natz8); (· first | with_reducible exact natz _ | with_reducible exact natz0 | with_reducible exact natz1 | with_reducible exact natz2 | with_reducible exact natz3 | with_reducible exact natz4 | with_reducible exact natz8)) | (apply natz_sub; (· first | with_reducible exact natz _ | with_reducible exact natz0 | with_reducible exact natz1 | with_reducible exact natz2 | with_reducible exact natz3 | with_reducible exact natz4 | with_reducible exact natz8); (· first | with_reducible exact natz _ | with_reducible exact natz0 | with_reducible exact natz1 | with_reducible exact natz2 | with_reducible exact natz3 | with_reducible exact natz4 | with_reducible exact natz8); (· omega)) | exact (Int.toNat_of_nonneg (by omega)).symm)) (by omega) (by omega) _ _ _)) | ((refine iDraw ?_; (first | refine WC.drawAll rfl (by decide +kernel) ?_ | refine WC.draw 1 rfl (by decide +kernel) ?_ | refine WC.draw 2 rfl (by decide +kernel) ?_ | refine WC.draw 3 rfl (by decide +kernel) ?_ | refine WC.draw 4 rfl (by decide +kernel) ?_ | refine WC.draw 5 rfl (by decide +kernel) ?_ | refine WC.draw 6 rfl (by decide +kernel) ?_ | refine WC.draw 7 rfl (by decide +kernel) ?_ | refine WC.draw 8 rfl (by decide +kernel) ?_ | refine WC.draw 9 rfl (by decide +kernel) ?_ | refine WC.draw 10 rfl (by decide +kernel) ?_ | refine WC.draw 11 rfl (by decide +kernel) ?_ | refine WC.draw 12 rfl (by decide +kernel) ?_ | refine WC.draw 13 rfl (by decide +kernel) ?_ | refine WC.draw 14 rfl (by decide +kernel) ?_ | refine WC.draw 15 rfl (by decide +kernel) ?_ | refine WC.draw 16 rfl (by decide +kernel) ?_ | refine WC.draw 17 rfl (by decide +kernel) ?_ | refine WC.draw 18 rfl (by decide +kernel) ?_ | refine WC.draw 19 rfl (by decide +kernel) ?_ | refine WC.draw 20 rfl (by decide +kernel) ?_ | refine WC.draw 21 rfl (by decide +kernel) ?_ | refine WC.draw 22 rfl (by decide +kernel) ?_ | refine WC.draw 23 rfl (by decide +kernel) ?_ | refine WC.draw 24 rfl (by decide +kernel) ?_)); (repeat (refine WD.cons rfl (fun c h => by cases h) sq_E34_1 ?_)); refine WD.nil ?_)); (try (refine st ?_; (repeat intro zzc))))); (repeat ((first | (refine iF 78 rfl ?_; refine w_callG Try.func78 ?_ (hs := read_z _ (by (first | with_reducible exact natz _ | with_reducible exact natz0 | with_reducible exact natz1 | with_reducible exact natz2 | with_reducible exact natz3 | with_reducible exact natz4 | with_reducible exact natz8 | (apply natz_add; (· first | with_reducible exact natz _ | with_reducible exact natz0 | with_reducible exact natz1 | with_reducible exact natz2 | with_reducible exact natz3 | with_reducible exact natz4 | with_reducible exact natz8); (· first | with_reducible exact natz _ | with_reducible exact natz0 | with_reducible exact natz1 | with_reducible exact natz2 | with_reducible exact natz3 | with_reducible exact natz4 | with_reducible exact natz8)) | (apply natz_sub; (· first | with_reducible exact natz _ | with_reducible exact natz0 | with_reducible exact natz1 | with_reducible exact natz2 | with_reducible exact natz3 | with_reducible exact natz4 | with_reducible exact natz8); (· first | with_reducible exact natz _ | with_reducible exact natz0 | with_reducible exact natz1 | with_reducible exact natz2 | with_reducible exact natz3 | with_reducible exact natz4 | with_reducible exact natz8); (· omega)) | exact (Int.toNat_of_nonneg (by omega)).symm)) (by omega) (by omega) _ _ _)) | ((refine iDraw ?_; (first | refine WC.drawAll rfl (by decide +kernel) ?_ | refine WC.draw 1 rfl (by decide +kernel) ?_ | refine WC.draw 2 rfl (by decide +kernel) ?_ | refine WC.draw 3 rfl (by decide +kernel) ?_ | refine WC.draw 4 rfl (by decide +kernel) ?_ | refine WC.draw 5 rfl (by decide +kernel) ?_ | refine WC.draw 6 rfl (by decide +kernel) ?_ | refine WC.draw 7 rfl (by decide +kernel) ?_ | refine WC.draw 8 rfl (by decide +kernel) ?_ | refine WC.draw 9 rfl (by decide +kernel) ?_ | refine WC.draw 10 rfl (by decide +kernel) ?_ | refine WC.draw 11 rfl (by decide +kernel) ?_ | refine WC.draw 12 rfl (by decide +kernel) ?_ | refine WC.draw 13 rfl (by decide +kernel) ?_ | refine WC.draw 14 rfl (by decide +kernel) ?_ | refine WC.draw 15 rfl (by decide +kernel) ?_ | refine WC.draw 16 rfl (by decide +kernel) ?_ | refine WC.draw 17 rfl (by decide +kernel) ?_ | refine WC.draw 18 rfl (by decide +kernel) ?_ | refine WC.draw 19 rfl (by decide +kernel) ?_ | refine WC.draw 20 rfl (by decide +kernel) ?_ | refine WC.draw 21 rfl (by decide +kernel) ?_ | refine WC.draw 22 rfl (by decide +kernel) ?_ | refine WC.draw 23 rfl (by decide +kernel) ?_ | refine WC.draw 24 rfl (by decide +kernel) ?_)); (repeat (refine WD.cons rfl (fun c h => by cases h) sq_E34_1 ?_)); refine WD.nil ?_)); (try (refine st ?_; (repeat intro zzc))))); (repeat revert zzc); exact zzn.out) : G := h ⟨next⟩
theorem at_in (l : List UInt8) (k : Nat) (hl : l.length ≤ 9223372036854775804) (hk : k < l.length) (w0 : World) (m : Mem) (H : SHeap) :
    Does Try.prog 76 #[str l, .int .i64 (k : Int)] w0 m H (Gives (.tuple #[(readP l k).v, .int .i64 0]) m H) := by
  refine Does.of_body (args := [str l, .int .i64 (k : Int)]) Try.func76 rfl Try.ntmps76 rfl ?_
  (try (refine st_E34_1 ?_; intros))
  (refine q_fin0 ?_)
  exact Gives.mk rfl
theorem sq_E34_2 {G : Prop} (h : G := by (repeat (first | (refine sp ?_; (repeat intro zzc)))); exact WQ.q1 rfl) : G := h
theorem st_E34_2 {G G' : Prop} (next : G') (h : Bx G' → G := by intro zzn; (first | ((refine st ?_; (repeat intro zzc)); (try ((first | ((refine iDraw ?_; (first | refine WC.drawAll rfl (by decide +kernel) ?_ | refine WC.draw 1 rfl (by decide +kernel) ?_ | refine WC.draw 2 rfl (by decide +kernel) ?_ | refine WC.draw 3 rfl (by decide +kernel) ?_ | refine WC.draw 4 rfl (by decide +kernel) ?_ | refine WC.draw 5 rfl (by decide +kernel) ?_ | refine WC.draw 6 rfl (by decide +kernel) ?_ | refine WC.draw 7 rfl (by decide +kernel) ?_ | refine WC.draw 8 rfl (by decide +kernel) ?_ | refine WC.draw 9 rfl (by decide +kernel) ?_ | refine WC.draw 10 rfl (by decide +kernel) ?_ | refine WC.draw 11 rfl (by decide +kernel) ?_ | refine WC.draw 12 rfl (by decide +kernel) ?_ | refine WC.draw 13 rfl (by decide +kernel) ?_ | refine WC.draw 14 rfl (by decide +kernel) ?_ | refine WC.draw 15 rfl (by decide +kernel) ?_ | refine WC.draw 16 rfl (by decide +kernel) ?_ | refine WC.draw 17 rfl (by decide +kernel) ?_ | refine WC.draw 18 rfl (by decide +kernel) ?_ | refine WC.draw 19 rfl (by decide +kernel) ?_ | refine WC.draw 20 rfl (by decide +kernel) ?_ | refine WC.draw 21 rfl (by decide +kernel) ?_ | refine WC.draw 22 rfl (by decide +kernel) ?_ | refine WC.draw 23 rfl (by decide +kernel) ?_ | refine WC.draw 24 rfl (by decide +kernel) ?_)); (repeat (refine WD.cons rfl (fun c h => by cases h) sq_E34_2 ?_)); refine WD.nil ?_)); (try (refine st ?_; (repeat intro zzc)))))) | ((first | ((refine iDraw ?_; (first | refine WC.drawAll rfl (by decide +kernel) ?_ | refine WC.draw 1 rfl (by decide +kernel) ?_ | refine WC.draw 2 rfl (by decide +kernel) ?_ | refine WC.draw 3 rfl (by decide +kernel) ?_ | refine WC.draw 4 rfl (by decide +kernel) ?_ | refine WC.draw 5 rfl (by decide +kernel) ?_ | refine WC.draw 6 rfl (by decide +kernel) ?_ | refine WC.draw 7 rfl (by decide +kernel) ?_ | refine WC.draw 8 rfl (by decide +kernel) ?_ | refine WC.draw 9 rfl (by decide +kernel) ?_ | refine WC.draw 10 rfl (by decide +kernel) ?_ | refine WC.draw 11 rfl (by decide +kernel) ?_ | refine WC.draw 12 rfl (by decide +kernel) ?_ | refine WC.draw 13 rfl (by decide +kernel) ?_ | refine WC.draw 14 rfl (by decide +kernel) ?_ | refine WC.draw 15 rfl (by decide +kernel) ?_ | refine WC.draw 16 rfl (by decide +kernel) ?_ | refine WC.draw 17 rfl (by decide +kernel) ?_ | refine WC.draw 18 rfl (by decide +kernel) ?_ | refine WC.draw 19 rfl (by decide +kernel) ?_ | refine WC.draw 20 rfl (by decide +kernel) ?_ | refine WC.draw 21 rfl (by decide +kernel) ?_ | refine WC.draw 22 rfl (by decide +kernel) ?_ | refine WC.draw 23 rfl (by decide +kernel) ?_ | refine WC.draw 24 rfl (by decide +kernel) ?_)); (repeat (refine WD.cons rfl (fun c h => by cases h) sq_E34_2 ?_)); refine WD.nil ?_)); (try (refine st ?_; (repeat intro zzc))))); (repeat ((first | ((refine iDraw ?_; (first | refine WC.drawAll rfl (by decide +kernel) ?_ | refine WC.draw 1 rfl (by decide +kernel) ?_ | refine WC.draw 2 rfl (by decide +kernel) ?_ | refine WC.draw 3 rfl (by decide +kernel) ?_ | refine WC.draw 4 rfl (by decide +kernel) ?_ | refine WC.draw 5 rfl (by decide +kernel) ?_ | refine WC.draw 6 rfl (by decide +kernel) ?_ | refine WC.draw 7 rfl (by decide +kernel) ?_ | refine WC.draw 8 rfl (by decide +kernel) ?_ | refine WC.draw 9 rfl (by decide +kernel) ?_ | refine WC.draw 10 rfl (by decide +kernel) ?_ | refine WC.draw 11 rfl (by decide +kernel) ?_ | refine WC.draw 12 rfl (by decide +kernel) ?_ | refine WC.draw 13 rfl (by decide +kernel) ?_ | refine WC.draw 14 rfl (by decide +kernel) ?_ | refine WC.draw 15 rfl (by decide +kernel) ?_ | refine WC.draw 16 rfl (by decide +kernel) ?_ | refine WC.draw 17 rfl (by decide +kernel) ?_ | refine WC.draw 18 rfl (by decide +kernel) ?_ | refine WC.draw 19 rfl (by decide +kernel) ?_ | refine WC.draw 20 rfl (by decide +kernel) ?_ | refine WC.draw 21 rfl (by decide +kernel) ?_ | refine WC.draw 22 rfl (by decide +kernel) ?_ | refine WC.draw 23 rfl (by decide +kernel) ?_ | refine WC.draw 24 rfl (by decide +kernel) ?_)); (repeat (refine WD.cons rfl (fun c h => by cases h) sq_E34_2 ?_)); refine WD.nil ?_)); (try (refine st ?_; (repeat intro zzc))))); (repeat revert zzc); exact zzn.out) : G := h ⟨next⟩
attribute [local irreducible] readP pieces dl from_ edgesTo edgesOf edgeB
theorem bounds_any (s : List UInt8) (hs : s.length ≤ 1000000) (w0 : World) (m : Mem) (H : SHeap) :
    Does Try.prog 75 #[str s] w0 m H (fun v m' H' => m' = m ∧ ∃ q, v = .slice (some ⟨q, 0, none⟩) (s.length + 1) (s.length + 1) ∧ H' = .row (some ⟨q, 0, none⟩) (s.length + 1) 4 1 ((edgesOf s).map oV) :: H) := by
  refine Does.of_body (args := [str s]) Try.func75 rfl Try.ntmps75 rfl ?_
  have ez : List.replicate (s.length + 1) [Value.bool false] = (edgesTo s 0).map oV := by rw [edges_zero]; simp [oV]
  (try (refine st_E34_2 ?_; intros))
  refine WL.makeRow (k:=s.length + 1) (sz:=1) (by':=1) (zs:=[.bool false]) rfl rfl (by omega) (by omega) rfl rfl rfl rfl rfl rfl (by decide) (by omega) (by omega) rfl ?_
  intro q
  rw [ez]
  (refine st_E34_2 ?_; intros; rename_i it)
  refine WC.loopH [(10, .pointer (some ⟨it, 0, none⟩)), (3, .slice (some ⟨q, 0, none⟩) (s.length + 1) (s.length + 1)), (0, str s)] ?_ ?_ (fun j r ds m' H' => ∃ (k : Nat), j = 2 * (s.length - k) ∧ r = [(10, .pointer (some ⟨it, 0, none⟩)), (3, .slice (some ⟨q, 0, none⟩) (s.length + 1) (s.length + 1)), (0, str s)] ∧ ds = [] ∧ m = m' ∧ H' = .blk it (.stringIter ⟨s.toArray⟩ k) :: .row (some ⟨q, 0, none⟩) (s.length + 1) 4 1 ((edgesTo s k).map oV) :: H ∧ (Go.Eng.Reach s k) ∧ (k ≤ s.length)) (2 * (s.length - (0))) ⟨0, rfl, rfl, rfl, rfl, rfl, Reach.zero s, Nat.zero_le _⟩ ?_
  · (repeat (first | exact Env.Sub.nil | refine Env.Sub.cons rfl ?_))
  · exact zpk
  rintro j r ds m' H' ⟨k, rfl, rfl, rfl, rfl, rfl, hk, hkl⟩
  have hel : ((edgesTo s k).map oV).length = s.length + 1 := by rw [List.length_map, edgesTo_len]
  by_cases hlt : k < s.length
  · have hw := readP_w hlt
    have hwe := readP_w_eq s k
    have eset : ((edgesTo s k).map oV).set k [.bool true] = (edgesTo s (k + (readP s k).w)).map oV := by rw [← edges_set hk hlt, List.map_set]; rfl
    have hst := hk.step hlt
    rw [hwe] at eset hst
    (try (refine st_E34_2 ?_; intros))
    rw [eset]
    refine WQ.next (2 * (s.length - (k + (dl (s.drop k)).2))) ⟨k + (dl (s.drop k)).2, rfl, rfl, rfl, rfl, rfl, ?_, ?_⟩ (by omega) zsb zpk
    · exact hst
    · omega
  · obtain rfl : k = s.length := by omega
    have eset : ((edgesTo s s.length).map oV).set s.length [.bool true] = (edgesOf s).map oV := by rw [← edges_last, List.map_set]; rfl
    (try (refine st_E34_2 ?_; intros))
    rw [eset]
    exact q_fin0 (H0 := .row (some ⟨q, 0, none⟩) (s.length + 1) 4 1 ((edgesOf s).map oV) :: H) ⟨rfl, q, rfl, rfl⟩ (hd := zpk)
end Go.Proofs.Ytelgegefmjlimaa

/-
  Plain facts on changes: in the one form no two kept rows stand side by side. No condition.
-/
namespace Go.Eng
open Go
def noKK : List Stp → Prop
  | x :: y :: l => ¬ (0 < x.k ∧ 0 < y.k) ∧ noKK (y :: l)
  | _ => True
theorem noKK_snoc : ∀ (l : List Stp) (x : Stp), noKK l → (∀ y, l.getLast? = some y → ¬ (0 < y.k ∧ 0 < x.k)) → noKK (l ++ [x])
  | [], x, _, _ => trivial
  | [y], x, _, h => ⟨h y rfl, trivial⟩
  | y :: z :: l, x, h1, h2 => ⟨h1.1, noKK_snoc (z :: l) x h1.2 (fun u hu => h2 u (by rw [List.getLast?_cons_cons]; exact hu))⟩
theorem noKK_init : ∀ (l : List Stp) (x : Stp), noKK (l ++ [x]) → noKK l ∧ (∀ y, l.getLast? = some y → ¬ (0 < y.k ∧ 0 < x.k))
  | [], x, _ => ⟨trivial, fun y h => by cases h⟩
  | [y], x, h => ⟨trivial, fun u hu => by simp at hu; subst hu; exact h.1⟩
  | y :: z :: l, x, h => by
    obtain ⟨a, b⟩ := noKK_init (z :: l) x h.2
    exact ⟨⟨h.1, a⟩, fun u hu => b u (by rw [List.getLast?_cons_cons] at hu; exact hu)⟩
theorem noKK_opt {l : List Stp} {x : Stp} {c : Prop} [Decidable c] (h : noKK l) (hx : ¬ 0 < x.k) : noKK (l ++ if c then [] else [x]) := by
  split
  · rw [List.append_nil]; exact h
  · exact noKK_snoc _ _ h (fun y _ hh => hx hh.2)
theorem close_noKK {B : Bld} (h : noKK B.l) : noKK B.close.l := by
  unfold Bld.close
  exact noKK_opt (noKK_opt h (by simp)) (by simp)
theorem addKeep_noKK {l : List Stp} {n : Int} (h : noKK l) (hok : ∀ s ∈ l, stpOk s) : noKK (addKeep l n) := by
  unfold addKeep
  cases hl : l.getLast? with
  | none => exact trivial
  | some s =>
    obtain ⟨ys, e⟩ := List.getLast?_eq_some_iff.1 hl
    have e2 : l.dropLast = ys := by rw [e]; simp
    simp only
    split
    · rename_i hs
      rw [e2]
      rw [e] at h
      obtain ⟨h1, h2⟩ := noKK_init ys s h
      exact noKK_snoc ys _ h1 (fun y hy hh => h2 y hy ⟨hh.1, hs⟩)
    · rename_i hs
      exact noKK_snoc l _ h (fun y hy hh => by rw [hl] at hy; cases hy; exact hs hh.1)
theorem keep_noKK {B : Bld} {n : Int} (h : noKK B.l) (hok : ∀ s ∈ B.l, stpOk s) : noKK (B.keep n).l := by
  unfold Bld.keep
  split
  · exact h
  · exact addKeep_noKK (close_noKK h) (close_ok B hok)
theorem gaps_noKK (g : Gs) : noKK (bldGs g).l := by
  have h : ∀ (l : List Gap) (B : Bld), (∀ s ∈ B.l, stpOk s) → B.p = [] → B.d = [] → noKK B.l → noKK (l.foldl bldGap B).l := by
    intro l
    induction l with
    | nil => intro B _ _ _ h; exact h
    | cons x l ih =>
      intro B hok hp hd h
      obtain ⟨_, h2, h3, h4⟩ := bldGap_atoms B x hok hp hd
      exact ih _ h2 h3 h4 (keep_noKK (B := ⟨B.l, B.p ++ x.p, B.d ++ x.d⟩) h hok)
  unfold bldGs
  exact h g.done Bld.start (by simp [Bld.start]) rfl rfl trivial
theorem plain_noKK (l : List Stp) : noKK (plainOf l) := by rw [plain_gaps]; exact close_noKK (gaps_noKK _)
end Go.Eng

/-
  Plain facts: what two texts have alike at their heads and at their ends, piece by piece. No condition.
-/
set_option linter.all false
namespace Go.Eng
open Go
def chunks (l : List UInt8) : List (List UInt8) := (pieces l).map (txt l)
def cplen : List (List UInt8) → List (List UInt8) → Nat
  | x :: X, y :: Y => if x = y then x.length + cplen X Y else 0
  | _, _ => 0
/-- how many bytes two texts have alike from their ends on, by whole pieces -/
def tailOf (s t : List UInt8) : Nat := cplen (chunks s).reverse (chunks t).reverse
end Go.Eng
namespace Go.Eng
open Go
end Go.Eng

/-
  Plain facts on changes: where each byte has gone. No condition.
-/
namespace Go.Eng
open Go
/-- where each byte of a text has gone; -1: it is dropped -/
def goesA : Nat → List Atm → List Int
  | _, [] => []
  | g, .k :: l => (g : Int) :: goesA (g + 1) l
  | g, .d _ :: l => -1 :: goesA g l
  | g, .p _ :: l => goesA (g + 1) l
theorem goes_len : ∀ (g : Nat) (l : List Atm), (goesA g l).length = fromA l
  | _, [] => rfl
  | g, .k :: l => by simp [goesA, fromA, goes_len (g + 1) l]
  | g, .d _ :: l => by simp [goesA, fromA, goes_len g l]
  | g, .p _ :: l => by simp [goesA, fromA, goes_len (g + 1) l]
theorem goes_append : ∀ (g : Nat) (x y : List Atm), goesA g (x ++ y) = goesA g x ++ goesA (g + toA x) y
  | g, [], y => by simp [goesA, toA]
  | g, .k :: x, y => by
    rw [List.cons_append, goesA, goes_append (g + 1) x y, goesA, toA, List.cons_append]
    congr 3; omega
  | g, .d _ :: x, y => by
    rw [List.cons_append, goesA, goes_append g x y, goesA, toA, List.cons_append]
  | g, .p _ :: x, y => by
    rw [List.cons_append, goesA, goes_append (g + 1) x y, goesA, toA]
    congr 2; omega
theorem goes_ps (g : Nat) : ∀ P : List UInt8, goesA g (P.map .p) = []
  | [] => rfl
  | _ :: P => by rw [List.map_cons, goesA, goes_ps (g + 1) P]
theorem goes_ds (g : Nat) : ∀ D : List UInt8, goesA g (D.map .d) = List.replicate D.length (-1)
  | [] => rfl
  | _ :: D => by rw [List.map_cons, goesA, goes_ds g D]; rfl
theorem goes_ks : ∀ (g n : Nat), goesA g (List.replicate n .k) = (List.range n).map fun i => ((g + i : Nat) : Int)
  | _, 0 => rfl
  | g, n + 1 => by
    rw [List.replicate_succ, goesA, goes_ks (g + 1) n, List.range_succ_eq_map, List.map_cons, List.map_map]
    congr 1
    refine List.map_congr_left fun i _ => ?_
    simp only [Function.comp]
    congr 1; omega
end Go.Eng

/-
  Plain facts on changes: where kept bytes have gone; pieces that are kept whole. No condition.
-/
namespace Go.Eng
open Go
theorem goes_ge : ∀ (l : List Atm) (g : Nat), ∀ v ∈ goesA g l, v = -1 ∨ (g : Int) ≤ v
  | [], g, v, h => by cases h
  | .k :: l, g, v, h => by
    rw [goesA, List.mem_cons] at h
    rcases h with h | h
    · omega
    · rcases goes_ge l (g + 1) v h with h | h <;> omega
  | .d _ :: l, g, v, h => by
    rw [goesA, List.mem_cons] at h
    rcases h with h | h
    · exact .inl h
    · exact goes_ge l g v h
  | .p _ :: l, g, v, h => by
    rw [goesA] at h
    rcases goes_ge l (g + 1) v h with h | h <;> omega
theorem goes_lt : ∀ (l : List Atm) (g : Nat), ∀ v ∈ goesA g l, v < ((g + toA l : Nat) : Int)
  | [], g, v, h => by cases h
  | .k :: l, g, v, h => by
    rw [goesA, List.mem_cons] at h
    rw [toA]
    rcases h with h | h
    · omega
    · have := goes_lt l (g + 1) v h; omega
  | .d _ :: l, g, v, h => by
    rw [goesA, List.mem_cons] at h
    rw [toA]
    rcases h with h | h
    · omega
    · exact goes_lt l g v h
  | .p _ :: l, g, v, h => by
    rw [goesA] at h
    rw [toA]
    have := goes_lt l (g + 1) v h; omega
theorem goes_rise : ∀ (l : List Atm) (g : Nat), (goesA g l).Pairwise (fun a b => 0 ≤ a → 0 ≤ b → a < b)
  | [], g => .nil
  | .k :: l, g => by
    rw [goesA]
    refine .cons ?_ (goes_rise l (g + 1))
    intro v h _ h0
    rcases goes_ge l (g + 1) v h with h | h <;> omega
  | .d _ :: l, g => by
    rw [goesA]
    exact .cons (fun v _ h => by omega) (goes_rise l g)
  | .p _ :: l, g => by rw [goesA]; exact goes_rise l (g + 1)
theorem goes_byte : ∀ (l : List Atm) (g : Nat) (s t : List UInt8), applyA s l = some t → ∀ (i : Nat) (v : Int), (goesA g l)[i]? = some v → 0 ≤ v → s[i]? = t[(v - g).toNat]?
  | [], g, s, t, _, i, v, h, _ => by simp [goesA] at h
  | .p b :: l, g, s, t, ha, i, v, h, h0 => by
    rw [applyA_p] at ha
    obtain ⟨t', h1, rfl⟩ := Option.map_eq_some_iff.1 ha
    rw [goesA] at h
    have hg := goes_ge l (g + 1) v (List.mem_of_getElem? h)
    rw [goes_byte l (g + 1) s t' h1 i v h h0, show (v - (g : Int)).toNat = (v - ((g + 1 : Nat) : Int)).toNat + 1 by omega, List.getElem?_cons_succ]
  | .k :: l, g, [], t, ha, i, v, h, h0 => by cases ha
  | .d b :: l, g, [], t, ha, i, v, h, h0 => by cases ha
  | .k :: l, g, c :: s, t, ha, i, v, h, h0 => by
    rw [applyA] at ha
    obtain ⟨t', h1, rfl⟩ := Option.map_eq_some_iff.1 ha
    rw [goesA] at h
    cases i with
    | zero =>
      rw [List.getElem?_cons_zero] at h
      cases h
      rw [show ((g : Int) - (g : Int)).toNat = 0 by omega]; rfl
    | succ i =>
      rw [List.getElem?_cons_succ] at h
      have hg := goes_ge l (g + 1) v (List.mem_of_getElem? h)
      rw [List.getElem?_cons_succ, goes_byte l (g + 1) s t' h1 i v h h0, show (v - (g : Int)).toNat = (v - ((g + 1 : Nat) : Int)).toNat + 1 by omega, List.getElem?_cons_succ]
  | .d b :: l, g, c :: s, t, ha, i, v, h, h0 => by
    rw [applyA] at ha
    split at ha
    · rw [goesA] at h
      cases i with
      | zero =>
        rw [List.getElem?_cons_zero] at h
        cases h
        omega
      | succ i =>
        rw [List.getElem?_cons_succ] at h
        rw [List.getElem?_cons_succ, goes_byte l g s t ha i v h h0]
    · cases ha
def gAt (G : List Int) (i : Nat) : Int := G.getD i (-1)
theorem gAt_some {G : List Int} {i : Nat} (h : 0 ≤ gAt G i) : ∃ h : i < G.length, G[i]? = some (gAt G i) ∧ G[i] = gAt G i := by
  unfold gAt at *
  rw [List.getD_eq_getElem?_getD] at *
  cases hg : G[i]? with
  | none => rw [hg] at h; simp at h
  | some v => obtain ⟨a, b⟩ := List.getElem?_eq_some_iff.1 hg; exact ⟨a, rfl, b⟩
theorem gAt_get {G : List Int} {i : Nat} (h : i < G.length) : G[i]? = some (gAt G i) := by
  unfold gAt
  rw [List.getD_eq_getElem?_getD, List.getElem?_eq_getElem h]; rfl
structure Wfit (s t : List UInt8) (G : List Int) : Prop where
  len : G.length = s.length
  lt : ∀ i, 0 ≤ gAt G i → gAt G i < (t.length : Int)
  rise : ∀ i j, i < j → 0 ≤ gAt G i → 0 ≤ gAt G j → gAt G i < gAt G j
  byte : ∀ i, 0 ≤ gAt G i → s[i]? = t[(gAt G i).toNat]?
theorem goes_fit {s t : List UInt8} {A : List Atm} (ha : applyA s A = some t) (hf : fromA A = s.length) : Wfit s t (goesA 0 A) := by
  refine ⟨by rw [goes_len, hf], ?_, ?_, ?_⟩
  · intro i h
    obtain ⟨h1, h2, _⟩ := gAt_some h
    have := goes_lt A 0 _ (List.mem_of_getElem? h2)
    rw [apply_len _ _ _ ha]; omega
  · intro i j hij h1 h2
    obtain ⟨a1, _, a3⟩ := gAt_some h1
    obtain ⟨b1, _, b3⟩ := gAt_some h2
    have := List.pairwise_iff_getElem.1 (goes_rise A 0) i j a1 b1 hij
    rw [a3, b3] at this
    exact this h1 h2
  · intro i h
    obtain ⟨h1, h2, _⟩ := gAt_some h
    rw [goes_byte A 0 s t ha i _ h2 h]; simp
theorem kept_shape {x : Stp} (hx : 0 < x.k) (hok : stpOk x) : x.d = [] ∧ x.p = [] := by
  rcases hok with h | h | h
  · exact h.2
  · omega
  · omega
/-- a kept row, a dropped row of a change in the one form -/
theorem goes_kept {pre post : List Stp} {x : Stp} (hx : 0 < x.k) (hok : stpOk x) {q : Nat} (hq : q < x.k.toNat) :
    gAt (goesA 0 (atomsOf (pre ++ x :: post))) (fromA (atomsOf pre) + q) = ((toA (atomsOf pre) + q : Nat) : Int) := by
  obtain ⟨e1, e2⟩ := kept_shape hx hok
  have ex : x.atoms = List.replicate x.k.toNat .k := by simp [Stp.atoms, e1, e2]
  rw [atoms_append, atoms_cons, goes_append, goes_append, ex, goes_ks]
  unfold gAt
  have h1 := goes_len 0 (atomsOf pre)
  rw [List.getD_eq_getElem?_getD, List.getElem?_append_right (by omega), h1, List.getElem?_append_left (by simp; omega), show fromA (atomsOf pre) + q - fromA (atomsOf pre) = q by omega]
  simp [hq]
theorem goes_drop {pre post : List Stp} {x : Stp} (hx : x.k = 0) {q : Nat} (hq : q < x.d.length) :
    gAt (goesA 0 (atomsOf (pre ++ x :: post))) (fromA (atomsOf pre) + q) = -1 := by
  rw [atoms_append, atoms_cons, goes_append, Stp.atoms, hx, show (0 : Int).toNat = 0 from rfl, List.replicate_zero, List.nil_append, List.append_assoc, goes_append, goes_ds]
  unfold gAt
  have h1 := goes_len 0 (atomsOf pre)
  rw [List.getD_eq_getElem?_getD, List.getElem?_append_right (by omega), h1, List.getElem?_append_left (by simp; omega), show fromA (atomsOf pre) + q - fromA (atomsOf pre) = q by omega]
  simp [hq]
theorem goes_next {pre post : List Stp} {x : Stp} (hx : 0 < x.k) (hn : noKK (pre ++ x :: post)) (hok : ∀ y ∈ pre ++ x :: post, stpOk y) (h0 : 0 ≤ gAt (goesA 0 (atomsOf (pre ++ x :: post))) (fromA (atomsOf pre) + x.k.toNat)) :
    gAt (goesA 0 (atomsOf (pre ++ x :: post))) (fromA (atomsOf pre) + x.k.toNat) ≠ ((toA (atomsOf pre) + x.k.toNat : Nat) : Int) := by
  obtain ⟨e1, e2⟩ := kept_shape hx (hok x (by simp))
  have ex : x.atoms = List.replicate x.k.toNat .k := by simp [Stp.atoms, e1, e2]
  have hkk : noKK (x :: post) := by
    clear h0 hok
    induction pre with
    | nil => exact hn
    | cons y pre ih =>
      cases pre with
      | nil => exact hn.2
      | cons z pre => exact ih hn.2
  obtain ⟨_, h2, _⟩ := gAt_some h0
  generalize gAt (goesA 0 (atomsOf (pre ++ x :: post))) (fromA (atomsOf pre) + x.k.toNat) = v at *
  rw [atoms_append, atoms_cons, goes_append, goes_append, ex] at h2
  have l1 := goes_len 0 (atomsOf pre)
  have l2 := goes_len (0 + toA (atomsOf pre)) (List.replicate x.k.toNat .k)
  rw [fromA_k] at l2
  rw [List.getElem?_append_right (by omega), List.getElem?_append_right (by omega), l1, l2, show fromA (atomsOf pre) + x.k.toNat - fromA (atomsOf pre) - x.k.toNat = 0 by omega, toA_k] at h2
  cases post with
  | nil => simp [atomsOf, goesA] at h2
  | cons y post =>
    rcases hok y (by simp) with ⟨a, _⟩ | ⟨a, b, c⟩ | ⟨a, b, c⟩
    · exact absurd ⟨hx, a⟩ hkk.1
    · obtain ⟨d, ds, hd⟩ : ∃ d ds, y.d = d :: ds := by
        cases hyd : y.d with
        | nil => exact absurd hyd b
        | cons d ds => exact ⟨d, ds, rfl⟩
      rw [atoms_cons, Stp.atoms, a, hd] at h2
      simp [goesA] at h2
      omega
    · obtain ⟨d, ds, hd⟩ : ∃ d ds, y.p = d :: ds := by
        cases hyd : y.p with
        | nil => exact absurd hyd c
        | cons d ds => exact ⟨d, ds, rfl⟩
      rw [atoms_cons, Stp.atoms, a, b, hd, show (0 : Int).toNat = 0 from rfl, List.replicate_zero, List.map_nil, List.nil_append, List.nil_append, List.map_cons, List.cons_append, goesA] at h2
      rcases goes_ge _ _ v (List.mem_of_getElem? h2) with h | h <;> omega
/-- pieces of the same bytes are broken alike -/
theorem broken_to {a b : List UInt8} {i j : Nat} (hi : i < a.length) (hj : j < b.length) (hx : (a.drop i).take (readP a i).w = (b.drop j).take (readP a i).w) (h : (readP a i).b = false) : (readP b j).b = false := by
  rcases dl_cases (a.drop i) (by simp; omega) with ⟨h1, h2, h3⟩ | ⟨h1, _⟩
  · rw [readP_w_eq, h2] at hx
    have h4 := begins_take (hx ▸ begins_of_take h3 (Nat.le_refl _))
    have h5 := dl_of_begins h1 h4
    unfold readP
    rw [h5, if_neg]
    intro h6
    obtain ⟨h6, h7⟩ := Prod.mk.inj h6
    rw [h6] at h7
    revert h7; decide
  · exfalso
    unfold readP at h
    rw [if_pos h1] at h
    cases h
theorem broken_same {a b : List UInt8} {i j : Nat} (hi : i < a.length) (hj : j < b.length) (hw : (readP a i).w = (readP b j).w) (hx : (a.drop i).take (readP a i).w = (b.drop j).take (readP a i).w) : (readP a i).b = (readP b j).b := by
  cases h1 : (readP a i).b with
  | false => rw [broken_to hi hj hx h1]
  | true =>
    cases h2 : (readP b j).b with
    | true => rfl
    | false => rw [broken_to hj hi (by rw [← hw]; exact hx.symm) h2] at h1; cases h1
/-- a place where no piece begins has width 1 -/
theorem off_width {l : List UInt8} {i : Nat} (hi : i < l.length) (h : ¬ Reach l i) : (readP l i).w = 1 := by
  refine readP_b ?_
  cases hb : (readP l i).b with
  | true => rfl
  | false => exact absurd (reach_whole hi hb) h
end Go.Eng

/-
  Plain facts on changes: from one text to another one. No condition.
-/
namespace Go.Eng
open Go
def headOf (s t : List UInt8) : Nat := cutK s (cm ((pieces s).map (wt s)) ((pieces t).map (wt t)) : Nat)
def footOf (s t : List UInt8) : Nat := tailOf (s.drop (headOf s t)) (t.drop (headOf s t))
def betA (s t : List UInt8) : List Atm := List.replicate (headOf s t) .k ++ ((t.take (t.length - footOf s t)).drop (headOf s t)).map .p ++ ((s.take (s.length - footOf s t)).drop (headOf s t)).map .d ++ List.replicate (footOf s t) .k
end Go.Eng

/-
  Plain facts on changes: from one text to another one, piece by piece, by numbers. No condition.
-/
namespace Go.Eng
open Go
/-- where a piece begins, by its number -/
def posN (l : List UInt8) (i : Nat) : Nat := if h : i < (pieces l).length then (pieces l)[i].at_ else l.length
theorem posN_next {l : List UInt8} {i : Nat} (h : i < (pieces l).length) : (pieces l)[i].at_ + (pieces l)[i].w = posN l (i + 1) ∧ (pieces l)[i] ∈ pieces l := by
  have hm : (pieces l)[i] ∈ pieces l := List.getElem_mem h
  refine ⟨?_, hm⟩
  have e : pieces l = (pieces l).take i ++ (pieces l)[i] :: (pieces l).drop (i + 1) := by rw [← List.drop_eq_getElem_cons h, List.take_append_drop]
  obtain ⟨_, h2, h3, h4, _⟩ := from_split l l.length 0 (by omega) _ _ _ (show from_ l 0 = _ from e)
  have hw := readP_w h2
  rw [← h3] at hw
  have h5 := from_cons h2
  rw [← h4, ← h3] at h5
  have h6 := (List.cons.inj h5).2
  unfold posN
  by_cases hn : i + 1 < (pieces l).length
  · rw [dif_pos hn]
    rw [List.drop_eq_getElem_cons hn] at h6
    rcases Nat.lt_or_ge ((pieces l)[i].at_ + (pieces l)[i].w) l.length with g | g
    · rw [from_cons g] at h6
      have := congrArg Pc.at_ (List.cons.inj h6).1
      rw [readP_at] at this
      exact this.symm
    · rw [from_nil (by omega)] at h6; cases h6
  · rw [dif_neg hn, ]
    rw [List.drop_eq_nil_of_le (by omega)] at h6
    rcases Nat.lt_or_ge ((pieces l)[i].at_ + (pieces l)[i].w) l.length with g | g
    · rw [from_cons g] at h6; cases h6
    · omega
theorem posN_end (l : List UInt8) : posN l (pieces l).length = l.length := by unfold posN; rw [dif_neg (by omega)]
theorem posN_at {l : List UInt8} {i : Nat} (h : i < (pieces l).length) : posN l i = (pieces l)[i].at_ := by unfold posN; rw [dif_pos h]
end Go.Eng

