/-
  Parts of a walk, joined: E24 ET31 E42 E23 E25 E41 E43 E17a E44 ET32 E17 E21 E12. No condition.
-/
import Derived.Test.YtelgegefmjlimaaP4
import Derived.Test.YtelgegefmjlimaaP7
import Derived.Test.YtelgegefmjlimaaP5
import Derived.Test.YtelgegefmjlimaaP6
set_option linter.all false
/-
  The walks of the reference's Apply, Plain and Invert, of the law's back, and of the program's Invert. No condition.
-/
namespace Go.Eng
open Go Go.RowKit
end Go.Eng
namespace Go.Proofs.Ytelgegefmjlimaa
open Go Go.Eng
set_option maxRecDepth 100000
set_option maxHeartbeats 4000000
set_option linter.all false
attribute [local irreducible] WL WC WQ QFun QLoop Does Q1 QRound QAssign Go.Addr.add
attribute [local irreducible] sizesF sizesOf putsOf dropsOf bytesOf gapsOf applyA plainOf
theorem sq_E24_1 {G : Prop} (h : G := by (repeat (first | (refine sp ?_; (repeat intro zzc)) | (refine iF 14 rfl ?_; refine w_callG Try.func14 ?_ (hs := refSizes_any (by assumption) _ _ _ (by assumption))))); exact WQ.q1 rfl) : G := h
theorem cm_E24_1 {G G' : Prop} (next : G') (h : Bx G' → G := by intro zzn; (try (refine wcal 0 ?_ (hwl := by intro zm zF zle; exact sq_E24_1))); (try (refine wcal 1 ?_ (hwl := by intro zm zF zle; exact sq_E24_1))); (try (refine wcal 2 ?_ (hwl := by intro zm zF zle; exact sq_E24_1))); (try (refine wcal 3 ?_ (hwl := by intro zm zF zle; exact sq_E24_1))); (try (refine wcal 4 ?_ (hwl := by intro zm zF zle; exact sq_E24_1))); (try (refine wcal 5 ?_ (hwl := by intro zm zF zle; exact sq_E24_1))); (try (refine wcal 6 ?_ (hwl := by intro zm zF zle; exact sq_E24_1))); (try (refine wcal 7 ?_ (hwl := by intro zm zF zle; exact sq_E24_1))); (try (refine wcal 8 ?_ (hwl := by intro zm zF zle; exact sq_E24_1))); (try (refine wcal 9 ?_ (hwl := by intro zm zF zle; exact sq_E24_1))); (try (refine wcal 10 ?_ (hwl := by intro zm zF zle; exact sq_E24_1))); (try (refine wcal 11 ?_ (hwl := by intro zm zF zle; exact sq_E24_1))); (try (refine wcal 12 ?_ (hwl := by intro zm zF zle; exact sq_E24_1))); (try (refine wcal 13 ?_ (hwl := by intro zm zF zle; exact sq_E24_1))); (try (refine wcal 14 ?_ (hwl := by intro zm zF zle; exact sq_E24_1))); (try (refine wcal 15 ?_ (hwl := by intro zm zF zle; exact sq_E24_1))); (try (refine wcal 16 ?_ (hwl := by intro zm zF zle; exact sq_E24_1))); (try (refine wcal 17 ?_ (hwl := by intro zm zF zle; exact sq_E24_1))); (try (refine wcal 18 ?_ (hwl := by intro zm zF zle; exact sq_E24_1))); (try (refine wcal 19 ?_ (hwl := by intro zm zF zle; exact sq_E24_1))); (try (refine wcal 20 ?_ (hwl := by intro zm zF zle; exact sq_E24_1))); (try (refine wcal 21 ?_ (hwl := by intro zm zF zle; exact sq_E24_1))); (try (refine wcal 22 ?_ (hwl := by intro zm zF zle; exact sq_E24_1))); (try (refine wcal 23 ?_ (hwl := by intro zm zF zle; exact sq_E24_1))); (try (refine wcal 24 ?_ (hwl := by intro zm zF zle; exact sq_E24_1))); (try (refine wcal 25 ?_ (hwl := by intro zm zF zle; exact sq_E24_1))); (try (refine wcal 26 ?_ (hwl := by intro zm zF zle; exact sq_E24_1))); (try (refine wcal 27 ?_ (hwl := by intro zm zF zle; exact sq_E24_1))); (try (refine wcal 28 ?_ (hwl := by intro zm zF zle; exact sq_E24_1))); (try (refine wcal 29 ?_ (hwl := by intro zm zF zle; exact sq_E24_1))); (try (refine wcal 30 ?_ (hwl := by intro zm zF zle; exact sq_E24_1))); (try (refine wcal 31 ?_ (hwl := by intro zm zF zle; exact sq_E24_1))); (try (refine wcal 32 ?_ (hwl := by intro zm zF zle; exact sq_E24_1))); (try (refine wcal 33 ?_ (hwl := by intro zm zF zle; exact sq_E24_1))); (try (refine wcal 34 ?_ (hwl := by intro zm zF zle; exact sq_E24_1))); (try (refine wcal 35 ?_ (hwl := by intro zm zF zle; exact sq_E24_1))); (try (refine wcal 36 ?_ (hwl := by intro zm zF zle; exact sq_E24_1))); (try (refine wcal 37 ?_ (hwl := by intro zm zF zle; exact sq_E24_1))); (try (refine wcal 38 ?_ (hwl := by intro zm zF zle; exact sq_E24_1))); (try (refine wcal 39 ?_ (hwl := by intro zm zF zle; exact sq_E24_1))); (try (refine wcal 40 ?_ (hwl := by intro zm zF zle; exact sq_E24_1))); (try (refine wcal 41 ?_ (hwl := by intro zm zF zle; exact sq_E24_1))); exact zzn.out) : G := h ⟨next⟩
theorem st_E24_1 {G G' : Prop} (next : G') (h : Bx G' → G := by intro zzn; (first | ((refine st ?_; (repeat intro zzc)); (try ((first | (refine iF 14 rfl ?_; refine w_callG Try.func14 ?_ (hs := refSizes_any (by assumption) _ _ _ (by assumption))) | ((refine iDraw ?_; (first | refine WC.drawAll rfl (by decide +kernel) ?_ | refine WC.draw 1 rfl (by decide +kernel) ?_ | refine WC.draw 2 rfl (by decide +kernel) ?_ | refine WC.draw 3 rfl (by decide +kernel) ?_ | refine WC.draw 4 rfl (by decide +kernel) ?_ | refine WC.draw 5 rfl (by decide +kernel) ?_ | refine WC.draw 6 rfl (by decide +kernel) ?_ | refine WC.draw 7 rfl (by decide +kernel) ?_ | refine WC.draw 8 rfl (by decide +kernel) ?_ | refine WC.draw 9 rfl (by decide +kernel) ?_ | refine WC.draw 10 rfl (by decide +kernel) ?_ | refine WC.draw 11 rfl (by decide +kernel) ?_ | refine WC.draw 12 rfl (by decide +kernel) ?_ | refine WC.draw 13 rfl (by decide +kernel) ?_ | refine WC.draw 14 rfl (by decide +kernel) ?_ | refine WC.draw 15 rfl (by decide +kernel) ?_ | refine WC.draw 16 rfl (by decide +kernel) ?_ | refine WC.draw 17 rfl (by decide +kernel) ?_ | refine WC.draw 18 rfl (by decide +kernel) ?_ | refine WC.draw 19 rfl (by decide +kernel) ?_ | refine WC.draw 20 rfl (by decide +kernel) ?_ | refine WC.draw 21 rfl (by decide +kernel) ?_ | refine WC.draw 22 rfl (by decide +kernel) ?_ | refine WC.draw 23 rfl (by decide +kernel) ?_ | refine WC.draw 24 rfl (by decide +kernel) ?_)); (repeat (refine WD.cons rfl (fun c h => by cases h) sq_E24_1 ?_)); refine WD.nil ?_)); (try (refine st ?_; (repeat intro zzc)))))) | ((first | (refine iF 14 rfl ?_; refine w_callG Try.func14 ?_ (hs := refSizes_any (by assumption) _ _ _ (by assumption))) | ((refine iDraw ?_; (first | refine WC.drawAll rfl (by decide +kernel) ?_ | refine WC.draw 1 rfl (by decide +kernel) ?_ | refine WC.draw 2 rfl (by decide +kernel) ?_ | refine WC.draw 3 rfl (by decide +kernel) ?_ | refine WC.draw 4 rfl (by decide +kernel) ?_ | refine WC.draw 5 rfl (by decide +kernel) ?_ | refine WC.draw 6 rfl (by decide +kernel) ?_ | refine WC.draw 7 rfl (by decide +kernel) ?_ | refine WC.draw 8 rfl (by decide +kernel) ?_ | refine WC.draw 9 rfl (by decide +kernel) ?_ | refine WC.draw 10 rfl (by decide +kernel) ?_ | refine WC.draw 11 rfl (by decide +kernel) ?_ | refine WC.draw 12 rfl (by decide +kernel) ?_ | refine WC.draw 13 rfl (by decide +kernel) ?_ | refine WC.draw 14 rfl (by decide +kernel) ?_ | refine WC.draw 15 rfl (by decide +kernel) ?_ | refine WC.draw 16 rfl (by decide +kernel) ?_ | refine WC.draw 17 rfl (by decide +kernel) ?_ | refine WC.draw 18 rfl (by decide +kernel) ?_ | refine WC.draw 19 rfl (by decide +kernel) ?_ | refine WC.draw 20 rfl (by decide +kernel) ?_ | refine WC.draw 21 rfl (by decide +kernel) ?_ | refine WC.draw 22 rfl (by decide +kernel) ?_ | refine WC.draw 23 rfl (by decide +kernel) ?_ | refine WC.draw 24 rfl (by decide +kernel) ?_)); (repeat (refine WD.cons rfl (fun c h => by cases h) sq_E24_1 ?_)); refine WD.nil ?_)); (try (refine st ?_; (repeat intro zzc))))); (repeat ((first | (refine iF 14 rfl ?_; refine w_callG Try.func14 ?_ (hs := refSizes_any (by assumption) _ _ _ (by assumption))) | ((refine iDraw ?_; (first | refine WC.drawAll rfl (by decide +kernel) ?_ | refine WC.draw 1 rfl (by decide +kernel) ?_ | refine WC.draw 2 rfl (by decide +kernel) ?_ | refine WC.draw 3 rfl (by decide +kernel) ?_ | refine WC.draw 4 rfl (by decide +kernel) ?_ | refine WC.draw 5 rfl (by decide +kernel) ?_ | refine WC.draw 6 rfl (by decide +kernel) ?_ | refine WC.draw 7 rfl (by decide +kernel) ?_ | refine WC.draw 8 rfl (by decide +kernel) ?_ | refine WC.draw 9 rfl (by decide +kernel) ?_ | refine WC.draw 10 rfl (by decide +kernel) ?_ | refine WC.draw 11 rfl (by decide +kernel) ?_ | refine WC.draw 12 rfl (by decide +kernel) ?_ | refine WC.draw 13 rfl (by decide +kernel) ?_ | refine WC.draw 14 rfl (by decide +kernel) ?_ | refine WC.draw 15 rfl (by decide +kernel) ?_ | refine WC.draw 16 rfl (by decide +kernel) ?_ | refine WC.draw 17 rfl (by decide +kernel) ?_ | refine WC.draw 18 rfl (by decide +kernel) ?_ | refine WC.draw 19 rfl (by decide +kernel) ?_ | refine WC.draw 20 rfl (by decide +kernel) ?_ | refine WC.draw 21 rfl (by decide +kernel) ?_ | refine WC.draw 22 rfl (by decide +kernel) ?_ | refine WC.draw 23 rfl (by decide +kernel) ?_ | refine WC.draw 24 rfl (by decide +kernel) ?_)); (repeat (refine WD.cons rfl (fun c h => by cases h) sq_E24_1 ?_)); refine WD.nil ?_)); (try (refine st ?_; (repeat intro zzc))))); (repeat revert zzc); exact zzn.out) : G := h ⟨next⟩
theorem rApply_any {a : Option Addr} {cap : Nat} {l : List Stp} {s : List UInt8} {f t : Int} (hf : Fit l) (hs : sizesOf l = some (f, t)) (hsl : s.length ≤ 1000000000) (w0 : World) (m : Mem) (H : SHeap) (hr : RowR w0 m H 3 a (l.map Stp.cs)) :
    Does Try.prog 58 #[str s, .slice a l.length cap] w0 m H (Gives (applyV s l) m H) := by
  refine Does.of_body (args := [str s, .slice a l.length cap]) Try.func58 rfl Try.ntmps58 rfl ?_
  have e2 : szR (sizesOf l) = .tuple #[.int .i64 f, .int .i64 t, .bool true] := by rw [hs]; rfl
  obtain ⟨hok, hal, hpl, hfr, _, g1, g2, _, _⟩ := sized hs
  (try (refine st_E24_1 ?_; intros))
  rw [e2]
  by_cases hfs : f = s.length
  · (try (refine st_E24_1 ?_; intros))
    refine w_callF Try.func43 ?_ (hs := say_any hf hs _ _ _ hr)
    rintro _ m _ ⟨rfl, q2, q4, q6, rfl, rfl⟩
    have hda := drops_from l hok
    obtain ⟨la1, la2⟩ := said_len (gapsOf l)
    have hpa : posOf (gapsOf l) = (putsOf (gapsOf l)).zip ((dropsOf (gapsOf l)).zip (bytesOf (gapsOf l))) := rfl
    have hla : lastOf (gapsOf l) = (putsOf (gapsOf l)).getD (dropsOf (gapsOf l)).length [] := rfl
    have hln : (sdA (posOf (gapsOf l)) (lastOf (gapsOf l))).length ≤ 200000 := by rw [sd_atoms]; have := (nf_len hs).1; omega
    have hnf : applyA s (sdA (posOf (gapsOf l)) (lastOf (gapsOf l))) = applyA s (atomsOf l) := by rw [sd_atoms, apply_nf l hok]
    generalize putsOf (gapsOf l) = PX at *
    generalize dropsOf (gapsOf l) = DX at *
    generalize bytesOf (gapsOf l) = BX at *
    generalize posOf (gapsOf l) = XP at *
    generalize lastOf (gapsOf l) = XL at *
    subst hpa
    subst hla
    have hPl : (PX.map sV).length = PX.length := by simp
    have hDl : (DX.map oV).length = DX.length := by simp
    have hBl : (BX.map uV).length = BX.length := by simp
    have hDs : DX.length = s.length := by omega
    (refine st_E24_1 ?_; intros; rename_i x)
    refine WC.newRow (T := 5) (sz := 1) ?_
    refine WC.loopH [(11, .int .i64 ((0) : Int)), (10, .slice (none) (0) (0)), (9, .pointer (some ⟨x, 0, none⟩)), (0, str s)] ?_ ?_ (fun j r ds m' H' => ∃ (p : Nat) (a9 : Option Addr) (c9 : Nat) (n9 : Nat) (O : List UInt8), j = DX.length + 1 - p ∧ r = [(11, .int .i64 (p : Int)), (10, .slice a9 n9 c9), (9, .pointer (some ⟨x, 0, none⟩)), (0, str s)] ∧ ds = [] ∧ m = m' ∧ H' = .row a9 c9 5 1 (O.map bV) :: .blk x (.cells [.slice (some ⟨q2, 0, none⟩) PX.length PX.length, .slice (some ⟨q4, 0, none⟩) DX.length DX.length, .slice (some ⟨q6, 0, none⟩) BX.length BX.length].toArray 92 (0, 0)) :: .row (some ⟨q2, 0, none⟩) PX.length 9 1 (PX.map sV) :: .row (some ⟨q4, 0, none⟩) DX.length 4 1 (DX.map oV) :: .row (some ⟨q6, 0, none⟩) BX.length 5 1 (BX.map uV) :: H ∧ (p ≤ DX.length) ∧ (n9 = O.length) ∧ (O.length + (sdA ((PX.zip (DX.zip BX)).drop p) (PX.getD DX.length [])).length ≤ 200000) ∧ ((applyA (s.drop p) (sdA ((PX.zip (DX.zip BX)).drop p) (PX.getD DX.length []))).map (O ++ ·) = applyA s (atomsOf l))) (DX.length + 1 - (0)) ⟨0, none, 0, 0, ([] : List UInt8), rfl, rfl, rfl, rfl, rfl, by omega, rfl, by rw [List.drop_zero]; simp only [List.length_nil]; omega, by rw [List.drop_zero, List.drop_zero, hnf]; simp⟩ ?_
    · (repeat (first | exact Env.Sub.nil | refine Env.Sub.cons rfl ?_))
    · exact zpk
    rintro j r ds m' H' ⟨p, a9, c9, n9, O, rfl, rfl, rfl, rfl, rfl, hp, hn9, hO, hR⟩
    subst hn9
    have hOl : (O.map bV).length = O.length := by simp
    have hpx : p < PX.length := by omega
    have hgx : (PX.map sV)[p]? = some [str PX[p]] := by rw [List.getElem?_map, List.getElem?_eq_getElem hpx]; rfl
    have em : O.map bV ++ PX[p].map (fun b => [Value.int .u8 (b.toNat : Int)]) = (O ++ PX[p]).map bV := by rw [List.map_append]; rfl
    by_cases hlt : p < DX.length
    · have hxb : p < BX.length := by omega
      have hsb : p < s.length := by omega
      have gxd : (DX.map oV)[p]? = some [.bool DX[p]] := by rw [List.getElem?_map, List.getElem?_eq_getElem hlt]; rfl
      have gxb : (BX.map uV)[p]? = some [.int .u8 (BX[p].toNat : Int)] := by rw [List.getElem?_map, List.getElem?_eq_getElem hxb]; rfl
      have hg := gb_at hsb
      rw [pos_drop la1 la2 hlt, sdA_cons] at hO hR
      rw [List.drop_eq_getElem_cons hsb] at hR
      dsimp only at hO hR
      simp only [List.length_append, List.length_map, List.length_cons] at hO
      rw [applyA_ps, Option.map_map] at hR
      have hOP : (O ++ PX[p]).length = O.length + PX[p].length := by simp
      have hOPl : ((O ++ PX[p]).map bV).length = O.length + PX[p].length := by simp
      cases hdx : DX[p] with
      | false =>
        rw [hdx] at gxd hR
        simp only [Bool.false_eq_true, if_false] at hR
        rw [applyA_kc, Option.map_map] at hR
        (refine st_E24_1 ?_; intros; rename_i a8 c8 bz a7 c7)
        have em2 : O.map bV ++ PX[p].map (fun b => [Value.int .u8 (b.toNat : Int)]) ++ [[.int .u8 (gb s p : Int)]] = (O ++ PX[p] ++ [s[p]]).map bV := by rw [em, List.map_append (l₂ := [s[p]]), hg]; rfl
        have em3 : (O.map bV ++ PX[p].map (fun b => [Value.int .u8 (b.toNat : Int)])).length + 1 = O.length + PX[p].length + 1 := by rw [em, hOPl]
        rw [em2, em3]
        refine WQ.next (DX.length + 1 - (p + 1)) ⟨p + 1, a7, c7, O.length + PX[p].length + 1, O ++ PX[p] ++ [s[p]], rfl, rfl, rfl, rfl, rfl, ?_, ?_, ?_, ?_⟩ (by omega) zsb zpk
        · omega
        · simp only [List.length_append, List.length_singleton]
        · simp only [List.length_append, List.length_singleton]; omega
        · rw [← hR]; congr 1; funext q; simp
      | true =>
        rw [hdx] at gxd hR
        simp only [if_true] at hR
        rw [applyA_dc] at hR
        by_cases hb : s[p] = BX[p]
        · rw [if_pos hb] at hR
          have hb' : (BX[p].toNat : Int) = (gb s p : Int) := by rw [hg, hb]
          (refine st_E24_1 ?_; intros; rename_i a8 c8)
          rw [hOl, em]
          refine WQ.next (DX.length + 1 - (p + 1)) ⟨p + 1, a8, c8, O.length + PX[p].length, O ++ PX[p], rfl, rfl, rfl, rfl, rfl, ?_, ?_, ?_, ?_⟩ (by omega) zsb zpk
          · omega
          · rw [hOP]
          · rw [hOP]; omega
          · rw [← hR]; congr 1; funext q; simp
        · rw [if_neg hb] at hR
          have hb' : ¬ (BX[p].toNat : Int) = (gb s p : Int) := by rw [hg]; exact fun h => hb (UInt8.toNat_inj.1 (by omega))
          have e : applyV s l = .tuple #[str [], .int .i64 270] := by simp only [applyV, hs, hfs, ne_eq, not_true, if_false, ← hR, Option.map_none]
          rw [e]
          (try (refine st_E24_1 ?_; intros))
          exact q_fin0 (H0 := H) (Gives.mk rfl) (hd := zpk)
    · have hpe : p = DX.length := by omega
      rw [List.drop_eq_nil_of_le (show (PX.zip (DX.zip BX)).length ≤ p by simp only [List.length_zip]; omega), getD_last hpe hpx, sdA_nil] at hO hR
      simp only [List.length_map] at hO
      have hsd : s.drop p = [] := List.drop_eq_nil_of_le (by omega)
      have hps := applyA_ps (s.drop p) PX[p] []
      rw [List.append_nil, applyA_nil] at hps
      rw [hps] at hR
      have e : applyV s l = .tuple #[str (O ++ PX[p]), .int .i64 0] := by
        have : applyA s (atomsOf l) = some (O ++ PX[p]) := by rw [← hR]; simp
        simp only [applyV, hs, hfs, ne_eq, not_true, if_false, this]
      rw [e]
      have hOP : (O ++ PX[p]).length = O.length + PX[p].length := by simp
      (refine st_E24_1 ?_; intros; rename_i a8 c8)
      rw [hOl, em]
      (try (refine st_E24_1 ?_; intros))
      refine WL.rowStr (s := O ++ PX[p]) rfl hOP.symm zhs rfl rfl rfl rfl rfl ?_
      (try (refine st_E24_1 ?_; intros))
      exact q_fin0 (H0 := H) (Gives.mk rfl) (hd := zpk)
  · have e : applyV s l = .tuple #[str [], .int .i64 5] := by simp [applyV, hs, hfs]
    rw [e]
    (try (refine st_E24_1 ?_; intros))
    exact q_fin0 (H0 := H) (Gives.mk rfl) (hd := zpk)
theorem rPlain_any {q2 q4 q6 : Nat} {PX : List (List UInt8)} {DX : List Bool} {BX : List UInt8} (la1 : BX.length = DX.length) (la2 : PX.length = DX.length + 1) (hln : (sdA (PX.zip (DX.zip BX)) (PX.getD DX.length [])).length ≤ 200000) (w0 : World) (m : Mem) (H : SHeap) :
    Does Try.prog 60 #[.agg #[.slice (some ⟨q2, 0, none⟩) PX.length PX.length, .slice (some ⟨q4, 0, none⟩) DX.length DX.length, .slice (some ⟨q6, 0, none⟩) BX.length BX.length]] w0 m (.row (some ⟨q2, 0, none⟩) PX.length 9 1 (PX.map sV) :: .row (some ⟨q4, 0, none⟩) DX.length 4 1 (DX.map oV) :: .row (some ⟨q6, 0, none⟩) BX.length 5 1 (BX.map uV) :: H)
      (fun v m' H' => m' = m ∧ ∃ c cp, v = .slice c (listOf (sdA (PX.zip (DX.zip BX)) (PX.getD DX.length []))).length cp ∧ H' = .row c cp 84 3 ((listOf (sdA (PX.zip (DX.zip BX)) (PX.getD DX.length []))).map Stp.cs) :: H) := by
  refine Does.of_body (args := [.agg #[.slice (some ⟨q2, 0, none⟩) PX.length PX.length, .slice (some ⟨q4, 0, none⟩) DX.length DX.length, .slice (some ⟨q6, 0, none⟩) BX.length BX.length]]) Try.func60 rfl Try.ntmps60 rfl ?_
  have hPl : (PX.map sV).length = PX.length := by simp
  have hDl : (DX.map oV).length = DX.length := by simp
  have hBl : (BX.map uV).length = BX.length := by simp
  have hDle : DX.length ≤ 200000 := by
    have h1 := sd_from (PX.getD DX.length []) (PX.zip (DX.zip BX))
    have h2 := fromA_le (sdA (PX.zip (DX.zip BX)) (PX.getD DX.length []))
    simp only [List.length_zip] at h1
    omega
  have hlist : listOf (sdA (PX.zip (DX.zip BX)) (PX.getD DX.length [])) = (Bld.start.run (sdA (PX.zip (DX.zip BX)) (PX.getD DX.length []))).close.l := rfl
  generalize listOf (sdA (PX.zip (DX.zip BX)) (PX.getD DX.length [])) = R at *
  (refine st_E24_1 ?_; intros; rename_i x bm)
  refine WC.newRow (T := 84) (sz := 3) ?_
  refine WC.loopH [(4, .int .i64 ((0) : Int)), (3, .pointer (some ⟨bm, 0, none⟩)), (1, .pointer (some ⟨x, 0, none⟩))] ?_ ?_ (fun j r ds m' H' => ∃ (p : Nat) (c : Option Addr) (cp : Nat) (B : Bld) (k : Nat), j = PX.length - p ∧ r = [(4, .int .i64 (p : Int)), (3, .pointer (some ⟨bm, 0, none⟩)), (1, .pointer (some ⟨x, 0, none⟩))] ∧ ds = [] ∧ m = m' ∧ H' = .blk bm (.cells [.slice c B.l.length cp, str B.p, str B.d].toArray 109 (0, 0)) :: .row c cp 84 3 (B.l.map Stp.cs) :: .blk x (.cells [.slice (some ⟨q2, 0, none⟩) PX.length PX.length, .slice (some ⟨q4, 0, none⟩) DX.length DX.length, .slice (some ⟨q6, 0, none⟩) BX.length BX.length].toArray 92 (0, 0)) :: .row (some ⟨q2, 0, none⟩) PX.length 9 1 (PX.map sV) :: .row (some ⟨q4, 0, none⟩) DX.length 4 1 (DX.map oV) :: .row (some ⟨q6, 0, none⟩) BX.length 5 1 (BX.map uV) :: H ∧ (p ≤ PX.length) ∧ (BFit k B) ∧ ((p ≤ DX.length ∧ k + 4 * (sdA ((PX.zip (DX.zip BX)).drop p) (PX.getD DX.length [])).length ≤ 10000000) ∨ (p = DX.length + 1 ∧ k ≤ 10000000)) ∧ ((p ≤ DX.length → R = (B.run (sdA ((PX.zip (DX.zip BX)).drop p) (PX.getD DX.length []))).close.l) ∧ (p = DX.length + 1 → R = B.close.l))) (PX.length - (0)) ⟨0, none, 0, Bld.start, 0, rfl, rfl, rfl, rfl, rfl, by omega, BFit.start, by rw [List.drop_zero]; exact .inl ⟨by omega, by omega⟩, by rw [List.drop_zero]; exact ⟨fun _ => hlist, fun h => by omega⟩⟩ ?_
  · (repeat (first | exact Env.Sub.nil | refine Env.Sub.cons rfl ?_))
  · exact zpk
  rintro j r ds m' H' ⟨p, c, cp, B, k, rfl, rfl, rfl, rfl, rfl, hp, hB, hk, ht⟩
  have hBp := hB.p
  have hBd := hB.d
  by_cases hlt : p < PX.length
  · have hk1 : k + 4 * (sdA ((PX.zip (DX.zip BX)).drop p) (PX.getD DX.length [])).length ≤ 10000000 := by omega
    have ht1 := ht.1 (by omega)
    have hgx : (PX.map sV)[p]? = some [str PX[p]] := by rw [List.getElem?_map, List.getElem?_eq_getElem hlt]; rfl
    have hB1 := bfit_put hB PX[p]
    by_cases hpd : p < DX.length
    · have hxb : p < BX.length := by omega
      have gxd : (DX.map oV)[p]? = some [.bool DX[p]] := by rw [List.getElem?_map, List.getElem?_eq_getElem hpd]; rfl
      have gxb : (BX.map uV)[p]? = some [.int .u8 (BX[p].toNat : Int)] := by rw [List.getElem?_map, List.getElem?_eq_getElem hxb]; rfl
      rw [pos_less la1 la2 hpd] at hk1
      rw [pos_drop la1 la2 hpd, sdA_cons, run_append, run_p] at ht1
      dsimp only at ht1
      cases hdx : DX[p] with
      | true =>
        rw [hdx] at gxd ht1
        (try (refine st_E24_1 ?_; intros))
        refine WL.heap (H' := .blk bm (.cells [.slice c B.l.length cp, str (B.p ++ PX[p]), str B.d].toArray 109 (0, 0)) :: .row c cp 84 3 (B.l.map Stp.cs) :: .blk x (.cells [.slice (some ⟨q2, 0, none⟩) PX.length PX.length, .slice (some ⟨q4, 0, none⟩) DX.length DX.length, .slice (some ⟨q6, 0, none⟩) BX.length BX.length].toArray 92 (0, 0)) :: .row (some ⟨q2, 0, none⟩) PX.length 9 1 (PX.map sV) :: .row (some ⟨q4, 0, none⟩) DX.length 4 1 (DX.map oV) :: .row (some ⟨q6, 0, none⟩) BX.length 5 1 (BX.map uV) :: H) zpk ?_
        refine w_callF Try.func49 ?_ (hs := mdrop_any ⟨B.l, B.p ++ PX[p], B.d⟩ BX[p] (by simp only; omega) _ _ _)
        rintro v m H1 ⟨rfl, rfl, rfl⟩
        (try (refine st_E24_1 ?_; intros))
        refine WQ.next (PX.length - (p + 1)) ⟨p + 1, c, cp, ⟨B.l, B.p ++ PX[p], B.d ++ [BX[p]]⟩, k + PX[p].length + 1, rfl, rfl, rfl, rfl, rfl, ?_, ?_, ?_, ?_⟩ (by omega) zsb zpk
        · omega
        · exact (bfit_drop hB1 [BX[p]]).mono (by simp only [List.length_singleton]; omega)
        · exact .inl ⟨by omega, by omega⟩
        · exact ⟨fun _ => ht1, fun h => by omega⟩
      | false =>
        rw [hdx] at gxd ht1
        (try (refine st_E24_1 ?_; intros))
        refine WL.heap (H' := .blk bm (.cells [.slice c B.l.length cp, str (B.p ++ PX[p]), str B.d].toArray 109 (0, 0)) :: .row c cp 84 3 (B.l.map Stp.cs) :: .blk x (.cells [.slice (some ⟨q2, 0, none⟩) PX.length PX.length, .slice (some ⟨q4, 0, none⟩) DX.length DX.length, .slice (some ⟨q6, 0, none⟩) BX.length BX.length].toArray 92 (0, 0)) :: .row (some ⟨q2, 0, none⟩) PX.length 9 1 (PX.map sV) :: .row (some ⟨q4, 0, none⟩) DX.length 4 1 (DX.map oV) :: .row (some ⟨q6, 0, none⟩) BX.length 5 1 (BX.map uV) :: H) zpk ?_
        refine w_callF Try.func50 ?_ (hs := mkeep_any ⟨B.l, B.p ++ PX[p], B.d⟩ 1 (by omega) (hB1.mono (by omega)) _ _ _)
        rintro v m H1 ⟨rfl, rfl, c2, cp2, rfl⟩
        (try (refine st_E24_1 ?_; intros))
        refine WQ.next (PX.length - (p + 1)) ⟨p + 1, c2, cp2, (⟨B.l, B.p ++ PX[p], B.d⟩ : Bld).keep ((1 : Nat) : Int), k + PX[p].length + 4, rfl, rfl, rfl, rfl, rfl, ?_, ?_, ?_, ?_⟩ (by omega) zsb zpk
        · omega
        · exact (hB1.keep (n := 1)).mono (by omega)
        · exact .inl ⟨by omega, by omega⟩
        · exact ⟨fun _ => ht1, fun h => by omega⟩
    · have hpe : p = DX.length := by omega
      have hbx := pos_left la1 la2 hlt
      rw [pos_end (by omega), sdA_nil, getD_last hpe hlt, run_p] at ht1
      (try (refine st_E24_1 ?_; intros))
      refine WQ.next (PX.length - (p + 1)) ⟨p + 1, c, cp, ⟨B.l, B.p ++ PX[p], B.d⟩, k + PX[p].length, rfl, rfl, rfl, rfl, rfl, ?_, ?_, ?_, ?_⟩ (by omega) zsb zpk
      · omega
      · exact hB1
      · exact .inr ⟨by omega, by omega⟩
      · exact ⟨fun h => by omega, fun _ => ht1⟩
  · have hpe : p = DX.length + 1 := by omega
    have ht1 := ht.2 hpe
    have hBl := hB.len
    (try (refine st_E24_1 ?_; intros))
    refine WL.heap (H' := .blk bm (.cells [.slice c B.l.length cp, str B.p, str B.d].toArray 109 (0, 0)) :: .row c cp 84 3 (B.l.map Stp.cs) :: H) zpk ?_
    refine w_callF Try.func51 ?_ (hs := end_any B (by omega) _ _ _)
    rintro v m H1 ⟨rfl, rfl, c2, cp2, rfl⟩
    (try (refine st_E24_1 ?_; intros))
    rw [ht1]
    exact q_fin0 (H0 := .row c2 cp2 84 3 (B.close.l.map Stp.cs) :: H) ⟨rfl, c2, cp2, rfl, rfl⟩ (hd := zpk)
theorem rInvert_any {a : Option Addr} {cap : Nat} {l : List Stp} {f t : Int} (hf : Fit l) (hs : sizesOf l = some (f, t)) (w0 : World) (m : Mem) (H : SHeap) (hr : RowR w0 m H 3 a (l.map Stp.cs)) :
    Does Try.prog 35 #[.slice a l.length cap] w0 m H (fun v m' H' => m' = m ∧ ∃ c cp, v = .slice c (listOf ((nfOf (gapsOf l)).map Atm.inv)).length cp ∧ H' = .row c cp 84 3 ((listOf ((nfOf (gapsOf l)).map Atm.inv)).map Stp.cs) :: H) := by
  refine Does.of_body (args := [.slice a l.length cap]) Try.func35 rfl Try.ntmps35 rfl ?_
  obtain ⟨hok, hal, hpl, hfr, _, g1, g2, _, _⟩ := sized hs
  (try (refine st_E24_1 ?_; intros))
  refine w_callF Try.func43 ?_ (hs := say_any hf hs _ _ _ hr)
  rintro _ m _ ⟨rfl, q2, q4, q6, rfl, rfl⟩
  have hda := drops_from l hok
  obtain ⟨la1, la2⟩ := said_len (gapsOf l)
  have hpa : posOf (gapsOf l) = (putsOf (gapsOf l)).zip ((dropsOf (gapsOf l)).zip (bytesOf (gapsOf l))) := rfl
  have hla : lastOf (gapsOf l) = (putsOf (gapsOf l)).getD (dropsOf (gapsOf l)).length [] := rfl
  have hln : (sdA (posOf (gapsOf l)) (lastOf (gapsOf l))).length ≤ 200000 := by rw [sd_atoms]; have := (nf_len hs).1; omega
  rw [← sd_atoms]
  generalize putsOf (gapsOf l) = PX at *
  generalize dropsOf (gapsOf l) = DX at *
  generalize bytesOf (gapsOf l) = BX at *
  generalize posOf (gapsOf l) = XP at *
  generalize lastOf (gapsOf l) = XL at *
  subst hpa
  subst hla
  have hPl : (PX.map sV).length = PX.length := by simp
  have hDl : (DX.map oV).length = DX.length := by simp
  have hBl : (BX.map uV).length = BX.length := by simp
  have hDle : DX.length ≤ 65536 := by omega
  have hlist : listOf ((sdA (PX.zip (DX.zip BX)) (PX.getD DX.length [])).map Atm.inv) = (Bld.start.run ((sdA (PX.zip (DX.zip BX)) (PX.getD DX.length [])).map Atm.inv)).close.l := rfl
  generalize listOf ((sdA (PX.zip (DX.zip BX)) (PX.getD DX.length [])).map Atm.inv) = R at *
  clear hok hal hpl hfr hda hr hs
  (refine st_E24_1 ?_; intros; rename_i x bm)
  refine WC.newRow (T := 84) (sz := 3) ?_
  refine WC.loopH [(5, .int .i64 ((0) : Int)), (4, .pointer (some ⟨bm, 0, none⟩)), (3, .pointer (some ⟨x, 0, none⟩))] ?_ ?_ (fun j r ds m' H' => ∃ (p : Nat) (c : Option Addr) (cp : Nat) (B : Bld) (k : Nat), j = PX.length - p ∧ r = [(5, .int .i64 (p : Int)), (4, .pointer (some ⟨bm, 0, none⟩)), (3, .pointer (some ⟨x, 0, none⟩))] ∧ ds = [] ∧ m = m' ∧ H' = .blk bm (.cells [.slice c B.l.length cp, str B.p, str B.d].toArray 109 (0, 0)) :: .row c cp 84 3 (B.l.map Stp.cs) :: .blk x (.cells [.slice (some ⟨q2, 0, none⟩) PX.length PX.length, .slice (some ⟨q4, 0, none⟩) DX.length DX.length, .slice (some ⟨q6, 0, none⟩) BX.length BX.length].toArray 92 (0, 0)) :: .row (some ⟨q2, 0, none⟩) PX.length 9 1 (PX.map sV) :: .row (some ⟨q4, 0, none⟩) DX.length 4 1 (DX.map oV) :: .row (some ⟨q6, 0, none⟩) BX.length 5 1 (BX.map uV) :: H ∧ (p ≤ PX.length) ∧ (BFit k B) ∧ ((p ≤ DX.length ∧ k + 4 * (sdA ((PX.zip (DX.zip BX)).drop p) (PX.getD DX.length [])).length ≤ 10000000) ∨ (p = DX.length + 1 ∧ k ≤ 10000000)) ∧ ((p ≤ DX.length → R = (B.run ((sdA ((PX.zip (DX.zip BX)).drop p) (PX.getD DX.length [])).map Atm.inv)).close.l) ∧ (p = DX.length + 1 → R = B.close.l))) (PX.length - (0)) ⟨0, none, 0, Bld.start, 0, rfl, rfl, rfl, rfl, rfl, by omega, BFit.start, by rw [List.drop_zero]; exact .inl ⟨by omega, by omega⟩, by rw [List.drop_zero]; exact ⟨fun _ => hlist, fun h => by omega⟩⟩ ?_
  · (repeat (first | exact Env.Sub.nil | refine Env.Sub.cons rfl ?_))
  · exact zpk
  rintro j r ds m' H' ⟨p, c, cp, B, k, rfl, rfl, rfl, rfl, rfl, hp, hB, hk, ht⟩
  have hBp := hB.p
  have hBd := hB.d
  by_cases hlt : p < PX.length
  · have hk1 : k + 4 * (sdA ((PX.zip (DX.zip BX)).drop p) (PX.getD DX.length [])).length ≤ 10000000 := by omega
    have ht1 := ht.1 (by omega)
    have hgx : (PX.map sV)[p]? = some [str PX[p]] := by rw [List.getElem?_map, List.getElem?_eq_getElem hlt]; rfl
    have hB1 := bfit_drop hB PX[p]
    by_cases hpd : p < DX.length
    · have hxb : p < BX.length := by omega
      have gxd : (DX.map oV)[p]? = some [.bool DX[p]] := by rw [List.getElem?_map, List.getElem?_eq_getElem hpd]; rfl
      have gxb : (BX.map uV)[p]? = some [.int .u8 (BX[p].toNat : Int)] := by rw [List.getElem?_map, List.getElem?_eq_getElem hxb]; rfl
      rw [pos_less la1 la2 hpd] at hk1
      rw [pos_drop la1 la2 hpd, sdA_cons, List.map_append, inv_ps, run_append, run_d, List.map_cons] at ht1
      dsimp only at ht1
      cases hdx : DX[p] with
      | true =>
        rw [hdx] at gxd ht1
        have hd1 : [BX[p]].length = 1 := rfl
        have hbd1 : (B.d ++ PX[p]).length ≤ 100000000 := by rw [List.length_append]; omega
        (try (refine st_E24_1 ?_; intros))
        refine WC.drawE 11 ([.blk bm (.cells [.slice c B.l.length cp, str B.p, str (B.d ++ PX[p])].toArray 109 (0, 0)), .blk x (.cells [.slice (some ⟨q2, 0, none⟩) PX.length PX.length, .slice (some ⟨q4, 0, none⟩) DX.length DX.length, .slice (some ⟨q6, 0, none⟩) BX.length BX.length].toArray 92 (0, 0)), .row (some ⟨q6, 0, none⟩) BX.length 5 1 (BX.map uV)]) (.row c cp 84 3 (B.l.map Stp.cs) :: .row (some ⟨q2, 0, none⟩) PX.length 9 1 (PX.map sV) :: .row (some ⟨q4, 0, none⟩) DX.length 4 1 (DX.map oV) :: H) rfl (by decide +kernel) zpk ?_
        (refine cm_E24_1 ?_)
        refine WE.act1 7 (by decide +kernel) rfl rfl (fun c h => by cases h) ?_
        (refine st_E24_1 ?_; intros; rename_i qz)
        refine WQ.acted (B := [.blk qz (.cells [.int .u8 (BX[p].toNat : Int)].toArray 5 (0, 0))]) (U := .row c cp 84 3 (B.l.map Stp.cs) :: .row (some ⟨q2, 0, none⟩) PX.length 9 1 (PX.map sV) :: .row (some ⟨q4, 0, none⟩) DX.length 4 1 (DX.map oV) :: H) rfl (Mem.le.refl _) zpk ?_
        (refine WE.calm 8 (by decide +kernel) rfl rfl (by decide +kernel) rfl (fun c h => by cases h) (by intro zm zF zle; refine WL.blkStr (s := [BX[p]]) rfl zhs rfl rfl rfl rfl rfl rfl rfl ?_; exact sq_E24_1) ?_)
        (refine WE.calm 9 (by decide +kernel) rfl rfl (by decide +kernel) rfl (fun c h => by cases h) (by intro zm zF zle; exact sq_E24_1) ?_)
        (refine WE.calm 10 (by decide +kernel) rfl rfl (by decide +kernel) rfl (fun c h => by cases h) (by intro zm zF zle; exact sq_E24_1) ?_)
        refine WE.done (by decide +kernel) ?_
        (try (refine st_E24_1 ?_; intros))
        refine WQ.next (PX.length - (p + 1)) ⟨p + 1, c, cp, ⟨B.l, B.p ++ [BX[p]], B.d ++ PX[p]⟩, k + PX[p].length + 1, rfl, rfl, rfl, rfl, rfl, ?_, ?_, ?_, ?_⟩ (by omega) zsb zpk
        · omega
        · exact (bfit_put hB1 [BX[p]]).mono (by simp only [List.length_singleton]; omega)
        · exact .inl ⟨by omega, by omega⟩
        · exact ⟨fun _ => ht1, fun h => by omega⟩
      | false =>
        rw [hdx] at gxd ht1
        (try (refine st_E24_1 ?_; intros))
        refine WL.heap (H' := .blk bm (.cells [.slice c B.l.length cp, str B.p, str (B.d ++ PX[p])].toArray 109 (0, 0)) :: .row c cp 84 3 (B.l.map Stp.cs) :: .blk x (.cells [.slice (some ⟨q2, 0, none⟩) PX.length PX.length, .slice (some ⟨q4, 0, none⟩) DX.length DX.length, .slice (some ⟨q6, 0, none⟩) BX.length BX.length].toArray 92 (0, 0)) :: .row (some ⟨q2, 0, none⟩) PX.length 9 1 (PX.map sV) :: .row (some ⟨q4, 0, none⟩) DX.length 4 1 (DX.map oV) :: .row (some ⟨q6, 0, none⟩) BX.length 5 1 (BX.map uV) :: H) zpk ?_
        refine w_callF Try.func50 ?_ (hs := mkeep_any ⟨B.l, B.p, B.d ++ PX[p]⟩ 1 (by omega) (hB1.mono (by omega)) _ _ _)
        rintro v m H1 ⟨rfl, rfl, c2, cp2, rfl⟩
        (try (refine st_E24_1 ?_; intros))
        refine WQ.next (PX.length - (p + 1)) ⟨p + 1, c2, cp2, (⟨B.l, B.p, B.d ++ PX[p]⟩ : Bld).keep ((1 : Nat) : Int), k + PX[p].length + 4, rfl, rfl, rfl, rfl, rfl, ?_, ?_, ?_, ?_⟩ (by omega) zsb zpk
        · omega
        · exact (hB1.keep (n := 1)).mono (by omega)
        · exact .inl ⟨by omega, by omega⟩
        · exact ⟨fun _ => ht1, fun h => by omega⟩
    · have hpe : p = DX.length := by omega
      have hbx := pos_left la1 la2 hlt
      rw [pos_end (by omega), sdA_nil, getD_last hpe hlt, inv_ps, run_d] at ht1
      (try (refine st_E24_1 ?_; intros))
      refine WQ.next (PX.length - (p + 1)) ⟨p + 1, c, cp, ⟨B.l, B.p, B.d ++ PX[p]⟩, k + PX[p].length, rfl, rfl, rfl, rfl, rfl, ?_, ?_, ?_, ?_⟩ (by omega) zsb zpk
      · omega
      · exact hB1
      · exact .inr ⟨by omega, by omega⟩
      · exact ⟨fun h => by omega, fun _ => ht1⟩
  · have hpe : p = DX.length + 1 := by omega
    have ht1 := ht.2 hpe
    have hBl := hB.len
    (try (refine st_E24_1 ?_; intros))
    refine WL.heap (H' := .blk bm (.cells [.slice c B.l.length cp, str B.p, str B.d].toArray 109 (0, 0)) :: .row c cp 84 3 (B.l.map Stp.cs) :: H) zpk ?_
    refine w_callF Try.func51 ?_ (hs := end_any B (by omega) _ _ _)
    rintro v m H1 ⟨rfl, rfl, c2, cp2, rfl⟩
    (try (refine st_E24_1 ?_; intros))
    rw [ht1]
    exact q_fin0 (H0 := .row c2 cp2 84 3 (B.close.l.map Stp.cs) :: H) ⟨rfl, c2, cp2, rfl, rfl⟩ (hd := zpk)
end Go.Proofs.Ytelgegefmjlimaa

/-
  Plain facts on changes that are said and made plain. No condition.
-/
namespace Go.Eng
open Go
theorem plain_said (l : List Stp) : listOf (sdA ((putsOf (gapsOf l)).zip ((dropsOf (gapsOf l)).zip (bytesOf (gapsOf l)))) ((putsOf (gapsOf l)).getD (dropsOf (gapsOf l)).length [])) = plainOf l := by
  rw [plain_list, ← sd_atoms]; rfl
theorem said_small {l : List Stp} {f t : Int} (hs : sizesOf l = some (f, t)) : (sdA ((putsOf (gapsOf l)).zip ((dropsOf (gapsOf l)).zip (bytesOf (gapsOf l)))) ((putsOf (gapsOf l)).getD (dropsOf (gapsOf l)).length [])).length ≤ 200000 := by
  have h : (sdA (posOf (gapsOf l)) (lastOf (gapsOf l))).length ≤ 200000 := by rw [sd_atoms]; have := (nf_len hs).1; omega
  exact h
end Go.Eng

/-
  The walks of the reference's sheet: carried, next, Send. No condition.
-/
namespace Go.Eng
open Go Go.RowKit
theorem carried_good2 (hand : Int) : ∀ (K : List (Int × List Stp)) (c : List Stp), (∃ f t : Int, sizesOf c = some (f, t)) → (∃ e : Int, e ≠ 0 ∧ carriedP hand K c = .inl e) ∨ (∃ d, carriedP hand K c = .inr d ∧ ∃ f t : Int, sizesOf d = some (f, t))
  | [], c, h => .inr ⟨c, rfl, h⟩
  | x :: K, c, h => by
    rcases over_cases hand x.1 x.2 c with ⟨e, he, h1⟩ | ⟨V, h1, h2, h3⟩
    · exact .inl ⟨e, he, carried_l h1⟩
    · rw [carried_r h1]; exact carried_good2 hand K _ ⟨_, _, sizes_list V h2 h3⟩
def textsOf (first : List UInt8) (K : List Snt) : List (List UInt8) := (List.range (K.length + 1)).map fun n => textAt first (K.take n)
theorem texts_len (first : List UInt8) (K : List Snt) : (textsOf first K).length = K.length + 1 := by simp [textsOf]
theorem texts_get {first : List UInt8} {K : List Snt} {n : Nat} (h : n ≤ K.length) : ((textsOf first K).map sV)[n]? = some [str (textAt first (K.take n))] := by
  unfold textsOf
  rw [List.getElem?_map, List.getElem?_map, List.getElem?_range (by omega)]; rfl
theorem texts_snoc (first : List UInt8) (K : List Snt) (x : Snt) : textsOf first (K ++ [x]) = textsOf first K ++ [applyT (textAt first K) x.l] := by
  unfold textsOf
  rw [List.length_append, List.length_singleton, List.range_succ, List.map_append]
  congr 1
  · refine List.map_congr_left fun n hn => ?_
    rw [List.mem_range] at hn
    rw [List.take_append_of_le_length (by omega)]
  · rw [List.map_cons, List.map_nil, ← textAt_snoc, List.take_of_length_le (by simp)]
end Go.Eng
namespace Go.Proofs.Ytelgegefmjlimaa
open Go Go.Eng
set_option maxRecDepth 100000
set_option maxHeartbeats 4000000
set_option linter.all false
attribute [local irreducible] WL WC WQ QFun QLoop Does Q1 QRound QAssign Go.Addr.add
attribute [local irreducible] sizesOf sizesF applyV applyT applyE listOf plainOf applyA textAt carP overP carriedP textsOf
theorem rcarried_gen {w : Nat} {first now : List UInt8} {aw atx a : Option Addr} {caw cat cap n : Nat} {K : List Snt} {hand : Int} {c : List Stp} {fc tc : Int} (hh : -9223372036854775808 ≤ hand ∧ hand ≤ 9223372036854775807) (hl : K.length ≤ 1000000) (hn : n ≤ K.length) (g : GoodS first K now) (hsz : sizesOf c = some (fc, tc)) (w0 : World) (m : Mem) (H : SHeap) (hK : ∀ x ∈ K, x.it 84 ∈ H) :
    Does Try.prog 68 #[.pointer (some ⟨w, 0, none⟩), .int .i64 hand, .int .i64 (n : Int), .slice a c.length cap] w0 m (.blk w (.cells [.slice aw K.length caw, .slice atx (K.length + 1) cat].toArray 76 (0, 0)) :: .row aw caw 81 3 (K.map Snt.cs) :: .row atx cat 9 1 ((textsOf first K).map sV) :: .row a cap 84 3 (c.map Stp.cs) :: H)
      (fun v m' H' => m' = m ∧ match carriedP hand ((K.drop n).map Snt.hl) c with
        | .inl e => v = .tuple #[.slice none 0 0, .int .i64 e] ∧ H' = .blk w (.cells [.slice aw K.length caw, .slice atx (K.length + 1) cat].toArray 76 (0, 0)) :: .row aw caw 81 3 (K.map Snt.cs) :: .row atx cat 9 1 ((textsOf first K).map sV) :: H
        | .inr c' => ∃ a' cap', v = .tuple #[.slice a' c'.length cap', .int .i64 0] ∧ H' = .blk w (.cells [.slice aw K.length caw, .slice atx (K.length + 1) cat].toArray 76 (0, 0)) :: .row aw caw 81 3 (K.map Snt.cs) :: .row atx cat 9 1 ((textsOf first K).map sV) :: .row a' cap' 84 3 (c'.map Stp.cs) :: H) := by
  refine Does.of_body (args := [.pointer (some ⟨w, 0, none⟩), .int .i64 hand, .int .i64 (n : Int), .slice a c.length cap]) Try.func68 rfl Try.ntmps68 rfl ?_
  have hKl : (K.map Snt.cs).length = K.length := by simp
  generalize hPo : carriedP hand ((K.drop n).map Snt.hl) c = res
  (try (refine st ?_; intros))
  refine WC.loopH [(10, .int .i64 ((n) : Int)), (3, .slice (a) (c).length (cap)), (1, .int .i64 hand), (0, .pointer (some ⟨w, 0, none⟩))] ?_ ?_ (fun j r ds m' H' => ∃ (k : Nat) (c : List Stp) (a : Option Addr) (cap : Nat) (fc : Int) (tc : Int), j = K.length - k ∧ r = [(10, .int .i64 (k : Int)), (3, .slice a c.length cap), (1, .int .i64 hand), (0, .pointer (some ⟨w, 0, none⟩))] ∧ ds = [] ∧ m = m' ∧ H' = .blk w (.cells [.slice aw K.length caw, .slice atx (K.length + 1) cat].toArray 76 (0, 0)) :: .row aw caw 81 3 (K.map Snt.cs) :: .row atx cat 9 1 ((textsOf first K).map sV) :: .row a cap 84 3 (c.map Stp.cs) :: H ∧ (k ≤ K.length) ∧ (sizesOf c = some (fc, tc)) ∧ (carriedP hand ((K.drop k).map Snt.hl) c = res)) (K.length - (n)) ⟨n, c, a, cap, fc, tc, rfl, rfl, rfl, rfl, rfl, hn, hsz, hPo⟩ ?_
  · (repeat (first | exact Env.Sub.nil | refine Env.Sub.cons rfl ?_))
  · exact zpk
  rintro j r ds m' H' ⟨k, c, a, cap, fc, tc, rfl, rfl, rfl, rfl, rfl, hi, hsz, hP⟩
  have hfc := fit_sized hsz
  by_cases hlt : k < K.length
  · obtain ⟨x, hx, hget, htk, hmem, hdr⟩ := at_idx (f := Snt.cs) hlt
    have hrx : RowR w0 m H 3 x.a (x.l.map Stp.cs) := RowR.row (hK x hmem)
    obtain ⟨fx, tx, hsx⟩ := g.sized hmem
    have hfx := fit_sized hsx
    have hhx := g.h x hmem
    have hxs : x.cs = [.int .i64 x.h, .slice x.a x.l.length x.cap, .bool x.left] := rfl
    rw [hxs] at hget
    rw [hdr, List.map_cons] at hP
    refine WC.rowSome (a := aw) (es := K.map Snt.cs) zhs (by omega) ?_
    rintro d0 rfl
    by_cases hle : x.h ≤ hand
    · (try (refine st ?_; intros))
      refine w_callF Try.func28 ?_ (hs := rCarry_any hfx hfc hsx hsz _ _ _ hrx.more.more.more.more (RowR.row (a := a) zhs))
      rintro v m H1 ⟨rfl, hv⟩
      rcases car_cases x.l c with ⟨e, he, h1⟩ | ⟨U, V, h1, h2, h3, h4, h5⟩
      · rw [h1] at hv
        obtain ⟨rfl, rfl⟩ := hv
        rw [carried_l (x := x.hl) (over_le_l hle h1)] at hP
        (try (refine st ?_; intros))
        rw [← hP]
        exact q_fin0 (H0 := .blk w (.cells [.slice (some d0) K.length caw, .slice atx (K.length + 1) cat].toArray 76 (0, 0)) :: .row (some d0) caw 81 3 (K.map Snt.cs) :: .row atx cat 9 1 ((textsOf first K).map sV) :: H) ⟨rfl, rfl, rfl⟩ (hd := zpk)
      · rw [h1] at hv
        obtain ⟨c2, cp2, c3, cp3, rfl, rfl⟩ := hv
        rw [carried_r (x := x.hl) (over_le_r hle h1)] at hP
        have hsV := sizes_list V h4 h5
        generalize listOf V = V2 at *
        (try (refine st ?_; intros))
        refine WQ.next (K.length - (k + 1)) ⟨k + 1, V2, c3, cp3, (fromA V : Int), (toA V : Int), rfl, rfl, rfl, rfl, rfl, ?_, ?_, ?_⟩ (by omega) zsb zpk
        · omega
        · exact hsV
        · exact hP
    · (try (refine st ?_; intros))
      refine w_callF Try.func28 ?_ (hs := rCarry_any hfc hfx hsz hsx _ _ _ (RowR.row (a := a) zhs) hrx.more.more.more.more)
      rintro v m H1 ⟨rfl, hv⟩
      rcases car_cases c x.l with ⟨e, he, h1⟩ | ⟨U, V, h1, h2, h3, h4, h5⟩
      · rw [h1] at hv
        obtain ⟨rfl, rfl⟩ := hv
        rw [carried_l (x := x.hl) (over_gt_l hle h1)] at hP
        (try (refine st ?_; intros))
        rw [← hP]
        exact q_fin0 (H0 := .blk w (.cells [.slice (some d0) K.length caw, .slice atx (K.length + 1) cat].toArray 76 (0, 0)) :: .row (some d0) caw 81 3 (K.map Snt.cs) :: .row atx cat 9 1 ((textsOf first K).map sV) :: H) ⟨rfl, rfl, rfl⟩ (hd := zpk)
      · rw [h1] at hv
        obtain ⟨c2, cp2, c3, cp3, rfl, rfl⟩ := hv
        rw [carried_r (x := x.hl) (over_gt_r hle h1)] at hP
        have hsU := sizes_list U h2 h3
        generalize listOf U = U2 at *
        (try (refine st ?_; intros))
        refine WQ.next (K.length - (k + 1)) ⟨k + 1, U2, c2, cp2, (fromA U : Int), (toA U : Int), rfl, rfl, rfl, rfl, rfl, ?_, ?_, ?_⟩ (by omega) zsb zpk
        · omega
        · exact hsU
        · exact hP
  · obtain rfl : k = K.length := by omega
    rw [List.drop_length, List.map_nil, carriedP] at hP
    (try (refine st ?_; intros))
    rw [← hP]
    exact q_fin0 (H0 := .blk w (.cells [.slice aw K.length caw, .slice atx (K.length + 1) cat].toArray 76 (0, 0)) :: .row aw caw 81 3 (K.map Snt.cs) :: .row atx cat 9 1 ((textsOf first K).map sV) :: .row a cap 84 3 (c.map Stp.cs) :: H) ⟨rfl, a, cap, rfl, rfl⟩ (hd := zpk)
theorem rApplyT_any {a : Option Addr} {cap : Nat} {l : List Stp} {s : List UInt8} {f t : Int} (hf : Fit l) (hs : sizesOf l = some (f, t)) (hsl : s.length ≤ 1000000000) (w0 : World) (m : Mem) (H : SHeap) (hr : RowR w0 m H 3 a (l.map Stp.cs)) :
    Does Try.prog 58 #[str s, .slice a l.length cap] w0 m H (Gives (.tuple #[str (applyT s l), .int .i64 (applyE s l)]) m H) := by
  rw [← applyV_TE]; exact rApply_any hf hs hsl w0 m H hr
theorem sq_E42_1 {G : Prop} (h : G := by (repeat (first | (refine sp ?_; (repeat intro zzc)) | (refine iF 58 rfl ?_; refine w_callG Try.func58 ?_ (hs := rApplyT_any (by assumption) (by assumption) (by omega) _ _ _ (by assumption))))); exact WQ.q1 rfl) : G := h
theorem st_E42_1 {G G' : Prop} (next : G') (h : Bx G' → G := by intro zzn; (first | ((refine st ?_; (repeat intro zzc)); (try ((first | (refine iF 58 rfl ?_; refine w_callG Try.func58 ?_ (hs := rApplyT_any (by assumption) (by assumption) (by omega) _ _ _ (by assumption))) | ((refine iDraw ?_; (first | refine WC.drawAll rfl (by decide +kernel) ?_ | refine WC.draw 1 rfl (by decide +kernel) ?_ | refine WC.draw 2 rfl (by decide +kernel) ?_ | refine WC.draw 3 rfl (by decide +kernel) ?_ | refine WC.draw 4 rfl (by decide +kernel) ?_ | refine WC.draw 5 rfl (by decide +kernel) ?_ | refine WC.draw 6 rfl (by decide +kernel) ?_ | refine WC.draw 7 rfl (by decide +kernel) ?_ | refine WC.draw 8 rfl (by decide +kernel) ?_ | refine WC.draw 9 rfl (by decide +kernel) ?_ | refine WC.draw 10 rfl (by decide +kernel) ?_ | refine WC.draw 11 rfl (by decide +kernel) ?_ | refine WC.draw 12 rfl (by decide +kernel) ?_ | refine WC.draw 13 rfl (by decide +kernel) ?_ | refine WC.draw 14 rfl (by decide +kernel) ?_ | refine WC.draw 15 rfl (by decide +kernel) ?_ | refine WC.draw 16 rfl (by decide +kernel) ?_ | refine WC.draw 17 rfl (by decide +kernel) ?_ | refine WC.draw 18 rfl (by decide +kernel) ?_ | refine WC.draw 19 rfl (by decide +kernel) ?_ | refine WC.draw 20 rfl (by decide +kernel) ?_ | refine WC.draw 21 rfl (by decide +kernel) ?_ | refine WC.draw 22 rfl (by decide +kernel) ?_ | refine WC.draw 23 rfl (by decide +kernel) ?_ | refine WC.draw 24 rfl (by decide +kernel) ?_)); (repeat (refine WD.cons rfl (fun c h => by cases h) sq_E42_1 ?_)); refine WD.nil ?_)); (try (refine st ?_; (repeat intro zzc)))))) | ((first | (refine iF 58 rfl ?_; refine w_callG Try.func58 ?_ (hs := rApplyT_any (by assumption) (by assumption) (by omega) _ _ _ (by assumption))) | ((refine iDraw ?_; (first | refine WC.drawAll rfl (by decide +kernel) ?_ | refine WC.draw 1 rfl (by decide +kernel) ?_ | refine WC.draw 2 rfl (by decide +kernel) ?_ | refine WC.draw 3 rfl (by decide +kernel) ?_ | refine WC.draw 4 rfl (by decide +kernel) ?_ | refine WC.draw 5 rfl (by decide +kernel) ?_ | refine WC.draw 6 rfl (by decide +kernel) ?_ | refine WC.draw 7 rfl (by decide +kernel) ?_ | refine WC.draw 8 rfl (by decide +kernel) ?_ | refine WC.draw 9 rfl (by decide +kernel) ?_ | refine WC.draw 10 rfl (by decide +kernel) ?_ | refine WC.draw 11 rfl (by decide +kernel) ?_ | refine WC.draw 12 rfl (by decide +kernel) ?_ | refine WC.draw 13 rfl (by decide +kernel) ?_ | refine WC.draw 14 rfl (by decide +kernel) ?_ | refine WC.draw 15 rfl (by decide +kernel) ?_ | refine WC.draw 16 rfl (by decide +kernel) ?_ | refine WC.draw 17 rfl (by decide +kernel) ?_ | refine WC.draw 18 rfl (by decide +kernel) ?_ | refine WC.draw 19 rfl (by decide +kernel) ?_ | refine WC.draw 20 rfl (by decide +kernel) ?_ | refine WC.draw 21 rfl (by decide +kernel) ?_ | refine WC.draw 22 rfl (by decide +kernel) ?_ | refine WC.draw 23 rfl (by decide +kernel) ?_ | refine WC.draw 24 rfl (by decide +kernel) ?_)); (repeat (refine WD.cons rfl (fun c h => by cases h) sq_E42_1 ?_)); refine WD.nil ?_)); (try (refine st ?_; (repeat intro zzc))))); (repeat ((first | (refine iF 58 rfl ?_; refine w_callG Try.func58 ?_ (hs := rApplyT_any (by assumption) (by assumption) (by omega) _ _ _ (by assumption))) | ((refine iDraw ?_; (first | refine WC.drawAll rfl (by decide +kernel) ?_ | refine WC.draw 1 rfl (by decide +kernel) ?_ | refine WC.draw 2 rfl (by decide +kernel) ?_ | refine WC.draw 3 rfl (by decide +kernel) ?_ | refine WC.draw 4 rfl (by decide +kernel) ?_ | refine WC.draw 5 rfl (by decide +kernel) ?_ | refine WC.draw 6 rfl (by decide +kernel) ?_ | refine WC.draw 7 rfl (by decide +kernel) ?_ | refine WC.draw 8 rfl (by decide +kernel) ?_ | refine WC.draw 9 rfl (by decide +kernel) ?_ | refine WC.draw 10 rfl (by decide +kernel) ?_ | refine WC.draw 11 rfl (by decide +kernel) ?_ | refine WC.draw 12 rfl (by decide +kernel) ?_ | refine WC.draw 13 rfl (by decide +kernel) ?_ | refine WC.draw 14 rfl (by decide +kernel) ?_ | refine WC.draw 15 rfl (by decide +kernel) ?_ | refine WC.draw 16 rfl (by decide +kernel) ?_ | refine WC.draw 17 rfl (by decide +kernel) ?_ | refine WC.draw 18 rfl (by decide +kernel) ?_ | refine WC.draw 19 rfl (by decide +kernel) ?_ | refine WC.draw 20 rfl (by decide +kernel) ?_ | refine WC.draw 21 rfl (by decide +kernel) ?_ | refine WC.draw 22 rfl (by decide +kernel) ?_ | refine WC.draw 23 rfl (by decide +kernel) ?_ | refine WC.draw 24 rfl (by decide +kernel) ?_)); (repeat (refine WD.cons rfl (fun c h => by cases h) sq_E42_1 ?_)); refine WD.nil ?_)); (try (refine st ?_; (repeat intro zzc))))); (repeat revert zzc); exact zzn.out) : G := h ⟨next⟩
theorem rnext_gen {w : Nat} {first now : List UInt8} {aw atx a : Option Addr} {caw cat cap : Nat} {K : List Snt} {hand : Int} {l : List Stp} {left : Bool} {fl tl : Int} (hl : K.length ≤ 1000) (g : GoodS first K now) (hsz : sizesOf l = some (fl, tl)) (w0 : World) (m : Mem) (H : SHeap) (hr : ∀ Hx, RowR w0 m (Hx ++ H) 3 a (l.map Stp.cs)) :
    Does Try.prog 69 #[.pointer (some ⟨w, 0, none⟩), .int .i64 hand, .slice a l.length cap, .bool left] w0 m (.blk w (.cells [.slice aw K.length caw, .slice atx (K.length + 1) cat].toArray 76 (0, 0)) :: .row aw caw 81 3 (K.map Snt.cs) :: .row atx cat 9 1 ((textsOf first K).map sV) :: H)
      (fun v m' H' => m' = m ∧ v = .tuple #[] ∧ ∃ aw' caw' at' cat', H' = .blk w (.cells [.slice aw' (K ++ [Snt.mk hand l left a cap]).length caw', .slice at' ((K ++ [Snt.mk hand l left a cap]).length + 1) cat'].toArray 76 (0, 0)) :: .row aw' caw' 81 3 ((K ++ [Snt.mk hand l left a cap]).map Snt.cs) :: .row at' cat' 9 1 ((textsOf first (K ++ [Snt.mk hand l left a cap])).map sV) :: H) := by
  refine Does.of_body (args := [.pointer (some ⟨w, 0, none⟩), .int .i64 hand, .slice a l.length cap, .bool left]) Try.func69 rfl Try.ntmps69 rfl ?_
  have hKl : (K.map Snt.cs).length = K.length := by simp
  have hTl : ((textsOf first K).map sV).length = K.length + 1 := by rw [List.length_map, texts_len]
  have hgt := texts_get (first := first) (K := K) (Nat.le_refl _)
  rw [List.take_length] at hgt
  have hts := text_small g K.length
  rw [List.take_length] at hts
  have hfl := fit_sized hsz
  have hr1 : RowR w0 m (.blk w (.cells [.slice aw K.length caw, .slice atx (K.length + 1) cat].toArray 76 (0, 0)) :: .row aw caw 81 3 (K.map Snt.cs) :: .row atx cat 9 1 ((textsOf first K).map sV) :: H) 3 a (l.map Stp.cs) := hr [_, _, _]
  have hsn := texts_snoc first K (Snt.mk hand l left a cap)
  generalize textAt first K = t at *
  refine WC.rowSome (a := atx) (es := (textsOf first K).map sV) zhs (by omega) ?_
  rintro d0 rfl
  have htl := applyT_len t l
  (refine st_E42_1 ?_; intros; rename_i q1 a1 p1 q2 a2 p2)
  have e1 : K.map Snt.cs ++ [[.int .i64 hand, .slice a l.length cap, .bool left]] = (K ++ [Snt.mk hand l left a cap]).map Snt.cs := by rw [List.map_append]; rfl
  have e2 : (textsOf first K).map sV ++ [[str (applyT t l)]] = (textsOf first (K ++ [Snt.mk hand l left a cap])).map sV := by rw [hsn, List.map_append]; rfl
  have e3 : (K.map Snt.cs).length + 1 = (K ++ [Snt.mk hand l left a cap]).length := by simp
  have e4 : ((textsOf first K).map sV).length + 1 = (K ++ [Snt.mk hand l left a cap]).length + 1 := by rw [hTl]; simp
  rw [e1, e2, e3, e4]
  exact q_finNorm0 (H0 := .blk w (.cells [.slice a1 (K ++ [Snt.mk hand l left a cap]).length p1, .slice a2 ((K ++ [Snt.mk hand l left a cap]).length + 1) p2].toArray 76 (0, 0)) :: .row a1 p1 81 3 ((K ++ [Snt.mk hand l left a cap]).map Snt.cs) :: .row a2 p2 9 1 ((textsOf first (K ++ [Snt.mk hand l left a cap])).map sV) :: H) ⟨rfl, rfl, a1, p1, a2, p2, rfl⟩ (hd := zpk)
theorem sq_E42_2 {G : Prop} (h : G := by (repeat (first | (refine sp ?_; (repeat intro zzc)) | (refine iF 14 rfl ?_; refine w_callG Try.func14 ?_ (hs := refSizes_any (by assumption) _ _ _ (by assumption))))); exact WQ.q1 rfl) : G := h
theorem st_E42_2 {G G' : Prop} (next : G') (h : Bx G' → G := by intro zzn; (first | ((refine st ?_; (repeat intro zzc)); (try ((first | (refine iF 14 rfl ?_; refine w_callG Try.func14 ?_ (hs := refSizes_any (by assumption) _ _ _ (by assumption))) | ((refine iDraw ?_; (first | refine WC.drawAll rfl (by decide +kernel) ?_ | refine WC.draw 1 rfl (by decide +kernel) ?_ | refine WC.draw 2 rfl (by decide +kernel) ?_ | refine WC.draw 3 rfl (by decide +kernel) ?_ | refine WC.draw 4 rfl (by decide +kernel) ?_ | refine WC.draw 5 rfl (by decide +kernel) ?_ | refine WC.draw 6 rfl (by decide +kernel) ?_ | refine WC.draw 7 rfl (by decide +kernel) ?_ | refine WC.draw 8 rfl (by decide +kernel) ?_ | refine WC.draw 9 rfl (by decide +kernel) ?_ | refine WC.draw 10 rfl (by decide +kernel) ?_ | refine WC.draw 11 rfl (by decide +kernel) ?_ | refine WC.draw 12 rfl (by decide +kernel) ?_ | refine WC.draw 13 rfl (by decide +kernel) ?_ | refine WC.draw 14 rfl (by decide +kernel) ?_ | refine WC.draw 15 rfl (by decide +kernel) ?_ | refine WC.draw 16 rfl (by decide +kernel) ?_ | refine WC.draw 17 rfl (by decide +kernel) ?_ | refine WC.draw 18 rfl (by decide +kernel) ?_ | refine WC.draw 19 rfl (by decide +kernel) ?_ | refine WC.draw 20 rfl (by decide +kernel) ?_ | refine WC.draw 21 rfl (by decide +kernel) ?_ | refine WC.draw 22 rfl (by decide +kernel) ?_ | refine WC.draw 23 rfl (by decide +kernel) ?_ | refine WC.draw 24 rfl (by decide +kernel) ?_)); (repeat (refine WD.cons rfl (fun c h => by cases h) sq_E42_2 ?_)); refine WD.nil ?_)); (try (refine st ?_; (repeat intro zzc)))))) | ((first | (refine iF 14 rfl ?_; refine w_callG Try.func14 ?_ (hs := refSizes_any (by assumption) _ _ _ (by assumption))) | ((refine iDraw ?_; (first | refine WC.drawAll rfl (by decide +kernel) ?_ | refine WC.draw 1 rfl (by decide +kernel) ?_ | refine WC.draw 2 rfl (by decide +kernel) ?_ | refine WC.draw 3 rfl (by decide +kernel) ?_ | refine WC.draw 4 rfl (by decide +kernel) ?_ | refine WC.draw 5 rfl (by decide +kernel) ?_ | refine WC.draw 6 rfl (by decide +kernel) ?_ | refine WC.draw 7 rfl (by decide +kernel) ?_ | refine WC.draw 8 rfl (by decide +kernel) ?_ | refine WC.draw 9 rfl (by decide +kernel) ?_ | refine WC.draw 10 rfl (by decide +kernel) ?_ | refine WC.draw 11 rfl (by decide +kernel) ?_ | refine WC.draw 12 rfl (by decide +kernel) ?_ | refine WC.draw 13 rfl (by decide +kernel) ?_ | refine WC.draw 14 rfl (by decide +kernel) ?_ | refine WC.draw 15 rfl (by decide +kernel) ?_ | refine WC.draw 16 rfl (by decide +kernel) ?_ | refine WC.draw 17 rfl (by decide +kernel) ?_ | refine WC.draw 18 rfl (by decide +kernel) ?_ | refine WC.draw 19 rfl (by decide +kernel) ?_ | refine WC.draw 20 rfl (by decide +kernel) ?_ | refine WC.draw 21 rfl (by decide +kernel) ?_ | refine WC.draw 22 rfl (by decide +kernel) ?_ | refine WC.draw 23 rfl (by decide +kernel) ?_ | refine WC.draw 24 rfl (by decide +kernel) ?_)); (repeat (refine WD.cons rfl (fun c h => by cases h) sq_E42_2 ?_)); refine WD.nil ?_)); (try (refine st ?_; (repeat intro zzc))))); (repeat ((first | (refine iF 14 rfl ?_; refine w_callG Try.func14 ?_ (hs := refSizes_any (by assumption) _ _ _ (by assumption))) | ((refine iDraw ?_; (first | refine WC.drawAll rfl (by decide +kernel) ?_ | refine WC.draw 1 rfl (by decide +kernel) ?_ | refine WC.draw 2 rfl (by decide +kernel) ?_ | refine WC.draw 3 rfl (by decide +kernel) ?_ | refine WC.draw 4 rfl (by decide +kernel) ?_ | refine WC.draw 5 rfl (by decide +kernel) ?_ | refine WC.draw 6 rfl (by decide +kernel) ?_ | refine WC.draw 7 rfl (by decide +kernel) ?_ | refine WC.draw 8 rfl (by decide +kernel) ?_ | refine WC.draw 9 rfl (by decide +kernel) ?_ | refine WC.draw 10 rfl (by decide +kernel) ?_ | refine WC.draw 11 rfl (by decide +kernel) ?_ | refine WC.draw 12 rfl (by decide +kernel) ?_ | refine WC.draw 13 rfl (by decide +kernel) ?_ | refine WC.draw 14 rfl (by decide +kernel) ?_ | refine WC.draw 15 rfl (by decide +kernel) ?_ | refine WC.draw 16 rfl (by decide +kernel) ?_ | refine WC.draw 17 rfl (by decide +kernel) ?_ | refine WC.draw 18 rfl (by decide +kernel) ?_ | refine WC.draw 19 rfl (by decide +kernel) ?_ | refine WC.draw 20 rfl (by decide +kernel) ?_ | refine WC.draw 21 rfl (by decide +kernel) ?_ | refine WC.draw 22 rfl (by decide +kernel) ?_ | refine WC.draw 23 rfl (by decide +kernel) ?_ | refine WC.draw 24 rfl (by decide +kernel) ?_)); (repeat (refine WD.cons rfl (fun c h => by cases h) sq_E42_2 ?_)); refine WD.nil ?_)); (try (refine st ?_; (repeat intro zzc))))); (repeat revert zzc); exact zzn.out) : G := h ⟨next⟩
def RSendG (T1 T2 T3 TS : TypeId) (w : Nat) (first : List UInt8) (aw : Option Addr) (caw : Nat) (atx : Option Addr) (cat : Nat) (K : List Snt) (hand : Int) (m : Mem) (H : SHeap) (res : Int ⊕ List Stp) : Value → Mem → SHeap → Prop := fun v m' H' => m' = m ∧ match res with
  | .inl e => v = .tuple #[.slice none 0 0, .int .i64 e] ∧ H' = .blk w (.cells [.slice aw K.length caw, .slice atx (K.length + 1) cat].toArray T1 (0, 0)) :: .row aw caw T3 3 (K.map Snt.cs) :: .row atx cat TS 1 ((textsOf first K).map sV) :: H
  | .inr d => ∃ a cap aw' caw' at' cat', v = .tuple #[.slice a d.length cap, .int .i64 0] ∧ H' = .blk w (.cells [.slice aw' (K ++ [Snt.mk hand d true a cap]).length caw', .slice at' ((K ++ [Snt.mk hand d true a cap]).length + 1) cat'].toArray T1 (0, 0)) :: .row aw' caw' T3 3 ((K ++ [Snt.mk hand d true a cap]).map Snt.cs) :: .row at' cat' TS 1 ((textsOf first (K ++ [Snt.mk hand d true a cap])).map sV) :: .row a cap T2 3 (d.map Stp.cs) :: H
theorem rsend_gen {w : Nat} {first now : List UInt8} {aw atx pa : Option Addr} {caw cat ca : Nat} {K : List Snt} {hand rev : Int} {l : List Stp} (hh : -9223372036854775808 ≤ hand ∧ hand ≤ 9223372036854775807) (hrv : -9223372036854775808 ≤ rev ∧ rev ≤ 9223372036854775807) (hl : K.length ≤ 1000) (g : GoodS first K now) (hfit : Fit l) (w0 : World) (m : Mem) (H : SHeap) (hK : ∀ x ∈ K, x.it 84 ∈ H) (hr : ∀ Hx, RowR w0 m (Hx ++ H) 3 pa (l.map Stp.cs)) :
    Does Try.prog 36 #[.pointer (some ⟨w, 0, none⟩), .int .i64 hand, .int .i64 rev, .slice pa l.length ca] w0 m (.blk w (.cells [.slice aw K.length caw, .slice atx (K.length + 1) cat].toArray 76 (0, 0)) :: .row aw caw 81 3 (K.map Snt.cs) :: .row atx cat 9 1 ((textsOf first K).map sV) :: H) (RSendG 76 84 81 9 w first aw caw atx cat K hand m H (sendR first now K hand rev l)) := by
  refine Does.of_body (args := [.pointer (some ⟨w, 0, none⟩), .int .i64 hand, .int .i64 rev, .slice pa l.length ca]) Try.func36 rfl Try.ntmps36 rfl ?_
  have hTl : ((textsOf first K).map sV).length = K.length + 1 := by rw [List.length_map, texts_len]
  have hr1 : RowR w0 m (.blk w (.cells [.slice aw K.length caw, .slice atx (K.length + 1) cat].toArray 76 (0, 0)) :: .row aw caw 81 3 (K.map Snt.cs) :: .row atx cat 9 1 ((textsOf first K).map sV) :: H) 3 pa (l.map Stp.cs) := hr [_, _, _]
  generalize hR : sendR first now K hand rev l = R
  unfold sendR at hR
  (try (refine st_E42_2 ?_; intros))
  cases hs : sizesOf l with
  | none =>
    rw [if_pos (.inr hs)] at hR
    subst hR
    rw [show szR none = .tuple #[.int .i64 0, .int .i64 0, .bool false] from rfl]
    by_cases hh0 : hand < 0
    · (try (refine st_E42_2 ?_; intros))
      exact q_fin0 (H0 := .blk w (.cells [.slice aw K.length caw, .slice atx (K.length + 1) cat].toArray 76 (0, 0)) :: .row aw caw 81 3 (K.map Snt.cs) :: .row atx cat 9 1 ((textsOf first K).map sV) :: H) ⟨rfl, rfl, rfl⟩ (hd := zpk)
    · (try (refine st_E42_2 ?_; intros))
      exact q_fin0 (H0 := .blk w (.cells [.slice aw K.length caw, .slice atx (K.length + 1) cat].toArray 76 (0, 0)) :: .row aw caw 81 3 (K.map Snt.cs) :: .row atx cat 9 1 ((textsOf first K).map sV) :: H) ⟨rfl, rfl, rfl⟩ (hd := zpk)
  | some ft =>
    obtain ⟨f, t⟩ := ft
    rw [show szR (some (f, t)) = .tuple #[.int .i64 f, .int .i64 t, .bool true] from rfl]
    obtain ⟨hok, hal, hpl, _⟩ := sized hs
    by_cases hh0 : hand < 0
    · rw [if_pos (.inl hh0)] at hR
      subst hR
      (try (refine st_E42_2 ?_; intros))
      exact q_fin0 (H0 := .blk w (.cells [.slice aw K.length caw, .slice atx (K.length + 1) cat].toArray 76 (0, 0)) :: .row aw caw 81 3 (K.map Snt.cs) :: .row atx cat 9 1 ((textsOf first K).map sV) :: H) ⟨rfl, rfl, rfl⟩ (hd := zpk)
    · rw [if_neg (by rw [hs]; simp; omega)] at hR
      by_cases hr0 : rev < 0
      · rw [if_pos (.inl hr0)] at hR
        subst hR
        (try (refine st_E42_2 ?_; intros))
        exact q_fin0 (H0 := .blk w (.cells [.slice aw K.length caw, .slice atx (K.length + 1) cat].toArray 76 (0, 0)) :: .row aw caw 81 3 (K.map Snt.cs) :: .row atx cat 9 1 ((textsOf first K).map sV) :: H) ⟨rfl, rfl, rfl⟩ (hd := zpk)
      · by_cases hr2 : (K.length : Int) < rev
        · rw [if_pos (.inr hr2)] at hR
          subst hR
          (try (refine st_E42_2 ?_; intros))
          exact q_fin0 (H0 := .blk w (.cells [.slice aw K.length caw, .slice atx (K.length + 1) cat].toArray 76 (0, 0)) :: .row aw caw 81 3 (K.map Snt.cs) :: .row atx cat 9 1 ((textsOf first K).map sV) :: H) ⟨rfl, rfl, rfl⟩ (hd := zpk)
        · rw [if_neg (by omega)] at hR
          obtain ⟨n, rfl⟩ : ∃ n : Nat, rev = (n : Int) := ⟨rev.toNat, by omega⟩
          rw [Int.toNat_natCast] at hR
          have hu : (if (n : Int) = K.length then now else textAt first (K.take n)) = textAt first (K.take n) := by
            split
            · rename_i h
              rw [show n = K.length by omega, List.take_length, g.now_]
            · rfl
          rw [hu] at hR
          have hgt := texts_get (first := first) (K := K) (n := n) (by omega)
          have hts := text_small g n
          generalize textAt first (K.take n) = u at *
          refine WL.rowSome (a := atx) (es := (textsOf first K).map sV) zhs (by omega) ?_
          rintro d0 rfl
          (try (refine st_E42_2 ?_; intros))
          refine w_callF Try.func58 ?_ (hs := rApplyT_any hfit hs (by omega) _ _ _ (hr [_, _, _]))
          rintro v m H1 ⟨rfl, rfl, rfl⟩
          by_cases hea : applyE u l = 0
          rotate_left
          · rw [if_pos hea] at hR
            subst hR
            (try (refine st_E42_2 ?_; intros))
            exact q_fin0 (H0 := .blk w (.cells [.slice aw K.length caw, .slice (some d0) (K.length + 1) cat].toArray 76 (0, 0)) :: .row aw caw 81 3 (K.map Snt.cs) :: .row (some d0) cat 9 1 ((textsOf first K).map sV) :: H) ⟨rfl, rfl, rfl⟩ (hd := zpk)
          · rw [if_neg (by simp [hea]), if_neg (by omega)] at hR
            (try (refine st_E42_2 ?_; intros))
            refine w_callF Try.func43 ?_ (hs := say_any hfit hs _ _ _ (hr [_, _, _]))
            rintro _ m _ ⟨rfl, q2, q4, q6, rfl, rfl⟩
            (try (refine st_E42_2 ?_; intros))
            obtain ⟨la1, la2⟩ := said_len (gapsOf l)
            refine w_callF Try.func60 ?_ (hs := rPlain_any la1 la2 (said_small hs) _ _ _)
            rintro v m H1 ⟨rfl, c2, p2, rfl, rfl⟩
            rw [plain_said]
            (try (refine st_E42_2 ?_; intros))
            refine WL.heap (H' := .blk w (.cells [.slice aw K.length caw, .slice (some d0) (K.length + 1) cat].toArray 76 (0, 0)) :: .row aw caw 81 3 (K.map Snt.cs) :: .row (some d0) cat 9 1 ((textsOf first K).map sV) :: .row c2 p2 84 3 ((plainOf l).map Stp.cs) :: H) zpk ?_
            refine w_callF Try.func68 ?_ (hs := rcarried_gen hh (by omega) (by omega) g (plain_sizes hs) _ _ _ hK)
            rintro v m H1 ⟨rfl, hv⟩
            rw [hR] at hv
            have hfp := fit_plain hs
            rcases carried_good2 hand ((K.drop n).map Snt.hl) (plainOf l) ⟨_, _, plain_sizes hs⟩ with ⟨e, he, h1⟩ | ⟨d, h1, fd, td, hsd⟩
            · rw [h1] at hR
              subst hR
              obtain ⟨rfl, rfl⟩ := hv
              (try (refine st_E42_2 ?_; intros))
              exact q_fin0 (H0 := .blk w (.cells [.slice aw K.length caw, .slice (some d0) (K.length + 1) cat].toArray 76 (0, 0)) :: .row aw caw 81 3 (K.map Snt.cs) :: .row (some d0) cat 9 1 ((textsOf first K).map sV) :: H) ⟨rfl, rfl, rfl⟩ (hd := zpk)
            · rw [h1] at hR
              subst hR
              obtain ⟨a2, cap2, rfl, rfl⟩ := hv
              (try (refine st_E42_2 ?_; intros))
              refine WL.heap (H' := .blk w (.cells [.slice aw K.length caw, .slice (some d0) (K.length + 1) cat].toArray 76 (0, 0)) :: .row aw caw 81 3 (K.map Snt.cs) :: .row (some d0) cat 9 1 ((textsOf first K).map sV) :: .row a2 cap2 84 3 (d.map Stp.cs) :: H) zpk ?_
              refine w_callF Try.func69 ?_ (hs := rnext_gen hl g hsd _ _ _ (fun Hx => RowR.row (List.mem_append_right _ List.mem_cons_self)))
              rintro v m H1 ⟨rfl, rfl, aw3, caw3, at3, cat3, rfl⟩
              (try (refine st_E42_2 ?_; intros))
              exact q_fin0 (H0 := .blk w (.cells [.slice aw3 (K ++ [Snt.mk hand d true a2 cap2]).length caw3, .slice at3 ((K ++ [Snt.mk hand d true a2 cap2]).length + 1) cat3].toArray 76 (0, 0)) :: .row aw3 caw3 81 3 ((K ++ [Snt.mk hand d true a2 cap2]).map Snt.cs) :: .row at3 cat3 9 1 ((textsOf first (K ++ [Snt.mk hand d true a2 cap2])).map sV) :: .row a2 cap2 84 3 (d.map Stp.cs) :: H) ⟨rfl, a2, cap2, aw3, caw3, at3, cat3, rfl, rfl⟩ (hd := zpk)
end Go.Proofs.Ytelgegefmjlimaa

/-
  The walk of the law EditConverges. No condition.
-/
namespace Go.Proofs.Ytelgegefmjlimaa
open Go Go.Eng
set_option maxRecDepth 100000
set_option maxHeartbeats 4000000
set_option linter.all false
attribute [local irreducible] WL WC WQ QFun QLoop Does Q1 QRound QAssign Go.Addr.add
attribute [local irreducible] sizesOf carP comP applyV listOf
end Go.Proofs.Ytelgegefmjlimaa

/-
  The walks of the law's back and of the program's Invert. No condition.
-/
namespace Go.Eng
open Go
def invP (l : List Stp) : Int ⊕ List Stp := match sizesOf l with
  | none => .inl 2
  | some _ => .inr (listOf ((atomsOf l).map Atm.inv))
end Go.Eng
namespace Go.Proofs.Ytelgegefmjlimaa
open Go Go.Eng
set_option maxRecDepth 100000
set_option maxHeartbeats 4000000
set_option linter.all false
attribute [local irreducible] WL WC WQ QFun QLoop Does Q1 QRound QAssign Go.Addr.add
attribute [local irreducible] sizesF sizesOf
theorem sq_E25_1 {G : Prop} (h : G := by (repeat (first | (refine sp ?_; (repeat intro zzc)) | (refine iF 40 rfl ?_; refine w_callG Try.func40 ?_ (hs := sizes_any (by assumption) _ _ _ (by assumption))))); exact WQ.q1 rfl) : G := h
theorem st_E25_1 {G G' : Prop} (next : G') (h : Bx G' → G := by intro zzn; (first | ((refine st ?_; (repeat intro zzc)); (try ((first | (refine iF 40 rfl ?_; refine w_callG Try.func40 ?_ (hs := sizes_any (by assumption) _ _ _ (by assumption))) | ((refine iDraw ?_; (first | refine WC.drawAll rfl (by decide +kernel) ?_ | refine WC.draw 1 rfl (by decide +kernel) ?_ | refine WC.draw 2 rfl (by decide +kernel) ?_ | refine WC.draw 3 rfl (by decide +kernel) ?_ | refine WC.draw 4 rfl (by decide +kernel) ?_ | refine WC.draw 5 rfl (by decide +kernel) ?_ | refine WC.draw 6 rfl (by decide +kernel) ?_ | refine WC.draw 7 rfl (by decide +kernel) ?_ | refine WC.draw 8 rfl (by decide +kernel) ?_ | refine WC.draw 9 rfl (by decide +kernel) ?_ | refine WC.draw 10 rfl (by decide +kernel) ?_ | refine WC.draw 11 rfl (by decide +kernel) ?_ | refine WC.draw 12 rfl (by decide +kernel) ?_ | refine WC.draw 13 rfl (by decide +kernel) ?_ | refine WC.draw 14 rfl (by decide +kernel) ?_ | refine WC.draw 15 rfl (by decide +kernel) ?_ | refine WC.draw 16 rfl (by decide +kernel) ?_ | refine WC.draw 17 rfl (by decide +kernel) ?_ | refine WC.draw 18 rfl (by decide +kernel) ?_ | refine WC.draw 19 rfl (by decide +kernel) ?_ | refine WC.draw 20 rfl (by decide +kernel) ?_ | refine WC.draw 21 rfl (by decide +kernel) ?_ | refine WC.draw 22 rfl (by decide +kernel) ?_ | refine WC.draw 23 rfl (by decide +kernel) ?_ | refine WC.draw 24 rfl (by decide +kernel) ?_)); (repeat (refine WD.cons rfl (fun c h => by cases h) sq_E25_1 ?_)); refine WD.nil ?_)); (try (refine st ?_; (repeat intro zzc)))))) | ((first | (refine iF 40 rfl ?_; refine w_callG Try.func40 ?_ (hs := sizes_any (by assumption) _ _ _ (by assumption))) | ((refine iDraw ?_; (first | refine WC.drawAll rfl (by decide +kernel) ?_ | refine WC.draw 1 rfl (by decide +kernel) ?_ | refine WC.draw 2 rfl (by decide +kernel) ?_ | refine WC.draw 3 rfl (by decide +kernel) ?_ | refine WC.draw 4 rfl (by decide +kernel) ?_ | refine WC.draw 5 rfl (by decide +kernel) ?_ | refine WC.draw 6 rfl (by decide +kernel) ?_ | refine WC.draw 7 rfl (by decide +kernel) ?_ | refine WC.draw 8 rfl (by decide +kernel) ?_ | refine WC.draw 9 rfl (by decide +kernel) ?_ | refine WC.draw 10 rfl (by decide +kernel) ?_ | refine WC.draw 11 rfl (by decide +kernel) ?_ | refine WC.draw 12 rfl (by decide +kernel) ?_ | refine WC.draw 13 rfl (by decide +kernel) ?_ | refine WC.draw 14 rfl (by decide +kernel) ?_ | refine WC.draw 15 rfl (by decide +kernel) ?_ | refine WC.draw 16 rfl (by decide +kernel) ?_ | refine WC.draw 17 rfl (by decide +kernel) ?_ | refine WC.draw 18 rfl (by decide +kernel) ?_ | refine WC.draw 19 rfl (by decide +kernel) ?_ | refine WC.draw 20 rfl (by decide +kernel) ?_ | refine WC.draw 21 rfl (by decide +kernel) ?_ | refine WC.draw 22 rfl (by decide +kernel) ?_ | refine WC.draw 23 rfl (by decide +kernel) ?_ | refine WC.draw 24 rfl (by decide +kernel) ?_)); (repeat (refine WD.cons rfl (fun c h => by cases h) sq_E25_1 ?_)); refine WD.nil ?_)); (try (refine st ?_; (repeat intro zzc))))); (repeat ((first | (refine iF 40 rfl ?_; refine w_callG Try.func40 ?_ (hs := sizes_any (by assumption) _ _ _ (by assumption))) | ((refine iDraw ?_; (first | refine WC.drawAll rfl (by decide +kernel) ?_ | refine WC.draw 1 rfl (by decide +kernel) ?_ | refine WC.draw 2 rfl (by decide +kernel) ?_ | refine WC.draw 3 rfl (by decide +kernel) ?_ | refine WC.draw 4 rfl (by decide +kernel) ?_ | refine WC.draw 5 rfl (by decide +kernel) ?_ | refine WC.draw 6 rfl (by decide +kernel) ?_ | refine WC.draw 7 rfl (by decide +kernel) ?_ | refine WC.draw 8 rfl (by decide +kernel) ?_ | refine WC.draw 9 rfl (by decide +kernel) ?_ | refine WC.draw 10 rfl (by decide +kernel) ?_ | refine WC.draw 11 rfl (by decide +kernel) ?_ | refine WC.draw 12 rfl (by decide +kernel) ?_ | refine WC.draw 13 rfl (by decide +kernel) ?_ | refine WC.draw 14 rfl (by decide +kernel) ?_ | refine WC.draw 15 rfl (by decide +kernel) ?_ | refine WC.draw 16 rfl (by decide +kernel) ?_ | refine WC.draw 17 rfl (by decide +kernel) ?_ | refine WC.draw 18 rfl (by decide +kernel) ?_ | refine WC.draw 19 rfl (by decide +kernel) ?_ | refine WC.draw 20 rfl (by decide +kernel) ?_ | refine WC.draw 21 rfl (by decide +kernel) ?_ | refine WC.draw 22 rfl (by decide +kernel) ?_ | refine WC.draw 23 rfl (by decide +kernel) ?_ | refine WC.draw 24 rfl (by decide +kernel) ?_)); (repeat (refine WD.cons rfl (fun c h => by cases h) sq_E25_1 ?_)); refine WD.nil ?_)); (try (refine st ?_; (repeat intro zzc))))); (repeat revert zzc); exact zzn.out) : G := h ⟨next⟩
theorem eInvert_any {a : Option Addr} {cap : Nat} {l : List Stp} (hf : Fit l) (w0 : World) (m : Mem) (H : SHeap) (hr : RowR w0 m H 3 a (l.map Stp.cs)) :
    Does Try.prog 61 #[.slice a l.length cap] w0 m H (ListP 59 (invP l) .i64 m H) := by
  refine Does.of_body (args := [.slice a l.length cap]) Try.func61 rfl Try.ntmps61 rfl ?_
  have hln : (l.map Stp.cs).length = l.length := by simp
  cases hs : sizesOf l with
  | none =>
    have e : invP l = .inl 2 := by simp only [invP, hs]
    have e2 : szP (sizesOf l) = .tuple #[.int .i64 0, .int .i64 0, .int .i64 2] := by rw [hs]; rfl
    rw [e]
    (try (refine st_E25_1 ?_; intros))
    rw [e2]
    (try (refine st_E25_1 ?_; intros))
    exact q_fin0 (H0 := H) ⟨rfl, rfl, rfl⟩ (hd := zpk)
  | some ft =>
    obtain ⟨f, t⟩ := ft
    have e : invP l = .inr (listOf ((atomsOf l).map Atm.inv)) := by simp only [invP, hs]
    have e2 : szP (sizesOf l) = .tuple #[.int .i64 f, .int .i64 t, .int .i64 0] := by rw [hs]; rfl
    obtain ⟨hok, hal, hpl, hfr, _, g1, g2, _, _⟩ := sized hs
    have hlen := steps_le l hok
    rw [e]
    have hlist : listOf ((atomsOf l).map Atm.inv) = (Bld.start.run ((atomsOf l).map Atm.inv)).close.l := rfl
    generalize listOf ((atomsOf l).map Atm.inv) = R at *
    (try (refine st_E25_1 ?_; intros))
    rw [e2]
    (refine st_E25_1 ?_; intros; rename_i b)
    refine WC.newRow (T := 59) (sz := 3) ?_
    refine WC.loopH [(21, .int .i64 ((0) : Int)), (20, .int .i64 (l.length : Int)), (19, .slice a l.length cap), (7, .pointer (some ⟨b, 0, none⟩))] ?_ ?_ (fun j r ds m' H' => ∃ (i : Nat) (c : Option Addr) (cp : Nat) (B : Bld), j = l.length - i ∧ r = [(21, .int .i64 (i : Int)), (20, .int .i64 (l.length : Int)), (19, .slice a l.length cap), (7, .pointer (some ⟨b, 0, none⟩))] ∧ ds = [] ∧ m = m' ∧ H' = .blk b (.cells [.slice c B.l.length cp, str B.p, str B.d].toArray 98 (0, 0)) :: .row c cp 59 3 (B.l.map Stp.cs) :: H ∧ (i ≤ l.length) ∧ (B = Bld.start.run ((atomsOf (l.take i)).map Atm.inv))) (l.length - (0)) ⟨0, none, 0, Bld.start, rfl, rfl, rfl, rfl, rfl, by omega, by simp [atomsOf, Bld.run]⟩ ?_
    · (repeat (first | exact Env.Sub.nil | refine Env.Sub.cons rfl ?_))
    · exact zpk
    rintro j r ds m' H' ⟨i, c, cp, B, rfl, rfl, rfl, rfl, rfl, hi, hB⟩
    have htl : (atomsOf (l.take i)).length ≤ (atomsOf l).length := by
      have e : atomsOf l = atomsOf (l.take i) ++ atomsOf (l.drop i) := by rw [← atoms_append, List.take_append_drop]
      rw [e]; simp
    have hfit : BFit 10000000000 B := by rw [hB]; exact (BFit.runs _).mono (by rw [List.length_map]; omega)
    by_cases hlt : i < l.length
    · obtain ⟨x, hx, hget, htk, hmem, hdr⟩ := at_idx (f := Stp.cs) hlt
      have hr1 := (hr.more (i := .row c cp 59 3 (B.l.map Stp.cs))).more (i := .blk b (.cells [.slice c B.l.length cp, str B.p, str B.d].toArray 98 (0, 0)))
      have hxl := mem_atoms hmem
      have hxb := stp_bounds (hok x hmem)
      refine WC.rSome hr1 (by omega) ?_
      rintro a0 rfl
      (refine st_E25_1 ?_; intros; rename_i bx)
      refine WL.heap (H' := .blk b (.cells [.slice c B.l.length cp, str B.p, str B.d].toArray 98 (0, 0)) :: .row c cp 59 3 (B.l.map Stp.cs) :: H) zpk ?_
      refine w_callF Try.func45 ?_ (hs := step_any B x.inv (by simp only [Stp.inv]; omega) (by simp only [Stp.inv]; omega) (by simp only [Stp.inv]; omega) (hfit.mono (by omega)) _ _ _)
      rintro v m H1 ⟨rfl, rfl, c1, cp1, rfl⟩
      (try (refine st_E25_1 ?_; intros))
      refine WQ.next (l.length - (i + 1)) ⟨i + 1, c1, cp1, B.step x.inv, rfl, rfl, rfl, rfl, rfl, ?_, ?_⟩ (by omega) zsb zpk
      · omega
      · rw [htk, atoms_append, List.map_append, run_append, ← hB, atoms_one, ← inv_atoms (hok x hmem), run_step _ _ (inv_ok (hok x hmem))]
    · obtain rfl : i = l.length := by omega
      have hlen2 := hfit.len
      rw [List.take_length] at hB
      rw [hlist, ← hB]
      (try (refine st_E25_1 ?_; intros))
      refine w_callF Try.func48 ?_ (hs := done_any B (by omega) _ _ _)
      rintro v m H1 ⟨rfl, c1, cp1, rfl, rfl⟩
      (try (refine st_E25_1 ?_; intros))
      exact q_fin0 (H0 := .row c1 cp1 59 3 (B.close.l.map Stp.cs) :: H) ⟨rfl, c1, cp1, rfl, rfl⟩ (hd := zpk)
end Go.Proofs.Ytelgegefmjlimaa

/-
  The walk of a sheet's Undo on any sheet. No condition.
-/
namespace Go.Eng
open Go Go.RowKit
/-- the last change of a hand that is left, among so many -/
def lastK (K : List (Int × List Stp × Bool)) (hand : Int) : Nat → Option Nat
  | 0 => none
  | k + 1 => if (K[k]?.any fun x => decide (x.1 = hand) && x.2.2) = true then some k else lastK K hand k
def Snt.d (x : Snt) : Int × List Stp × Bool := (x.h, x.l, x.left)
def unleft (K : List Snt) (j : Nat) : List Snt := match K[j]? with | some x => K.set j (Snt.mk x.h x.l false x.a x.cap) | none => K
def invL (l : List Stp) : List Stp := listOf ((atomsOf l).map Atm.inv)
/-- what Undo does: which change it undoes, and by what -/
def undoR (K : List Snt) (hand : Int) : Int ⊕ (Nat × List Stp) :=
  if hand < 0 then .inl 2 else match lastK (K.map Snt.d) hand K.length with
  | none => .inl 4
  | some k => match carriedP hand ((K.drop (k + 1)).map Snt.hl) (invL ((K[k]?.map Snt.l).getD [])) with
    | .inl e => .inl e
    | .inr d => .inr (k, d)
def UndoG (T1 T2 T3 : TypeId) (b : Nat) (now first : List UInt8) (ra : Option Addr) (cra : Nat) (K : List Snt) (hand : Int) (m : Mem) (H : SHeap) (res : Int ⊕ (Nat × List Stp)) : Value → Mem → SHeap → Prop := fun v m' H' => m' = m ∧ match res with
  | .inl e => v = .tuple #[.slice none 0 0, .int .i64 e] ∧ H' = .blk b (.cells [str now, str first, .slice ra K.length cra].toArray T1 (0, 0)) :: .row ra cra T3 3 (K.map Snt.cs) :: H
  | .inr (j, d) => ∃ c cp a cap ra' cra', v = .tuple #[.slice c d.length cp, .int .i64 0] ∧ H' = .row c cp T2 3 (d.map Stp.cs) :: .blk b (.cells [str (applyT now d), str first, .slice ra' (unleft K j ++ [Snt.mk hand d false a cap]).length cra'].toArray T1 (0, 0)) :: .row ra' cra' T3 3 ((unleft K j ++ [Snt.mk hand d false a cap]).map Snt.cs) :: .row a cap T2 3 (d.map Stp.cs) :: H
end Go.Eng
namespace Go.Proofs.Ytelgegefmjlimaa
open Go Go.Eng
set_option maxRecDepth 100000
set_option maxHeartbeats 4000000
set_option linter.all false
attribute [local irreducible] WL WC WQ QFun QLoop Does Q1 QRound QAssign Go.Addr.add
attribute [local irreducible] sizesOf sizesF applyV applyT applyE listOf plainOf applyA textAt carP overP carriedP invL
theorem first2_any {hb : Nat} {hand h : Int} (w0 : World) (m : Mem) (H : SHeap) :
    Does Try.prog 67 #[.int .i64 h, .pointer (some ⟨hb, 0, none⟩)] w0 m (.blk hb (.cells [.int .i64 hand].toArray 3 (0, 0)) :: H) (Gives (.bool (dcd (h ≤ hand))) m (.blk hb (.cells [.int .i64 hand].toArray 3 (0, 0)) :: H)) := by
  refine Does.of_body (args := [.int .i64 h, .pointer (some ⟨hb, 0, none⟩)]) Try.func67 rfl Try.ntmps67 rfl ?_
  (try (refine st ?_; intros))
  exact q_fin0 (H0 := .blk hb (.cells [.int .i64 hand].toArray 3 (0, 0)) :: H) (Gives.mk rfl) (hd := zpk)
theorem undo_gen {b : Nat} {now first : List UInt8} {ra : Option Addr} {cra : Nat} {K : List Snt} {hand : Int} (hh : -9223372036854775808 ≤ hand ∧ hand ≤ 9223372036854775807) (hl : K.length ≤ 1000) (g : GoodS first K now) (w0 : World) (m : Mem) (H : SHeap) (hK : ∀ x ∈ K, x.it 59 ∈ H) :
    Does Try.prog 33 #[.pointer (some ⟨b, 0, none⟩), .int .i64 hand] w0 m (.blk b (.cells [str now, str first, .slice ra K.length cra].toArray 131 (0, 0)) :: .row ra cra 136 3 (K.map Snt.cs) :: H) (UndoG 131 59 136 b now first ra cra K hand m H (undoR K hand)) := by
  refine Does.of_body (args := [.pointer (some ⟨b, 0, none⟩), .int .i64 hand]) Try.func33 rfl Try.ntmps33 rfl ?_
  have hKl : (K.map Snt.cs).length = K.length := by simp
  generalize hR : undoR K hand = R
  unfold undoR at hR
  by_cases h0 : hand < 0
  · rw [if_pos h0] at hR
    subst hR
    (try (refine st ?_; intros))
    exact q_fin0 (H0 := .blk b (.cells [str now, str first, .slice ra K.length cra].toArray 131 (0, 0)) :: .row ra cra 136 3 (K.map Snt.cs) :: H) ⟨rfl, rfl, rfl⟩ (hd := zpk)
  · rw [if_neg h0] at hR
    (refine st ?_; intros; rename_i hb)
    refine WC.loopH [(6, .int .i64 (((K.length) : Int) - 1)), (3, .pointer (some ⟨hb, 0, none⟩)), (0, .pointer (some ⟨b, 0, none⟩))] ?_ ?_ (fun j r ds m' H' => ∃ (k : Nat), j = 2 * k ∧ r = [(6, .int .i64 ((k : Int) - 1)), (3, .pointer (some ⟨hb, 0, none⟩)), (0, .pointer (some ⟨b, 0, none⟩))] ∧ ds = [] ∧ m = m' ∧ H' = .blk hb (.cells [.int .i64 hand].toArray 3 (0, 0)) :: .blk b (.cells [str now, str first, .slice ra K.length cra].toArray 131 (0, 0)) :: .row ra cra 136 3 (K.map Snt.cs) :: H ∧ (k ≤ K.length) ∧ (lastK (K.map Snt.d) hand K.length = lastK (K.map Snt.d) hand k)) (2 * (K.length)) ⟨K.length, rfl, rfl, rfl, rfl, rfl, Nat.le_refl _, rfl⟩ ?_
    · (repeat (first | exact Env.Sub.nil | refine Env.Sub.cons rfl ?_))
    · exact zpk
    rintro j r ds m' H' ⟨k, rfl, rfl, rfl, rfl, rfl, hk, hP⟩
    by_cases hk0 : 0 < k
    · obtain ⟨q, rfl⟩ : ∃ q, k = q + 1 := ⟨k - 1, by omega⟩
      have ej : ((q + 1 : Nat) : Int) - 1 = (q : Int) := by omega
      rw [ej]
      have hn : q < K.length := by omega
      obtain ⟨x, hx, hget, htk, hmem, hdr⟩ := at_idx (f := Snt.cs) hn
      have hxs : x.cs = [.int .i64 x.h, .slice x.a x.l.length x.cap, .bool x.left] := rfl
      rw [hxs] at hget
      have hd : (K.map Snt.d)[q]? = some (x.h, x.l, x.left) := by rw [List.getElem?_map, hx]; rfl
      rw [lastK, hd] at hP
      simp only [Option.any_some] at hP
      refine WC.rowSome (a := ra) (es := K.map Snt.cs) zhs (by omega) ?_
      rintro d0 rfl
      by_cases hxh : x.h = hand
      · cases hlf : x.left with
        | false =>
          rw [hlf] at hP hget
          rw [if_neg (by simp)] at hP
          (try (refine st ?_; intros))
          refine WQ.next (2 * (q)) ⟨q, rfl, rfl, rfl, rfl, rfl, ?_, ?_⟩ (by omega) zsb zpk
          · omega
          · exact hP
        | true =>
          rw [hlf] at hP hget
          rw [if_pos (by simp [hxh])] at hP
          rw [hP] at hR
          simp only [hx, Option.map_some, Option.getD_some] at hR
          have hrx : RowR w0 m H 3 x.a (x.l.map Stp.cs) := RowR.row (hK x hmem)
          obtain ⟨f1, t1, hsz⟩ := g.sized hmem
          have hinv : invP x.l = .inr (invL x.l) := by unfold invP invL; rw [hsz]
          have hfx := fit_sized hsz
          have hfi : Fit (invL x.l) := by
            obtain ⟨_, _, _, q1, q2, _, q4, _, q6⟩ := sized hsz
            obtain ⟨n1, n2⟩ := inv_from (atomsOf x.l)
            unfold invL
            exact fit_list (by omega) (by omega)
          (try (refine st ?_; intros))
          refine w_callF Try.func61 ?_ (hs := eInvert_any hfx _ _ _ hrx.more.more.more)
          rintro v m H1 ⟨rfl, hv⟩
          rw [hinv] at hv
          obtain ⟨c1, cp1, rfl, rfl⟩ := hv
          have eq1 : (q : Int) + 1 = ((q + 1 : Nat) : Int) := by omega
          (try (refine st ?_; intros))
          rw [eq1]
          refine WL.heap (H' := .blk b (.cells [str now, str first, .slice (some d0) K.length cra].toArray 131 (0, 0)) :: .row (some d0) cra 136 3 (K.map Snt.cs) :: .blk hb (.cells [.int .i64 hand].toArray 3 (0, 0)) :: .row c1 cp1 59 3 ((invL x.l).map Stp.cs) :: H) zpk ?_
          refine w_callF Try.func64 ?_ (hs := carried_gen (by omega) (by omega) g.fit hfi Try.func67 rfl rfl _ _ _ (fun h m H _ => first2_any _ m H) g.h hK)
          rintro v m H1 ⟨rfl, hv⟩
          rcases carried_cases hand ((K.drop (q + 1)).map Snt.hl) _ hfi with ⟨e, he, h1⟩ | ⟨d, h1, hfd⟩
          · rw [h1] at hv hR
            subst hR
            obtain ⟨rfl, rfl⟩ := hv
            (try (refine st ?_; intros))
            exact q_fin0 (H0 := .blk b (.cells [str now, str first, .slice (some d0) K.length cra].toArray 131 (0, 0)) :: .row (some d0) cra 136 3 (K.map Snt.cs) :: H) ⟨rfl, rfl, rfl⟩ (hd := zpk)
          · rw [h1] at hv hR
            subst hR
            obtain ⟨a2, cap2, rfl, rfl⟩ := hv
            (try (refine st ?_; intros))
            have eu : unleft K q = K.set q (Snt.mk x.h x.l false x.a x.cap) := by unfold unleft; rw [hx]
            have es : (K.map Snt.cs).set q [.int .i64 x.h, .slice x.a x.l.length x.cap, .bool false] = (unleft K q).map Snt.cs := by rw [eu, List.map_set]; rfl
            have el : K.length = (unleft K q).length := by rw [eu, List.length_set]
            have hnl : now.length ≤ 65536 := by rw [← g.now_]; have := text_small g K.length; rwa [List.take_length] at this
            rw [es, el]
            refine WL.heap (H' := .blk b (.cells [str now, str first, .slice (some d0) (unleft K q).length cra].toArray 131 (0, 0)) :: .row (some d0) cra 136 3 ((unleft K q).map Snt.cs) :: .row a2 cap2 59 3 (d.map Stp.cs) :: H) zpk ?_
            refine w_callF Try.func66 ?_ (hs := make_gen (by omega) hfd (by omega) _ _ _ (RowR.row (a := a2) zhs))
            rintro v m H1 ⟨rfl, c, cp, ra3, cra3, rfl, rfl⟩
            (try (refine st ?_; intros))
            exact q_fin0 (H0 := .row c cp 59 3 (d.map Stp.cs) :: .blk b (.cells [str (applyT now d), str first, .slice ra3 (unleft K q ++ [Snt.mk hand d false a2 cap2]).length cra3].toArray 131 (0, 0)) :: .row ra3 cra3 136 3 ((unleft K q ++ [Snt.mk hand d false a2 cap2]).map Snt.cs) :: .row a2 cap2 59 3 (d.map Stp.cs) :: H) ⟨rfl, c, cp, a2, cap2, ra3, cra3, rfl, rfl⟩ (hd := zpk)
      · rw [if_neg (by simp [hxh])] at hP
        (try (refine st ?_; intros))
        refine WQ.next (2 * (q)) ⟨q, rfl, rfl, rfl, rfl, rfl, ?_, ?_⟩ (by omega) zsb zpk
        · omega
        · exact hP
    · obtain rfl : k = 0 := by omega
      rw [lastK] at hP
      rw [hP] at hR
      subst hR
      (try (refine st ?_; intros))
      exact q_fin0 (H0 := .blk b (.cells [str now, str first, .slice ra K.length cra].toArray 131 (0, 0)) :: .row ra cra 136 3 (K.map Snt.cs) :: H) ⟨rfl, rfl, rfl⟩ (hd := zpk)
end Go.Proofs.Ytelgegefmjlimaa

/-
  The walk of the reference's Undo. No condition.
-/
namespace Go.Eng
open Go Go.RowKit
theorem textAt_same : ∀ (K K2 : List Snt) (s : List UInt8), K.map (·.l) = K2.map (·.l) → textAt s K = textAt s K2
  | [], [], s, _ => rfl
  | [], _ :: _, s, h => by simp at h
  | _ :: _, [], s, h => by simp at h
  | x :: K, y :: K2, s, h => by
    simp only [List.map_cons, List.cons.injEq] at h
    have := textAt_same K K2 (applyT s x.l) h.2
    unfold textAt at this ⊢
    rw [List.foldl_cons, List.foldl_cons, ← h.1]; exact this
theorem texts_same {K K2 : List Snt} (s : List UInt8) (h : K.map (·.l) = K2.map (·.l)) : textsOf s K = textsOf s K2 := by
  have hl : K.length = K2.length := by have := congrArg List.length h; simpa using this
  unfold textsOf
  rw [hl]
  refine List.map_congr_left fun n _ => textAt_same _ _ _ ?_
  rw [List.map_take, List.map_take, h]
theorem unleft_l (K : List Snt) (j : Nat) : (unleft K j).map (·.l) = K.map (·.l) := by
  unfold unleft
  cases h : K[j]? with
  | none => rfl
  | some x =>
    simp only
    rw [List.map_set]
    have h1 : (K.map (·.l))[j]? = some x.l := by rw [List.getElem?_map, h]; rfl
    obtain ⟨a, b⟩ := List.getElem?_eq_some_iff.1 h1
    rw [← b, List.set_getElem_self]
theorem unleft_len (K : List Snt) (j : Nat) : (unleft K j).length = K.length := by have := congrArg List.length (unleft_l K j); simpa using this
theorem unleft_mem {K : List Snt} {j : Nat} {y : Snt} (h : y ∈ unleft K j) : ∃ x ∈ K, y.l = x.l ∧ y.h = x.h ∧ y.a = x.a ∧ y.cap = x.cap := by
  unfold unleft at h
  cases hx : K[j]? with
  | none => rw [hx] at h; exact ⟨y, h, rfl, rfl, rfl, rfl⟩
  | some x =>
    rw [hx] at h
    rcases List.mem_or_eq_of_mem_set h with h1 | h1
    · exact ⟨y, h1, rfl, rfl, rfl, rfl⟩
    · subst h1; exact ⟨x, List.mem_of_getElem? hx, rfl, rfl, rfl, rfl⟩
theorem GoodS.unleft {first now : List UInt8} {K : List Snt} (g : GoodS first K now) (j : Nat) : GoodS first (unleft K j) now := by
  refine ⟨by rw [unleft_l]; exact g.chain, fun y hy => ?_, g.fl, fun y hy => ?_⟩
  · obtain ⟨x, hx, h1, _⟩ := unleft_mem hy
    rw [h1]; exact g.nf x hx
  · obtain ⟨x, hx, _, h1, _⟩ := unleft_mem hy
    rw [h1]; exact g.h x hx
def RUndoG (T1 T2 T3 TS : TypeId) (w : Nat) (first : List UInt8) (aw : Option Addr) (caw : Nat) (atx : Option Addr) (cat : Nat) (K : List Snt) (hand : Int) (m : Mem) (H : SHeap) (res : Int ⊕ (Nat × List Stp)) : Value → Mem → SHeap → Prop := fun v m' H' => m' = m ∧ match res with
  | .inl e => v = .tuple #[.slice none 0 0, .int .i64 e] ∧ H' = .blk w (.cells [.slice aw K.length caw, .slice atx (K.length + 1) cat].toArray T1 (0, 0)) :: .row aw caw T3 3 (K.map Snt.cs) :: .row atx cat TS 1 ((textsOf first K).map sV) :: H
  | .inr (j, d) => ∃ a cap aw' caw' at' cat', v = .tuple #[.slice a d.length cap, .int .i64 0] ∧ H' = .blk w (.cells [.slice aw' (Eng.unleft K j ++ [Snt.mk hand d false a cap]).length caw', .slice at' ((Eng.unleft K j ++ [Snt.mk hand d false a cap]).length + 1) cat'].toArray T1 (0, 0)) :: .row aw' caw' T3 3 ((Eng.unleft K j ++ [Snt.mk hand d false a cap]).map Snt.cs) :: .row at' cat' TS 1 ((textsOf first (Eng.unleft K j ++ [Snt.mk hand d false a cap])).map sV) :: .row a cap T2 3 (d.map Stp.cs) :: H
end Go.Eng
namespace Go.Proofs.Ytelgegefmjlimaa
open Go Go.Eng
set_option maxRecDepth 100000
set_option maxHeartbeats 4000000
set_option linter.all false
attribute [local irreducible] WL WC WQ QFun QLoop Does Q1 QRound QAssign Go.Addr.add
attribute [local irreducible] sizesOf sizesF applyV applyT applyE listOf plainOf applyA textAt carP overP carriedP textsOf invL
theorem rundo_gen {w : Nat} {first now : List UInt8} {aw atx : Option Addr} {caw cat : Nat} {K : List Snt} {hand : Int} (hh : -9223372036854775808 ≤ hand ∧ hand ≤ 9223372036854775807) (hl : K.length ≤ 1000) (g : GoodS first K now) (w0 : World) (m : Mem) (H : SHeap) (hK : ∀ x ∈ K, x.it 84 ∈ H) :
    Does Try.prog 37 #[.pointer (some ⟨w, 0, none⟩), .int .i64 hand] w0 m (.blk w (.cells [.slice aw K.length caw, .slice atx (K.length + 1) cat].toArray 76 (0, 0)) :: .row aw caw 81 3 (K.map Snt.cs) :: .row atx cat 9 1 ((textsOf first K).map sV) :: H) (RUndoG 76 84 81 9 w first aw caw atx cat K hand m H (undoR K hand)) := by
  refine Does.of_body (args := [.pointer (some ⟨w, 0, none⟩), .int .i64 hand]) Try.func37 rfl Try.ntmps37 rfl ?_
  have hKl : (K.map Snt.cs).length = K.length := by simp
  generalize hR : undoR K hand = R
  unfold undoR at hR
  by_cases h0 : hand < 0
  · rw [if_pos h0] at hR
    subst hR
    (try (refine st ?_; intros))
    exact q_fin0 (H0 := .blk w (.cells [.slice aw K.length caw, .slice atx (K.length + 1) cat].toArray 76 (0, 0)) :: .row aw caw 81 3 (K.map Snt.cs) :: .row atx cat 9 1 ((textsOf first K).map sV) :: H) ⟨rfl, rfl, rfl⟩ (hd := zpk)
  · rw [if_neg h0] at hR
    (try (refine st ?_; intros))
    refine WC.loopH [(6, .int .i64 (((K.length) : Int) - 1)), (1, .int .i64 hand), (0, .pointer (some ⟨w, 0, none⟩))] ?_ ?_ (fun j r ds m' H' => ∃ (k : Nat), j = 2 * k ∧ r = [(6, .int .i64 ((k : Int) - 1)), (1, .int .i64 hand), (0, .pointer (some ⟨w, 0, none⟩))] ∧ ds = [] ∧ m = m' ∧ H' = .blk w (.cells [.slice aw K.length caw, .slice atx (K.length + 1) cat].toArray 76 (0, 0)) :: .row aw caw 81 3 (K.map Snt.cs) :: .row atx cat 9 1 ((textsOf first K).map sV) :: H ∧ (k ≤ K.length) ∧ (lastK (K.map Snt.d) hand K.length = lastK (K.map Snt.d) hand k)) (2 * (K.length)) ⟨K.length, rfl, rfl, rfl, rfl, rfl, Nat.le_refl _, rfl⟩ ?_
    · (repeat (first | exact Env.Sub.nil | refine Env.Sub.cons rfl ?_))
    · exact zpk
    rintro j r ds m' H' ⟨k, rfl, rfl, rfl, rfl, rfl, hk, hP⟩
    by_cases hk0 : 0 < k
    · obtain ⟨q, rfl⟩ : ∃ q, k = q + 1 := ⟨k - 1, by omega⟩
      have ej : ((q + 1 : Nat) : Int) - 1 = (q : Int) := by omega
      rw [ej]
      have hn : q < K.length := by omega
      obtain ⟨x, hx, hget, htk, hmem, hdr⟩ := at_idx (f := Snt.cs) hn
      have hxs : x.cs = [.int .i64 x.h, .slice x.a x.l.length x.cap, .bool x.left] := rfl
      rw [hxs] at hget
      have hd : (K.map Snt.d)[q]? = some (x.h, x.l, x.left) := by rw [List.getElem?_map, hx]; rfl
      rw [lastK, hd] at hP
      simp only [Option.any_some] at hP
      refine WC.rowSome (a := aw) (es := K.map Snt.cs) zhs (by omega) ?_
      rintro d0 rfl
      by_cases hxh : x.h = hand
      · cases hlf : x.left with
        | false =>
          rw [hlf] at hP hget
          rw [if_neg (by simp)] at hP
          (try (refine st ?_; intros))
          refine WQ.next (2 * (q)) ⟨q, rfl, rfl, rfl, rfl, rfl, ?_, ?_⟩ (by omega) zsb zpk
          · omega
          · exact hP
        | true =>
          rw [hlf] at hP hget
          rw [if_pos (by simp [hxh])] at hP
          rw [hP] at hR
          simp only [hx, Option.map_some, Option.getD_some] at hR
          have hrx : RowR w0 m H 3 x.a (x.l.map Stp.cs) := RowR.row (hK x hmem)
          obtain ⟨f1, t1, hsz⟩ := g.sized hmem
          obtain ⟨hok, _, _, q1, q2, _, q4, _, q6⟩ := sized hsz
          have hinv : invL x.l = listOf ((nfOf (gapsOf x.l)).map Atm.inv) := by unfold invL; exact inv_nf x.l hok
          have hfx := fit_sized hsz
          obtain ⟨n1, n2⟩ := inv_from (atomsOf x.l)
          have hsi : sizesOf (invL x.l) = some (t1, f1) := by
            unfold invL
            rw [sizes_list _ (by omega) (by omega), n1, n2, q1, q2]
          have eq1 : (q : Int) + 1 = ((q + 1 : Nat) : Int) := by omega
          (try (refine st ?_; intros))
          refine w_callF Try.func35 ?_ (hs := rInvert_any hfx hsz _ _ _ hrx.more.more.more)
          rintro v m H1 ⟨rfl, c1, cp1, rfl, rfl⟩
          rw [← hinv, eq1]
          (try (refine st ?_; intros))
          refine WL.heap (H' := .blk w (.cells [.slice (some d0) K.length caw, .slice atx (K.length + 1) cat].toArray 76 (0, 0)) :: .row (some d0) caw 81 3 (K.map Snt.cs) :: .row atx cat 9 1 ((textsOf first K).map sV) :: .row c1 cp1 84 3 ((invL x.l).map Stp.cs) :: H) zpk ?_
          refine w_callF Try.func68 ?_ (hs := rcarried_gen hh (by omega) (by omega) g hsi _ _ _ hK)
          rintro v m H1 ⟨rfl, hv⟩
          rcases carried_good2 hand ((K.drop (q + 1)).map Snt.hl) (invL x.l) ⟨_, _, hsi⟩ with ⟨e, he, h1⟩ | ⟨d, h1, fd, td, hsd⟩
          · rw [h1] at hv hR
            subst hR
            obtain ⟨rfl, rfl⟩ := hv
            (try (refine st ?_; intros))
            exact q_fin0 (H0 := .blk w (.cells [.slice (some d0) K.length caw, .slice atx (K.length + 1) cat].toArray 76 (0, 0)) :: .row (some d0) caw 81 3 (K.map Snt.cs) :: .row atx cat 9 1 ((textsOf first K).map sV) :: H) ⟨rfl, rfl, rfl⟩ (hd := zpk)
          · rw [h1] at hv hR
            subst hR
            obtain ⟨a2, cap2, rfl, rfl⟩ := hv
            (try (refine st ?_; intros))
            have eu : Eng.unleft K q = K.set q (Snt.mk x.h x.l false x.a x.cap) := by unfold Eng.unleft; rw [hx]
            have es : (K.map Snt.cs).set q [.int .i64 x.h, .slice x.a x.l.length x.cap, .bool false] = (Eng.unleft K q).map Snt.cs := by rw [eu, List.map_set]; rfl
            have el : K.length = (Eng.unleft K q).length := by rw [eu, List.length_set]
            have et : textsOf first K = textsOf first (Eng.unleft K q) := texts_same first (unleft_l K q).symm
            rw [es, el, et]
            refine WL.heap (H' := .blk w (.cells [.slice (some d0) (Eng.unleft K q).length caw, .slice atx ((Eng.unleft K q).length + 1) cat].toArray 76 (0, 0)) :: .row (some d0) caw 81 3 ((Eng.unleft K q).map Snt.cs) :: .row atx cat 9 1 ((textsOf first (Eng.unleft K q)).map sV) :: .row a2 cap2 84 3 (d.map Stp.cs) :: H) zpk ?_
            refine w_callF Try.func69 ?_ (hs := rnext_gen (by omega) (g.unleft q) hsd _ _ _ (fun Hx => RowR.row (List.mem_append_right _ List.mem_cons_self)))
            rintro v m H1 ⟨rfl, rfl, aw3, caw3, at3, cat3, rfl⟩
            (try (refine st ?_; intros))
            exact q_fin0 (H0 := .blk w (.cells [.slice aw3 (Eng.unleft K q ++ [Snt.mk hand d false a2 cap2]).length caw3, .slice at3 ((Eng.unleft K q ++ [Snt.mk hand d false a2 cap2]).length + 1) cat3].toArray 76 (0, 0)) :: .row aw3 caw3 81 3 ((Eng.unleft K q ++ [Snt.mk hand d false a2 cap2]).map Snt.cs) :: .row at3 cat3 9 1 ((textsOf first (Eng.unleft K q ++ [Snt.mk hand d false a2 cap2])).map sV) :: .row a2 cap2 84 3 (d.map Stp.cs) :: H) ⟨rfl, a2, cap2, aw3, caw3, at3, cat3, rfl, rfl⟩ (hd := zpk)
      · rw [if_neg (by simp [hxh])] at hP
        (try (refine st ?_; intros))
        refine WQ.next (2 * (q)) ⟨q, rfl, rfl, rfl, rfl, rfl, ?_, ?_⟩ (by omega) zsb zpk
        · omega
        · exact hP
    · obtain rfl : k = 0 := by omega
      rw [lastK] at hP
      rw [hP] at hR
      subst hR
      (try (refine st ?_; intros))
      exact q_fin0 (H0 := .blk w (.cells [.slice aw K.length caw, .slice atx (K.length + 1) cat].toArray 76 (0, 0)) :: .row aw caw 81 3 (K.map Snt.cs) :: .row atx cat 9 1 ((textsOf first K).map sV) :: H) ⟨rfl, rfl, rfl⟩ (hd := zpk)
end Go.Proofs.Ytelgegefmjlimaa

/-
  The walk of the law's comparison of changes. No condition.
-/
namespace Go.Proofs.Ytelgegefmjlimaa
open Go Go.Eng
set_option maxRecDepth 100000
set_option maxHeartbeats 4000000
set_option linter.all false
attribute [local irreducible] WL WC WQ QFun QLoop Does Q1 QRound QAssign Go.Addr.add
theorem same_any {pa pb : Option Addr} {ca cb : Nat} {l : List Stp} (hl : l.length ≤ 1000000000) (w0 : World) (m : Mem) (H : SHeap) (hra : RowR w0 m H 3 pa (l.map Stp.cs)) (hrb : RowR w0 m H 3 pb (l.map Stp.cs)) :
    Does Try.prog 19 #[.slice pa l.length ca, .slice pb l.length cb] w0 m H (Gives (.bool true) m H) := by
  refine Does.of_body (args := [.slice pa l.length ca, .slice pb l.length cb]) Try.func19 rfl Try.ntmps19 rfl ?_
  have hln : (l.map Stp.cs).length = l.length := by simp
  (try (refine st ?_; intros))
  refine WC.loopH [(5, .int .i64 ((0) : Int)), (0, .slice pa l.length ca), (1, .slice pb l.length cb)] ?_ ?_ (fun j r ds m' H' => ∃ i, j = l.length - i ∧ r = [(5, .int .i64 (i : Int)), (0, .slice pa l.length ca), (1, .slice pb l.length cb)] ∧ ds = [] ∧ m = m' ∧ H' = H ∧ (i ≤ l.length) ∧ (RowR w0 m H 3 pa (l.map Stp.cs)) ∧ (RowR w0 m H 3 pb (l.map Stp.cs))) (l.length - (0)) ⟨0, rfl, rfl, rfl, rfl, rfl, by omega, hra, hrb⟩ ?_
  · (repeat (first | exact Env.Sub.nil | refine Env.Sub.cons rfl ?_))
  · exact zpk
  rintro j r ds m' H' ⟨i, rfl, rfl, rfl, rfl, rfl, hi, hra, hrb⟩
  generalize H' = H at *
  by_cases hlt : i < l.length
  · obtain ⟨x, hx, hget, htk, hmem, hdr⟩ := at_idx (f := Stp.cs) hlt
    refine WC.rSome hra (by omega) ?_
    rintro a0 rfl
    refine WC.rSome hrb (by omega) ?_
    rintro b0 rfl
    have h1 : x.d = x.d := rfl
    have h2 : x.p = x.p := rfl
    (try (refine st ?_; intros))
    refine WQ.next (l.length - (i + 1)) ⟨i + 1, rfl, rfl, rfl, rfl, rfl, ?_, ?_, ?_⟩ (by omega) zsb zpk
    · omega
    · assumption
    · assumption
  · obtain rfl : i = l.length := by omega
    (try (refine st ?_; intros))
    exact q_fin0 (H0 := H) (Gives.mk rfl) (hd := zpk)
end Go.Proofs.Ytelgegefmjlimaa

/-
  The walk of the law's asked: a revision, of the sheet and of the reference's. No condition.
-/
namespace Go.Eng
open Go Go.RowKit
theorem same_l {K K2 : List Snt} (h : K.map Snt.d = K2.map Snt.d) : K.map (·.l) = K2.map (·.l) := by
  have := congrArg (List.map fun x => x.2.1) h
  rw [List.map_map, List.map_map] at this; exact this
theorem same_hl {K K2 : List Snt} (h : K.map Snt.d = K2.map Snt.d) : K.map Snt.hl = K2.map Snt.hl := by
  have := congrArg (List.map fun x => (x.1, x.2.1)) h
  rw [List.map_map, List.map_map] at this; exact this
theorem same_len {K K2 : List Snt} (h : K.map Snt.d = K2.map Snt.d) : K.length = K2.length := by have := congrArg List.length h; simpa using this
theorem same_at {K K2 : List Snt} (h : K.map Snt.d = K2.map Snt.d) {i : Nat} {x : Snt} (hx : K[i]? = some x) : ∃ y, K2[i]? = some y ∧ y.h = x.h ∧ y.l = x.l ∧ y.left = x.left := by
  have := congrArg (·[i]?) h
  simp only [List.getElem?_map, hx, Option.map_some] at this
  obtain ⟨y, h1, h2⟩ := Option.map_eq_some_iff.1 this.symm
  refine ⟨y, h1, ?_⟩
  simp only [Snt.d, Prod.mk.injEq] at h2
  exact h2
theorem same_text {K K2 : List Snt} (h : K.map Snt.d = K2.map Snt.d) (s : List UInt8) (n : Nat) : textAt s (K.take n) = textAt s (K2.take n) := textAt_same _ _ _ (by rw [List.map_take, List.map_take, same_l h])
theorem GoodS.same {first now : List UInt8} {K K2 : List Snt} (g : GoodS first K now) (h : K.map Snt.d = K2.map Snt.d) : GoodS first K2 now := by
  refine ⟨by rw [← same_l h]; exact g.chain, fun y hy => ?_, g.fl, fun y hy => ?_⟩
  · obtain ⟨i, hi⟩ := List.getElem?_of_mem hy
    obtain ⟨x, h1, h2, h3, h4⟩ := same_at h.symm hi
    rw [← h3]; exact g.nf x (List.mem_of_getElem? h1)
  · obtain ⟨i, hi⟩ := List.getElem?_of_mem hy
    obtain ⟨x, h1, h2, h3, h4⟩ := same_at h.symm hi
    rw [← h2]; exact g.h x (List.mem_of_getElem? h1)
end Go.Eng
namespace Go.Proofs.Ytelgegefmjlimaa
open Go Go.Eng
set_option maxRecDepth 100000
set_option maxHeartbeats 4000000
set_option linter.all false
attribute [local irreducible] WL WC WQ QFun QLoop Does Q1 QRound QAssign Go.Addr.add
attribute [local irreducible] sizesOf sizesF applyV applyT applyE listOf plainOf applyA textAt carP overP carriedP textsOf comP comL sinceL
theorem sq_E44_1 {G : Prop} (h : G := by (repeat (first | (refine sp ?_; (repeat intro zzc)) | (refine iF 19 rfl ?_; refine w_callG Try.func19 ?_ (hs := same_any (by omega) _ _ _ (by assumption) (by assumption))) | (refine iF 34 rfl ?_; refine w_callG Try.func34 ?_ (hs := revision_any _ _ _ zhs)))); exact WQ.q1 rfl) : G := h
theorem st_E44_1 {G G' : Prop} (next : G') (h : Bx G' → G := by intro zzn; (first | ((refine st ?_; (repeat intro zzc)); (try ((first | (refine iF 19 rfl ?_; refine w_callG Try.func19 ?_ (hs := same_any (by omega) _ _ _ (by assumption) (by assumption))) | (refine iF 34 rfl ?_; refine w_callG Try.func34 ?_ (hs := revision_any _ _ _ zhs)) | ((refine iDraw ?_; (first | refine WC.drawAll rfl (by decide +kernel) ?_ | refine WC.draw 1 rfl (by decide +kernel) ?_ | refine WC.draw 2 rfl (by decide +kernel) ?_ | refine WC.draw 3 rfl (by decide +kernel) ?_ | refine WC.draw 4 rfl (by decide +kernel) ?_ | refine WC.draw 5 rfl (by decide +kernel) ?_ | refine WC.draw 6 rfl (by decide +kernel) ?_ | refine WC.draw 7 rfl (by decide +kernel) ?_ | refine WC.draw 8 rfl (by decide +kernel) ?_ | refine WC.draw 9 rfl (by decide +kernel) ?_ | refine WC.draw 10 rfl (by decide +kernel) ?_ | refine WC.draw 11 rfl (by decide +kernel) ?_ | refine WC.draw 12 rfl (by decide +kernel) ?_ | refine WC.draw 13 rfl (by decide +kernel) ?_ | refine WC.draw 14 rfl (by decide +kernel) ?_ | refine WC.draw 15 rfl (by decide +kernel) ?_ | refine WC.draw 16 rfl (by decide +kernel) ?_ | refine WC.draw 17 rfl (by decide +kernel) ?_ | refine WC.draw 18 rfl (by decide +kernel) ?_ | refine WC.draw 19 rfl (by decide +kernel) ?_ | refine WC.draw 20 rfl (by decide +kernel) ?_ | refine WC.draw 21 rfl (by decide +kernel) ?_ | refine WC.draw 22 rfl (by decide +kernel) ?_ | refine WC.draw 23 rfl (by decide +kernel) ?_ | refine WC.draw 24 rfl (by decide +kernel) ?_)); (repeat (refine WD.cons rfl (fun c h => by cases h) sq_E44_1 ?_)); refine WD.nil ?_)); (try (refine st ?_; (repeat intro zzc)))))) | ((first | (refine iF 19 rfl ?_; refine w_callG Try.func19 ?_ (hs := same_any (by omega) _ _ _ (by assumption) (by assumption))) | (refine iF 34 rfl ?_; refine w_callG Try.func34 ?_ (hs := revision_any _ _ _ zhs)) | ((refine iDraw ?_; (first | refine WC.drawAll rfl (by decide +kernel) ?_ | refine WC.draw 1 rfl (by decide +kernel) ?_ | refine WC.draw 2 rfl (by decide +kernel) ?_ | refine WC.draw 3 rfl (by decide +kernel) ?_ | refine WC.draw 4 rfl (by decide +kernel) ?_ | refine WC.draw 5 rfl (by decide +kernel) ?_ | refine WC.draw 6 rfl (by decide +kernel) ?_ | refine WC.draw 7 rfl (by decide +kernel) ?_ | refine WC.draw 8 rfl (by decide +kernel) ?_ | refine WC.draw 9 rfl (by decide +kernel) ?_ | refine WC.draw 10 rfl (by decide +kernel) ?_ | refine WC.draw 11 rfl (by decide +kernel) ?_ | refine WC.draw 12 rfl (by decide +kernel) ?_ | refine WC.draw 13 rfl (by decide +kernel) ?_ | refine WC.draw 14 rfl (by decide +kernel) ?_ | refine WC.draw 15 rfl (by decide +kernel) ?_ | refine WC.draw 16 rfl (by decide +kernel) ?_ | refine WC.draw 17 rfl (by decide +kernel) ?_ | refine WC.draw 18 rfl (by decide +kernel) ?_ | refine WC.draw 19 rfl (by decide +kernel) ?_ | refine WC.draw 20 rfl (by decide +kernel) ?_ | refine WC.draw 21 rfl (by decide +kernel) ?_ | refine WC.draw 22 rfl (by decide +kernel) ?_ | refine WC.draw 23 rfl (by decide +kernel) ?_ | refine WC.draw 24 rfl (by decide +kernel) ?_)); (repeat (refine WD.cons rfl (fun c h => by cases h) sq_E44_1 ?_)); refine WD.nil ?_)); (try (refine st ?_; (repeat intro zzc))))); (repeat ((first | (refine iF 19 rfl ?_; refine w_callG Try.func19 ?_ (hs := same_any (by omega) _ _ _ (by assumption) (by assumption))) | (refine iF 34 rfl ?_; refine w_callG Try.func34 ?_ (hs := revision_any _ _ _ zhs)) | ((refine iDraw ?_; (first | refine WC.drawAll rfl (by decide +kernel) ?_ | refine WC.draw 1 rfl (by decide +kernel) ?_ | refine WC.draw 2 rfl (by decide +kernel) ?_ | refine WC.draw 3 rfl (by decide +kernel) ?_ | refine WC.draw 4 rfl (by decide +kernel) ?_ | refine WC.draw 5 rfl (by decide +kernel) ?_ | refine WC.draw 6 rfl (by decide +kernel) ?_ | refine WC.draw 7 rfl (by decide +kernel) ?_ | refine WC.draw 8 rfl (by decide +kernel) ?_ | refine WC.draw 9 rfl (by decide +kernel) ?_ | refine WC.draw 10 rfl (by decide +kernel) ?_ | refine WC.draw 11 rfl (by decide +kernel) ?_ | refine WC.draw 12 rfl (by decide +kernel) ?_ | refine WC.draw 13 rfl (by decide +kernel) ?_ | refine WC.draw 14 rfl (by decide +kernel) ?_ | refine WC.draw 15 rfl (by decide +kernel) ?_ | refine WC.draw 16 rfl (by decide +kernel) ?_ | refine WC.draw 17 rfl (by decide +kernel) ?_ | refine WC.draw 18 rfl (by decide +kernel) ?_ | refine WC.draw 19 rfl (by decide +kernel) ?_ | refine WC.draw 20 rfl (by decide +kernel) ?_ | refine WC.draw 21 rfl (by decide +kernel) ?_ | refine WC.draw 22 rfl (by decide +kernel) ?_ | refine WC.draw 23 rfl (by decide +kernel) ?_ | refine WC.draw 24 rfl (by decide +kernel) ?_)); (repeat (refine WD.cons rfl (fun c h => by cases h) sq_E44_1 ?_)); refine WD.nil ?_)); (try (refine st ?_; (repeat intro zzc))))); (repeat revert zzc); exact zzn.out) : G := h ⟨next⟩
theorem asked_any {b w : Nat} {now first : List UInt8} {ra aw atx : Option Addr} {cra caw cat : Nat} {K Kw : List Snt} {rev : Int} (hrv : -9223372036854775808 ≤ rev ∧ rev ≤ 9223372036854775807) (hl : K.length ≤ 1000) (g : GoodS first K now) (hd : K.map Snt.d = Kw.map Snt.d) (w0 : World) (m : Mem) (H : SHeap) (hK : ∀ x ∈ K, x.it 59 ∈ H) (hW : ∀ x ∈ Kw, x.it 84 ∈ H) :
    Does Try.prog 39 #[.pointer (some ⟨b, 0, none⟩), .pointer (some ⟨w, 0, none⟩), .int .i64 rev] w0 m (.blk b (.cells [str now, str first, .slice ra K.length cra].toArray 131 (0, 0)) :: .row ra cra 136 3 (K.map Snt.cs) :: .blk w (.cells [.slice aw Kw.length caw, .slice atx (Kw.length + 1) cat].toArray 76 (0, 0)) :: .row aw caw 81 3 (Kw.map Snt.cs) :: .row atx cat 9 1 ((textsOf first Kw).map sV) :: H) (Gives (.bool true) m (.blk b (.cells [str now, str first, .slice ra K.length cra].toArray 131 (0, 0)) :: .row ra cra 136 3 (K.map Snt.cs) :: .blk w (.cells [.slice aw Kw.length caw, .slice atx (Kw.length + 1) cat].toArray 76 (0, 0)) :: .row aw caw 81 3 (Kw.map Snt.cs) :: .row atx cat 9 1 ((textsOf first Kw).map sV) :: H)) := by
  refine Does.of_body (args := [.pointer (some ⟨b, 0, none⟩), .pointer (some ⟨w, 0, none⟩), .int .i64 rev]) Try.func39 rfl Try.ntmps39 rfl ?_
  have gw := g.same hd
  have hlen := same_len hd
  have hTl : ((textsOf first Kw).map sV).length = Kw.length + 1 := by rw [List.length_map, texts_len]
  have hWl : (Kw.map Snt.cs).length = Kw.length := by simp
  have hfl := g.fl
  (try (refine st_E44_1 ?_; intros))
  refine w_callF Try.func32 ?_ (hs := at_gen (by omega) g.fit (by omega) _ _ _ (fun x hx => List.mem_cons_of_mem _ (List.mem_cons_of_mem _ (List.mem_cons_of_mem _ (hK x hx)))))
  rintro v m H1 ⟨rfl, rfl, rfl⟩
  rw [g.atV]
  by_cases hbad : rev < 0 ∨ (K.length : Int) < rev
  · rw [if_pos hbad]
    have hs : sinceR first K rev = .inl 5 := by unfold sinceR; rw [if_pos hbad]
    have hhv : handV K rev = .tuple #[.int .i64 0, .int .i64 5] := by unfold handV; rw [if_pos (by omega)]
    (try (refine st_E44_1 ?_; intros))
    refine w_callF Try.func70 ?_ (hs := since_gen (by omega) g _ _ _ (fun x hx => List.mem_cons_of_mem _ (List.mem_cons_of_mem _ (List.mem_cons_of_mem _ (hK x hx)))))
    rw [hs]
    rintro v m H1 ⟨rfl, rfl, rfl⟩
    (try (refine st_E44_1 ?_; intros))
    refine w_callF Try.func71 ?_ (hs := hand_gen hrv (by omega) _ _ _)
    rintro v m H1 ⟨rfl, rfl, rfl⟩
    rw [hhv]
    by_cases h0 : rev < 0
    · (try (refine st_E44_1 ?_; intros))
      exact q_fin0 (H0 := .blk b (.cells [str now, str first, .slice ra K.length cra].toArray 131 (0, 0)) :: .row ra cra 136 3 (K.map Snt.cs) :: .blk w (.cells [.slice aw Kw.length caw, .slice atx (Kw.length + 1) cat].toArray 76 (0, 0)) :: .row aw caw 81 3 (Kw.map Snt.cs) :: .row atx cat 9 1 ((textsOf first Kw).map sV) :: H) (Gives.mk (show Value.bool (dcd ((5 : Int) = 5)) = Value.bool true from congrArg Value.bool (dcd_true rfl))) (hd := zpk)
    · have h1 : (Kw.length : Int) < rev := by omega
      (try (refine st_E44_1 ?_; intros))
      exact q_fin0 (H0 := .blk b (.cells [str now, str first, .slice ra K.length cra].toArray 131 (0, 0)) :: .row ra cra 136 3 (K.map Snt.cs) :: .blk w (.cells [.slice aw Kw.length caw, .slice atx (Kw.length + 1) cat].toArray 76 (0, 0)) :: .row aw caw 81 3 (Kw.map Snt.cs) :: .row atx cat 9 1 ((textsOf first Kw).map sV) :: H) (Gives.mk (show Value.bool (dcd ((5 : Int) = 5)) = Value.bool true from congrArg Value.bool (dcd_true rfl))) (hd := zpk)
  · rw [if_neg hbad]
    obtain ⟨n, rfl⟩ : ∃ n : Nat, rev = (n : Int) := ⟨rev.toNat, by omega⟩
    have hn : n ≤ K.length := by omega
    have hs : sinceR first K (n : Int) = .inr (sinceL ((K.drop n).map (·.l)) (keepL (textAt first (K.take n)).length)) := by unfold sinceR; rw [if_neg hbad, Int.toNat_natCast]
    rw [Int.toNat_natCast, okV]
    have hgt := texts_get (first := first) (K := Kw) (n := n) (by omega)
    rw [← same_text hd] at hgt
    have hts := text_small g n
    obtain ⟨_, hch⟩ := g.at_ n
    have hdl : (K.drop n).map (·.l) = (Kw.drop n).map (·.l) := by rw [List.map_drop, List.map_drop, same_l hd]
    rw [hdl] at hch hs
    obtain ⟨tv, hsz1, hsz2⟩ := since_good _ _ _ _ _ _ hch (keep_good _ hts).2.1 (keep_good _ hts).2.2
    obtain ⟨_, k1, k2⟩ := keep_good _ hts
    generalize textAt first (K.take n) = t at *
    (try (refine st_E44_1 ?_; intros))
    refine w_callF Try.func70 ?_ (hs := since_gen (by omega) g _ _ _ (fun x hx => List.mem_cons_of_mem _ (List.mem_cons_of_mem _ (List.mem_cons_of_mem _ (hK x hx)))))
    rw [hs]
    rintro v m H1 ⟨rfl, ca, cpa, rfl, rfl⟩
    (try (refine st_E44_1 ?_; intros))
    refine WL.heap (H' := .blk b (.cells [str now, str first, .slice ra K.length cra].toArray 131 (0, 0)) :: .row ra cra 136 3 (K.map Snt.cs) :: .row ca cpa 59 3 ((sinceL ((Kw.drop n).map (·.l)) (keepL t.length)).map Stp.cs) :: .blk w (.cells [.slice aw Kw.length caw, .slice atx (Kw.length + 1) cat].toArray 76 (0, 0)) :: .row aw caw 81 3 (Kw.map Snt.cs) :: .row atx cat 9 1 ((textsOf first Kw).map sV) :: H) zpk ?_
    refine w_callF Try.func71 ?_ (hs := hand_gen hrv (by omega) _ _ _)
    rintro v m H1 ⟨rfl, rfl, rfl⟩
    have hss := fit_sized hsz1
    have hsl := hss.len
    generalize hSL : sinceL ((Kw.drop n).map (·.l)) (keepL t.length) = S at *
    by_cases hn0 : n = 0
    · have hhv : handV K (n : Int) = .tuple #[.int .i64 0, .int .i64 5] := by unfold handV; rw [if_pos (by omega)]
      rw [hhv]
      refine WL.rowSome (a := atx) (es := (textsOf first Kw).map sV) zhs (by omega) ?_
      rintro d0 rfl
      (try (refine st_E44_1 ?_; intros))
      refine WC.join (fun r' ds' m' H' => ∃ (it : Go.Eng.Item) (cw : Option Addr) (cpw : Nat), r' = [(13, .slice cw (keepL t.length).length cpw), (0, .pointer (some ⟨b, 0, none⟩)), (1, .pointer (some ⟨w, 0, none⟩)), (2, .int .i64 (n : Int)), (9, .slice ca S.length cpa)] ∧ ds' = [] ∧ m = m' ∧ H' = it :: .row ca cpa 59 3 (S.map Stp.cs) :: .blk b (.cells [str now, str first, .slice ra K.length cra].toArray 131 (0, 0)) :: .row ra cra 136 3 (K.map Snt.cs) :: .blk w (.cells [.slice aw Kw.length caw, .slice (some d0) (Kw.length + 1) cat].toArray 76 (0, 0)) :: .row aw caw 81 3 (Kw.map Snt.cs) :: .row (some d0) cat 9 1 ((textsOf first Kw).map sV) :: H ∧ ∀ Hx, RowR w0 m (it :: Hx) 3 cw ((keepL t.length).map Stp.cs)) ?_ ?_
      · by_cases h0 : t = []
        · have ek : keepL t.length = [] := by unfold keepL; rw [h0]; rfl
          rw [ek]
          refine WC.newRow (T := 84) (sz := 3) ?_
          (try (refine st_E44_1 ?_; intros))
          exact WQ.join ⟨.row none 0 84 3 [], none, 0, rfl, rfl, rfl, rfl, fun Hx => RowR.nil⟩ zsb zpk
        · have ek : keepL t.length = [Stp.mk (t.length : Int) [] []] := by
            unfold keepL
            rw [if_neg (fun h => h0 (List.eq_nil_of_length_eq_zero h))]
          rw [ek]
          (refine st_E44_1 ?_; intros; rename_i qb)
          exact WQ.join ⟨.blk qb (.cells [.int .i64 (t.length : Int), str [], str []].toArray 84 (0, 0)), some ⟨qb, 0, none⟩, 1, rfl, rfl, rfl, rfl, fun Hx => RowR.blk List.mem_cons_self (by simp [Stp.cs]) (by simp [Stp.cs])⟩ zsb zpk
      rintro _ _ _ _ ⟨it, cw, cpw, rfl, rfl, rfl, rfl, hit⟩
      (try (refine st_E44_1 ?_; intros))
      refine WC.loopH [(14, .int .i64 ((n) : Int)), (13, .slice (cw) (keepL t.length).length (cpw)), (0, .pointer (some ⟨b, 0, none⟩)), (1, .pointer (some ⟨w, 0, none⟩)), (9, .slice ca S.length cpa)] ?_ ?_ (fun j r ds m' H' => ∃ (k : Nat) (c : List Stp) (u : List UInt8) (tc : Int) (it : Go.Eng.Item) (cw : Option Addr) (cpw : Nat), j = Kw.length - k ∧ r = [(14, .int .i64 (k : Int)), (13, .slice cw c.length cpw), (0, .pointer (some ⟨b, 0, none⟩)), (1, .pointer (some ⟨w, 0, none⟩)), (9, .slice ca S.length cpa)] ∧ ds = [] ∧ m = m' ∧ H' = it :: .row ca cpa 59 3 (S.map Stp.cs) :: .blk b (.cells [str now, str first, .slice ra K.length cra].toArray 131 (0, 0)) :: .row ra cra 136 3 (K.map Snt.cs) :: .blk w (.cells [.slice aw Kw.length caw, .slice (some d0) (Kw.length + 1) cat].toArray 76 (0, 0)) :: .row aw caw 81 3 (Kw.map Snt.cs) :: .row (some d0) cat 9 1 ((textsOf first Kw).map sV) :: H ∧ (k ≤ Kw.length) ∧ (Chain u ((Kw.drop k).map (·.l)) now) ∧ (sizesOf c = some ((t.length : Int), tc)) ∧ (applyA t (atomsOf c) = some u) ∧ (sinceL ((Kw.drop k).map (·.l)) c = S) ∧ (∀ Hx, RowR w0 m (it :: Hx) 3 cw (c.map Stp.cs))) (Kw.length - (n)) ⟨n, keepL t.length, t, (t.length : Int), it, cw, cpw, rfl, rfl, rfl, rfl, rfl, by omega, hch, k1, k2, hSL, hit⟩ ?_
      · (repeat (first | exact Env.Sub.nil | refine Env.Sub.cons rfl ?_))
      · exact zpk
      rintro j r ds m' H' ⟨k, c, u, tc, it, cw, cpw, rfl, rfl, rfl, rfl, rfl, hk, hch, hc1, hc2, hP, hit⟩
      have hfc := fit_sized hc1
      by_cases hlt : k < Kw.length
      · obtain ⟨z, hz, hgz, htk, hmz, hdr⟩ := at_idx (f := Snt.cs) hlt
        have hrz : RowR w0 m H 3 z.a (z.l.map Stp.cs) := RowR.row (hW z hmz)
        have hzs : z.cs = [.int .i64 z.h, .slice z.a z.l.length z.cap, .bool z.left] := rfl
        rw [hzs] at hgz
        rw [hdr, List.map_cons] at hch hP
        obtain ⟨v2, tt, g1, g2, g3⟩ := hch
        rw [sinceL] at hP
        obtain ⟨C, tc2, e1, e2, e3, e4, _⟩ := com_good hc1 hc2 g1 g2
        rw [e2] at hP
        have hfz := fit_sized g1
        refine WC.rowSome (a := aw) (es := Kw.map Snt.cs) zhs (by omega) ?_
        rintro d9 rfl
        (try (refine st_E44_1 ?_; intros))
        refine w_callF Try.func18 ?_ (hs := rCompose_any hfc hfz hc1 g1 _ _ _ (hit _) hrz.more.more.more.more.more.more.more)
        rintro v m H1 ⟨rfl, hv⟩
        rw [e1] at hv
        obtain ⟨c5, cp5, rfl, rfl⟩ := hv
        (try (refine st_E44_1 ?_; intros))
        refine WQ.next (Kw.length - (k + 1)) ⟨k + 1, listOf C, v2, tc2, .row c5 cp5 84 3 ((listOf C).map Stp.cs), c5, cp5, rfl, rfl, rfl, rfl, rfl, ?_, ?_, ?_, ?_, ?_, ?_⟩ (by omega) zsb zpk
        · omega
        · exact g3
        · exact e3
        · exact e4
        · exact hP
        · exact fun Hx => RowR.row List.mem_cons_self
      · obtain rfl : k = Kw.length := by omega
        rw [List.drop_length, List.map_nil, sinceL] at hP
        subst hP
        have hra : RowR w0 m (it :: .row ca cpa 59 3 (c.map Stp.cs) :: .blk b (.cells [str now, str first, .slice ra K.length cra].toArray 131 (0, 0)) :: .row ra cra 136 3 (K.map Snt.cs) :: .blk w (.cells [.slice aw Kw.length caw, .slice (some d0) (Kw.length + 1) cat].toArray 76 (0, 0)) :: .row aw caw 81 3 (Kw.map Snt.cs) :: .row (some d0) cat 9 1 ((textsOf first Kw).map sV) :: H) 3 ca (c.map Stp.cs) := RowR.row (a := ca) zhs
        have hrb : RowR w0 m (it :: .row ca cpa 59 3 (c.map Stp.cs) :: .blk b (.cells [str now, str first, .slice ra K.length cra].toArray 131 (0, 0)) :: .row ra cra 136 3 (K.map Snt.cs) :: .blk w (.cells [.slice aw Kw.length caw, .slice (some d0) (Kw.length + 1) cat].toArray 76 (0, 0)) :: .row aw caw 81 3 (Kw.map Snt.cs) :: .row (some d0) cat 9 1 ((textsOf first Kw).map sV) :: H) 3 cw (c.map Stp.cs) := hit _
        (try (refine st_E44_1 ?_; intros))
        exact q_fin0 (H0 := .blk b (.cells [str now, str first, .slice ra K.length cra].toArray 131 (0, 0)) :: .row ra cra 136 3 (K.map Snt.cs) :: .blk w (.cells [.slice aw Kw.length caw, .slice (some d0) (Kw.length + 1) cat].toArray 76 (0, 0)) :: .row aw caw 81 3 (Kw.map Snt.cs) :: .row (some d0) cat 9 1 ((textsOf first Kw).map sV) :: H) (Gives.mk (show Value.bool (dcd ((K.length : Int) = (Kw.length : Int))) = Value.bool true from congrArg Value.bool (dcd_true (by omega)))) (hd := zpk)
    · obtain ⟨x, hx, _, _, hmem, _⟩ := at_idx (f := Snt.cs) (show n - 1 < K.length by omega)
      obtain ⟨y, hy, hyh, _, _⟩ := same_at hd hx
      have hhv : handV K (n : Int) = .tuple #[.int .i64 x.h, .int .i64 0] := by unfold handV handN; rw [if_neg (by omega), Int.toNat_natCast, hx]; rfl
      have hgy : (Kw.map Snt.cs)[n - 1]? = some [.int .i64 x.h, .slice y.a y.l.length y.cap, .bool y.left] := by rw [List.getElem?_map, hy, ← hyh]; rfl
      have en : (n : Int) - 1 = ((n - 1 : Nat) : Int) := by omega
      rw [hhv]
      refine WL.rowSome (a := atx) (es := (textsOf first Kw).map sV) zhs (by omega) ?_
      rintro d0 rfl
      refine WL.rowSome (a := aw) (es := Kw.map Snt.cs) zhs (by omega) ?_
      rintro d1 rfl
      (try (refine st_E44_1 ?_; intros))
      refine WC.join (fun r' ds' m' H' => ∃ (it : Go.Eng.Item) (cw : Option Addr) (cpw : Nat), r' = [(13, .slice cw (keepL t.length).length cpw), (0, .pointer (some ⟨b, 0, none⟩)), (1, .pointer (some ⟨w, 0, none⟩)), (2, .int .i64 (n : Int)), (9, .slice ca S.length cpa)] ∧ ds' = [] ∧ m = m' ∧ H' = it :: .row ca cpa 59 3 (S.map Stp.cs) :: .blk b (.cells [str now, str first, .slice ra K.length cra].toArray 131 (0, 0)) :: .row ra cra 136 3 (K.map Snt.cs) :: .blk w (.cells [.slice (some d1) Kw.length caw, .slice (some d0) (Kw.length + 1) cat].toArray 76 (0, 0)) :: .row (some d1) caw 81 3 (Kw.map Snt.cs) :: .row (some d0) cat 9 1 ((textsOf first Kw).map sV) :: H ∧ ∀ Hx, RowR w0 m (it :: Hx) 3 cw ((keepL t.length).map Stp.cs)) ?_ ?_
      · by_cases h0 : t = []
        · have ek : keepL t.length = [] := by unfold keepL; rw [h0]; rfl
          rw [ek]
          refine WC.newRow (T := 84) (sz := 3) ?_
          (try (refine st_E44_1 ?_; intros))
          exact WQ.join ⟨.row none 0 84 3 [], none, 0, rfl, rfl, rfl, rfl, fun Hx => RowR.nil⟩ zsb zpk
        · have ek : keepL t.length = [Stp.mk (t.length : Int) [] []] := by
            unfold keepL
            rw [if_neg (fun h => h0 (List.eq_nil_of_length_eq_zero h))]
          rw [ek]
          (refine st_E44_1 ?_; intros; rename_i qb)
          exact WQ.join ⟨.blk qb (.cells [.int .i64 (t.length : Int), str [], str []].toArray 84 (0, 0)), some ⟨qb, 0, none⟩, 1, rfl, rfl, rfl, rfl, fun Hx => RowR.blk List.mem_cons_self (by simp [Stp.cs]) (by simp [Stp.cs])⟩ zsb zpk
      rintro _ _ _ _ ⟨it, cw, cpw, rfl, rfl, rfl, rfl, hit⟩
      (try (refine st_E44_1 ?_; intros))
      refine WC.loopH [(14, .int .i64 ((n) : Int)), (13, .slice (cw) (keepL t.length).length (cpw)), (0, .pointer (some ⟨b, 0, none⟩)), (1, .pointer (some ⟨w, 0, none⟩)), (9, .slice ca S.length cpa)] ?_ ?_ (fun j r ds m' H' => ∃ (k : Nat) (c : List Stp) (u : List UInt8) (tc : Int) (it : Go.Eng.Item) (cw : Option Addr) (cpw : Nat), j = Kw.length - k ∧ r = [(14, .int .i64 (k : Int)), (13, .slice cw c.length cpw), (0, .pointer (some ⟨b, 0, none⟩)), (1, .pointer (some ⟨w, 0, none⟩)), (9, .slice ca S.length cpa)] ∧ ds = [] ∧ m = m' ∧ H' = it :: .row ca cpa 59 3 (S.map Stp.cs) :: .blk b (.cells [str now, str first, .slice ra K.length cra].toArray 131 (0, 0)) :: .row ra cra 136 3 (K.map Snt.cs) :: .blk w (.cells [.slice (some d1) Kw.length caw, .slice (some d0) (Kw.length + 1) cat].toArray 76 (0, 0)) :: .row (some d1) caw 81 3 (Kw.map Snt.cs) :: .row (some d0) cat 9 1 ((textsOf first Kw).map sV) :: H ∧ (k ≤ Kw.length) ∧ (Chain u ((Kw.drop k).map (·.l)) now) ∧ (sizesOf c = some ((t.length : Int), tc)) ∧ (applyA t (atomsOf c) = some u) ∧ (sinceL ((Kw.drop k).map (·.l)) c = S) ∧ (∀ Hx, RowR w0 m (it :: Hx) 3 cw (c.map Stp.cs))) (Kw.length - (n)) ⟨n, keepL t.length, t, (t.length : Int), it, cw, cpw, rfl, rfl, rfl, rfl, rfl, by omega, hch, k1, k2, hSL, hit⟩ ?_
      · (repeat (first | exact Env.Sub.nil | refine Env.Sub.cons rfl ?_))
      · exact zpk
      rintro j r ds m' H' ⟨k, c, u, tc, it, cw, cpw, rfl, rfl, rfl, rfl, rfl, hk, hch, hc1, hc2, hP, hit⟩
      have hfc := fit_sized hc1
      by_cases hlt : k < Kw.length
      · obtain ⟨z, hz, hgz, htk, hmz, hdr⟩ := at_idx (f := Snt.cs) hlt
        have hrz : RowR w0 m H 3 z.a (z.l.map Stp.cs) := RowR.row (hW z hmz)
        have hzs : z.cs = [.int .i64 z.h, .slice z.a z.l.length z.cap, .bool z.left] := rfl
        rw [hzs] at hgz
        rw [hdr, List.map_cons] at hch hP
        obtain ⟨v2, tt, g1, g2, g3⟩ := hch
        rw [sinceL] at hP
        obtain ⟨C, tc2, e1, e2, e3, e4, _⟩ := com_good hc1 hc2 g1 g2
        rw [e2] at hP
        have hfz := fit_sized g1
        refine WC.rowSome (a := some d1) (es := Kw.map Snt.cs) zhs (by omega) ?_
        rintro d9 _
        (try (refine st_E44_1 ?_; intros))
        refine w_callF Try.func18 ?_ (hs := rCompose_any hfc hfz hc1 g1 _ _ _ (hit _) hrz.more.more.more.more.more.more.more)
        rintro v m H1 ⟨rfl, hv⟩
        rw [e1] at hv
        obtain ⟨c5, cp5, rfl, rfl⟩ := hv
        (try (refine st_E44_1 ?_; intros))
        refine WQ.next (Kw.length - (k + 1)) ⟨k + 1, listOf C, v2, tc2, .row c5 cp5 84 3 ((listOf C).map Stp.cs), c5, cp5, rfl, rfl, rfl, rfl, rfl, ?_, ?_, ?_, ?_, ?_, ?_⟩ (by omega) zsb zpk
        · omega
        · exact g3
        · exact e3
        · exact e4
        · exact hP
        · exact fun Hx => RowR.row List.mem_cons_self
      · obtain rfl : k = Kw.length := by omega
        rw [List.drop_length, List.map_nil, sinceL] at hP
        subst hP
        have hra : RowR w0 m (it :: .row ca cpa 59 3 (c.map Stp.cs) :: .blk b (.cells [str now, str first, .slice ra K.length cra].toArray 131 (0, 0)) :: .row ra cra 136 3 (K.map Snt.cs) :: .blk w (.cells [.slice (some d1) Kw.length caw, .slice (some d0) (Kw.length + 1) cat].toArray 76 (0, 0)) :: .row (some d1) caw 81 3 (Kw.map Snt.cs) :: .row (some d0) cat 9 1 ((textsOf first Kw).map sV) :: H) 3 ca (c.map Stp.cs) := RowR.row (a := ca) zhs
        have hrb : RowR w0 m (it :: .row ca cpa 59 3 (c.map Stp.cs) :: .blk b (.cells [str now, str first, .slice ra K.length cra].toArray 131 (0, 0)) :: .row ra cra 136 3 (K.map Snt.cs) :: .blk w (.cells [.slice (some d1) Kw.length caw, .slice (some d0) (Kw.length + 1) cat].toArray 76 (0, 0)) :: .row (some d1) caw 81 3 (Kw.map Snt.cs) :: .row (some d0) cat 9 1 ((textsOf first Kw).map sV) :: H) 3 cw (c.map Stp.cs) := hit _
        (try (refine st_E44_1 ?_; intros))
        exact q_fin0 (H0 := .blk b (.cells [str now, str first, .slice ra K.length cra].toArray 131 (0, 0)) :: .row ra cra 136 3 (K.map Snt.cs) :: .blk w (.cells [.slice (some d1) Kw.length caw, .slice (some d0) (Kw.length + 1) cat].toArray 76 (0, 0)) :: .row (some d1) caw 81 3 (Kw.map Snt.cs) :: .row (some d0) cat 9 1 ((textsOf first Kw).map sV) :: H) (Gives.mk (show Value.bool (dcd ((K.length : Int) = (Kw.length : Int))) = Value.bool true from congrArg Value.bool (dcd_true (by omega)))) (hd := zpk)
end Go.Proofs.Ytelgegefmjlimaa

/-
  Plain facts on sheets: what is sent or undone fits the last text; a sheet and the reference's do the same. No condition.
-/
namespace Go.Eng
open Go
theorem sendR_same {K K2 : List Snt} (h : K.map Snt.d = K2.map Snt.d) (first now : List UInt8) (hand rev : Int) (l : List Stp) : sendR first now K hand rev l = sendR first now K2 hand rev l := by
  unfold sendR
  rw [same_len h, same_text h, List.map_drop, List.map_drop, same_hl h]
theorem undoR_same {K K2 : List Snt} (h : K.map Snt.d = K2.map Snt.d) (hand : Int) : undoR K hand = undoR K2 hand := by
  unfold undoR
  rw [h, same_len h]
  cases lastK (K2.map Snt.d) hand K2.length with
  | none => rfl
  | some k =>
    simp only
    have e : (K[k]?.map Snt.l).getD [] = (K2[k]?.map Snt.l).getD [] := by
      have := congrArg (·[k]?) (same_l h)
      simp only [List.getElem?_map] at this
      rw [this]
    rw [e, List.map_drop, List.map_drop, same_hl h]
theorem unleft_same {K K2 : List Snt} (h : K.map Snt.d = K2.map Snt.d) (j : Nat) : (unleft K j).map Snt.d = (unleft K2 j).map Snt.d := by
  unfold unleft
  cases hx : K[j]? with
  | none =>
    have : K2[j]? = none := by rw [List.getElem?_eq_none_iff] at hx ⊢; have := same_len h; omega
    rw [this]; exact h
  | some x =>
    obtain ⟨y, hy, h1, h2, h3⟩ := same_at h hx
    rw [hy]
    simp only
    rw [List.map_set, List.map_set, h]
    congr 1
    simp only [Snt.d, h1, h2]
theorem chain_hl (K : List Snt) : (K.map Snt.hl).map (·.2) = K.map (·.l) := by rw [List.map_map]; rfl
/-- a change more, that fits -/
theorem GoodS.more {first now : List UInt8} {K : List Snt} (g : GoodS first K now) {V : List Atm} {tv : Int} {v : List UInt8} (h1 : sizesOf (listOf V) = some ((now.length : Int), tv)) (h2 : applyA now (atomsOf (listOf V)) = some v) {hand : Int} (hh : -9223372036854775808 ≤ hand ∧ hand ≤ 9223372036854775807) (left : Bool) (a : Option Addr) (cap : Nat) :
    GoodS first (K ++ [Snt.mk hand (listOf V) left a cap]) v ∧ applyT now (listOf V) = v := by
  refine ⟨⟨?_, ?_, g.fl, ?_⟩, ?_⟩
  · rw [List.map_append]
    exact chain_append _ _ _ _ _ g.chain ⟨v, tv, h1, h2, rfl⟩
  · intro x hx
    rcases List.mem_append.1 hx with hx | hx
    · exact g.nf x hx
    · rw [List.mem_singleton] at hx; subst hx; exact ⟨V, rfl⟩
  · intro x hx
    rcases List.mem_append.1 hx with hx | hx
    · exact g.h x hx
    · rw [List.mem_singleton] at hx; subst hx; exact hh
  · unfold applyT; rw [h1]; simp [h2]
theorem send_good {first now : List UInt8} {K : List Snt} (g : GoodS first K now) {hand rev : Int} {l d : List Stp} (hh : -9223372036854775808 ≤ hand ∧ hand ≤ 9223372036854775807) (hs : sendR first now K hand rev l = .inr d) (left : Bool) (a : Option Addr) (cap : Nat) : GoodS first (K ++ [Snt.mk hand d left a cap]) (applyT now d) := by
  unfold sendR at hs
  split at hs
  · cases hs
  · split at hs
    · cases hs
    · rename_i hrv
      obtain ⟨n, rfl⟩ : ∃ n : Nat, rev = (n : Int) := ⟨rev.toNat, by omega⟩
      rw [Int.toNat_natCast] at hs
      have hu : (if (n : Int) = K.length then now else textAt first (K.take n)) = textAt first (K.take n) := by
        split
        · rename_i h
          rw [show n = K.length by omega, List.take_length, g.now_]
        · rfl
      rw [hu] at hs
      split at hs
      · cases hs
      · rename_i he
        split at hs
        · cases hs
        · have he0 : applyE (textAt first (K.take n)) l = 0 := Decidable.not_not.1 he
          obtain ⟨tt, e1, e2⟩ := applyE_ok he0
          obtain ⟨_, hch⟩ := g.at_ n
          rw [← chain_hl] at hch
          have hok := (sized e1).1
          have p1 := plain_sizes e1
          have p2 := plain_apply l hok (textAt first (K.take n))
          rw [e2] at p2
          rw [plain_list] at p1 p2 hs
          rcases carried_good hand _ _ _ _ _ _ hch p1 p2 with h3 | ⟨V, v, tv, h3, h4, h5⟩
          · rw [h3] at hs; cases hs
          · rw [h3] at hs
            cases hs
            obtain ⟨q1, q2⟩ := g.more h4 h5 hh left a cap
            rw [q2]; exact q1
theorem lastK_lt (D : List (Int × List Stp × Bool)) (hand : Int) : ∀ n j, lastK D hand n = some j → j < n ∧ j < D.length
  | 0, j, h => by cases h
  | n + 1, j, h => by
    rw [lastK] at h
    split at h
    · rename_i hx
      cases h
      refine ⟨Nat.lt_succ_self _, ?_⟩
      rcases Nat.lt_or_ge n D.length with h1 | h1
      · exact h1
      · rw [List.getElem?_eq_none h1] at hx; cases hx
    · have := lastK_lt D hand n j h; omega
theorem undo_good {first now : List UInt8} {K : List Snt} (g : GoodS first K now) {hand : Int} {j : Nat} {d : List Stp} (hh : -9223372036854775808 ≤ hand ∧ hand ≤ 9223372036854775807) (hs : undoR K hand = .inr (j, d)) (left : Bool) (a : Option Addr) (cap : Nat) : GoodS first (unleft K j ++ [Snt.mk hand d left a cap]) (applyT now d) ∧ j < K.length := by
  unfold undoR at hs
  split at hs
  · cases hs
  · cases hk : lastK (K.map Snt.d) hand K.length with
    | none => rw [hk] at hs; cases hs
    | some k =>
      rw [hk] at hs
      simp only at hs
      have hkl : k < K.length := (lastK_lt _ _ _ _ hk).1
      rw [List.getElem?_eq_getElem hkl] at hs
      simp only [Option.map_some, Option.getD_some] at hs
      obtain ⟨c1, c2⟩ := g.at_ k
      rw [List.drop_eq_getElem_cons hkl, List.map_cons] at c2
      obtain ⟨u, tt, d1, d2, d3⟩ := c2
      obtain ⟨_, _, _, q1, q2, _, q4, _, q6⟩ := sized d1
      obtain ⟨n1, n2⟩ := inv_from (atomsOf K[k].l)
      have hul := apply_len _ _ _ d2
      have hb := apply_listV (by omega) (inv_apply _ _ _ d2 (by omega)) (by omega) (by omega)
      obtain ⟨t2, b1, b2⟩ := okV_of hb
      rw [← chain_hl] at d3
      unfold invL at hs
      rcases carried_good hand _ _ _ _ _ _ d3 b1 b2 with h3 | ⟨V, v, tv, h3, h4, h5⟩
      · rw [h3] at hs; cases hs
      · rw [h3] at hs
        cases hs
        obtain ⟨r1, r2⟩ := (g.unleft j).more h4 h5 hh left a cap
        rw [r2]; exact ⟨r1, hkl⟩
end Go.Eng

/-
  How long what Compose makes is. No condition.
-/
namespace Go.Eng
open Go
end Go.Eng

/-
  The walk of the law's spoiling of an answer. No condition.
-/
namespace Go.Eng
open Go Go.RowKit
theorem rows_of {sz : Nat} : ∀ (cap : Nat) (l : List Value), l.length = cap * sz → ∃ es : List (List Value), es.length = cap ∧ es.flatten = l ∧ ∀ e ∈ es, e.length = sz
  | 0, l, h => ⟨[], rfl, by rw [Nat.zero_mul] at h; rw [List.eq_nil_of_length_eq_zero h]; rfl, by simp⟩
  | cap + 1, l, h => by
    rw [Nat.add_mul, Nat.one_mul] at h
    obtain ⟨es, e1, e2, e3⟩ := rows_of (sz := sz) cap (l.drop sz) (by rw [List.length_drop]; omega)
    refine ⟨l.take sz :: es, by simp [e1], by rw [List.flatten_cons, e2, List.take_append_drop], fun e he => ?_⟩
    rcases List.mem_cons.1 he with rfl | he
    · rw [List.length_take]; omega
    · exact e3 e he
theorem subSl_all (c : Option Addr) (cp sz : Nat) : subSl c cp 0 cp sz = .slice c cp cp := by
  unfold subSl
  cases c with
  | none => simp
  | some a => by_cases h : cp = 0 <;> simp [h, Go.Addr.add]
section
variable {P : Program} {ro : Option Nat} {n : Nat} {w0 : World} {Q : Exit → Act → World → Prop} {r : Env} {ds : List Nat} {m : Mem} {H : SHeap}
/-- a row up to its last room -/
theorem WC.rowFull {c : Code} {a : Option Addr} {cap : Nat} {T : TypeId} {sz : Nat} {es : List (List Value)} (hle : es.length ≤ 9223372036854775807) (h : ∀ es', es'.length = cap → cap ≤ 9223372036854775807 → WC P ro n w0 c Q r ds m (.row a cap T sz es' :: H)) : WC P ro n w0 c Q r ds m (.row a cap T sz es :: H) := by
  intro tmps w ho hs
  have h0 := hs.own _ List.mem_cons_self
  cases a with
  | none =>
    have h1 : es = [] ∧ cap = 0 := h0
    obtain ⟨rfl, rfl⟩ := h1
    exact h [] rfl (Nat.zero_le _) tmps w ho hs
  | some a =>
    obtain ⟨arr, fz, h1, h2, h3, h4, h5, h6, h7, h8⟩ := h0
    obtain ⟨es', e1, e2, e3⟩ := rows_of (sz := sz) cap arr.toList (by simp [h3])
    refine h es' e1 (h8 hle) tmps w ho ⟨hs.os, hs.tape, hs.output, hs.size, hs.pers, fun i hi => ?_, by simpa [SHeap.foot, Item.foot] using hs.sep, by simpa [SHeap.foot, Item.foot] using hs.free⟩
    cases hi with
    | head => exact ⟨arr, fz, h1, h2, h3, by omega, by rw [e1, e2, ← h3]; exact List.take_of_length_le (by simp), e3, h7, fun _ => h8 hle⟩
    | tail _ hi => exact hs.own i (List.mem_cons_of_mem _ hi)
end
end Go.Eng
namespace Go.Proofs.Ytelgegefmjlimaa
open Go Go.Eng
set_option maxRecDepth 100000
set_option maxHeartbeats 4000000
set_option linter.all false
attribute [local irreducible] WL WC WQ QFun QLoop Does Q1 QRound QAssign Go.Addr.add
theorem own_any {c : Option Addr} {cp k : Nat} {es : List (List Value)} (hk : k = es.length) (hle : es.length ≤ 1000000000) (w0 : World) (m : Mem) (H : SHeap) :
    Does Try.prog 29 #[.slice c k cp] w0 m (.row c cp 59 3 es :: H) (fun v m' H' => v = .tuple #[] ∧ m' = m ∧ H' = H) := by
  refine Does.of_body (args := [.slice c k cp]) Try.func29 rfl Try.ntmps29 rfl ?_
  refine WC.rowCap (a := c) zhs fun hcap => ?_
  refine WC.rowFull (by omega) ?_
  rintro E hE hcp
  have hk2 : k ≤ E.length := by omega
  (try (refine st ?_; intros))
  refine WL.capSl rfl rfl rfl ?_
  (try (refine st ?_; intros))
  rw [subSl_all]
  have hk3 : cp = E.length := hE.symm
  refine WC.loopH [(2, .int .i64 ((0) : Int)), (0, .slice c cp cp)] ?_ ?_ (fun j r ds m' H' => ∃ (i : Nat) (E : List (List Value)), j = cp - i ∧ r = [(2, .int .i64 (i : Int)), (0, .slice c cp cp)] ∧ ds = [] ∧ m = m' ∧ H' = .row c cp 59 3 E :: H ∧ (i ≤ cp) ∧ (E.length = cp)) (cp - (0)) ⟨0, E, rfl, rfl, rfl, rfl, rfl, by omega, hE⟩ ?_
  · (repeat (first | exact Env.Sub.nil | refine Env.Sub.cons rfl ?_))
  · exact zpk
  rintro j r ds m' H' ⟨i, E, rfl, rfl, rfl, rfl, rfl, hi, hE⟩
  by_cases hlt : i < cp
  · refine WC.rowSome (a := c) zhs (by omega) ?_
    rintro c0 rfl
    (try (refine st ?_; intros))
    refine WQ.next (cp - (i + 1)) ⟨i + 1, E.set i [.int .i64 (-1), str [115, 112, 111, 105, 108, 116], str []], rfl, rfl, rfl, rfl, rfl, ?_, ?_⟩ (by omega) zsb zpk
    · omega
    · rw [List.length_set]; exact hE
  · obtain rfl : i = cp := by omega
    (try (refine st ?_; intros))
    exact q_finNorm0 (H0 := H) ⟨rfl, rfl, rfl⟩ (hd := zpk)
end Go.Proofs.Ytelgegefmjlimaa

/-
  The walk of the reference's Move. No condition.
-/
namespace Go.Eng
open Go
theorem mvF_len (last : List UInt8) (b : Bool) : ∀ (ps : List Pos) (p : Nat), mvF ps last p b ≤ (sdA ps last).length
  | [], p => by cases b <;> simp [mvF, sdA_nil]
  | x :: ps, 0 => by rw [sdA_cons]; cases b <;> simp [mvF]
  | x :: ps, p + 1 => by
    have := mvF_len last b ps p
    rw [sdA_cons]
    simp only [mvF, List.length_append, List.length_map, List.length_cons]
    split <;> omega
theorem moved_len (l : List Stp) (p : Nat) (b : Bool) : movedF l p b ≤ (atomsOf (plainOf l)).length := by
  rw [plain_atoms, ← sd_atoms]; exact mvF_len _ _ _ _
theorem sum_take_succ (L : List (List UInt8)) (p : Nat) (h : p < L.length) : ((L.take (p + 1)).map List.length).sum = ((L.take p).map List.length).sum + L[p].length := by
  rw [List.take_succ_eq_append_getElem h, List.map_append, List.sum_append]; rfl
theorem count_take_succ (L : List Bool) (p : Nat) (h : p < L.length) : (L.take (p + 1)).count false = (L.take p).count false + (if L[p] then 0 else 1) := by
  rw [List.take_succ_eq_append_getElem h, List.count_append]
  cases L[p] <;> simp
theorem moved_step (l : List Stp) (p : Nat) (h : p < (dropsOf (gapsOf l)).length) (h' : p < (putsOf (gapsOf l)).length) : movedF l (p + 1) false = movedF l p false + (putsOf (gapsOf l))[p].length + (if (dropsOf (gapsOf l))[p] then 0 else 1) := by
  rw [moved_lists l (p + 1) false (by omega), moved_lists l p false (by omega), sum_take_succ _ _ h', count_take_succ _ _ h]
  simp only [Bool.false_eq_true, if_false]; omega
theorem moved_last (l : List Stp) (p : Nat) (b : Bool) (h : p ≤ (dropsOf (gapsOf l)).length) (h' : p < (putsOf (gapsOf l)).length) : movedF l p b = movedF l p false + (if b then (putsOf (gapsOf l))[p].length else 0) := by
  rw [moved_lists l p b h, moved_lists l p false h, List.getD_eq_getElem?_getD, List.getElem?_eq_getElem h']
  simp
end Go.Eng
namespace Go.Proofs.Ytelgegefmjlimaa
open Go Go.Eng
set_option maxRecDepth 100000
set_option maxHeartbeats 4000000
set_option linter.all false
attribute [local irreducible] WL WC WQ QFun QLoop Does Q1 QRound QAssign Go.Addr.add
attribute [local irreducible] movedF putsOf dropsOf bytesOf gapsOf
theorem rMove_any {a : Option Addr} {cap : Nat} {l : List Stp} {f t : Int} {at_ : Nat} {bh : Bool} (hf : Fit l) (hs : sizesOf l = some (f, t)) (hat : (at_ : Int) ≤ f) (w0 : World) (m : Mem) (H : SHeap) (hr : RowR w0 m H 3 a (l.map Stp.cs)) :
    Does Try.prog 16 #[.slice a l.length cap, .int .i64 (at_ : Int), .bool bh] w0 m H (Gives (.int .i64 (movedF l at_ bh : Int)) m H) := by
  refine Does.of_body (args := [.slice a l.length cap, .int .i64 (at_ : Int), .bool bh]) Try.func16 rfl Try.ntmps16 rfl ?_
  obtain ⟨hok, hal, hpl, hfr, _, g1, g2, _, _⟩ := sized hs
  have hdl := drops_from l hok
  obtain ⟨sl1, sl2⟩ := said_len (gapsOf l)
  (try (refine st ?_; intros))
  refine w_callF Try.func43 ?_ (hs := say_any hf hs _ _ _ hr)
  rintro _ m _ ⟨rfl, q2, q4, q6, rfl, rfl⟩
  obtain ⟨P, hP⟩ : ∃ P, putsOf (gapsOf l) = P := ⟨_, rfl⟩
  obtain ⟨D, hD⟩ : ∃ D, dropsOf (gapsOf l) = D := ⟨_, rfl⟩
  obtain ⟨B, hB⟩ : ∃ B, bytesOf (gapsOf l) = B := ⟨_, rfl⟩
  have hstep := moved_step l
  have hlast := moved_last l
  have hmx := moved_len l
  simp only [hP, hD, hB] at *
  have hPl : (P.map sV).length = P.length := by simp
  have hDl : (D.map oV).length = D.length := by simp
  (refine st ?_; intros; rename_i b)
  refine WC.loopH [(9, .int .i64 ((0) : Int)), (8, .int .i64 ((0) : Int)), (7, .pointer (some ⟨b, 0, none⟩)), (1, .int .i64 (at_ : Int)), (2, .bool bh)] ?_ ?_ (fun j r ds m' H' => ∃ (p : Nat) (n : Nat), j = at_ + 1 - p ∧ r = [(9, .int .i64 (p : Int)), (8, .int .i64 (n : Int)), (7, .pointer (some ⟨b, 0, none⟩)), (1, .int .i64 (at_ : Int)), (2, .bool bh)] ∧ ds = [] ∧ m = m' ∧ H' = .blk b (.cells [.slice (some ⟨q2, 0, none⟩) P.length P.length, .slice (some ⟨q4, 0, none⟩) D.length D.length, .slice (some ⟨q6, 0, none⟩) B.length B.length].toArray 92 (0, 0)) :: .row (some ⟨q2, 0, none⟩) P.length 9 1 (P.map sV) :: .row (some ⟨q4, 0, none⟩) D.length 4 1 (D.map oV) :: .row (some ⟨q6, 0, none⟩) B.length 5 1 (B.map uV) :: H ∧ ((p ≤ at_ ∧ n = movedF l p false) ∨ (p = at_ + 1 ∧ n = movedF l at_ bh))) (at_ + 1 - (0)) ⟨0, 0, rfl, rfl, rfl, rfl, rfl, ?_⟩ ?_
  · (repeat (first | exact Env.Sub.nil | refine Env.Sub.cons rfl ?_))
  · exact zpk
  · refine .inl ⟨by omega, ?_⟩; rw [moved_lists l 0 false (by omega)]; simp
  rintro j r ds m' H' ⟨p, n, rfl, rfl, rfl, rfl, rfl, hn⟩
  by_cases hlt : p ≤ at_
  · have hn1 : n = movedF l p false := by rcases hn with h | h <;> omega
    have hm1 := hmx p false
    have hpp : p < P.length := by omega
    have hget : (P.map sV)[p]? = some [str P[p]] := by rw [List.getElem?_map, List.getElem?_eq_getElem hpp]; rfl
    by_cases h2 : p < at_
    · have hpd : p < D.length := by omega
      have hget2 : (D.map oV)[p]? = some [.bool D[p]] := by rw [List.getElem?_map, List.getElem?_eq_getElem hpd]; rfl
      have h3 := hstep p hpd hpp
      have hm2 := hmx (p + 1) false
      cases hd : D[p] with
      | true =>
        rw [hd] at hget2 h3
        simp only [if_true] at h3
        (try (refine st ?_; intros))
        refine WQ.next (at_ + 1 - (p + 1)) ⟨p + 1, n + P[p].length, rfl, rfl, rfl, rfl, rfl, ?_⟩ (by omega) zsb zpk
        exact .inl ⟨by omega, by omega⟩
      | false =>
        rw [hd] at hget2 h3
        simp only [Bool.false_eq_true, if_false] at h3
        (try (refine st ?_; intros))
        refine WQ.next (at_ + 1 - (p + 1)) ⟨p + 1, n + P[p].length + 1, rfl, rfl, rfl, rfl, rfl, ?_⟩ (by omega) zsb zpk
        exact .inl ⟨by omega, by omega⟩
    · have h3 := hlast p bh (by omega) hpp
      have hm2 := hmx p bh
      have hpe : p = at_ := by omega
      cases bh with
      | true =>
        simp only [if_true] at h3
        (try (refine st ?_; intros))
        refine WQ.next (at_ + 1 - (p + 1)) ⟨p + 1, n + P[p].length, rfl, rfl, rfl, rfl, rfl, ?_⟩ (by omega) zsb zpk
        exact .inr ⟨by omega, by rw [← hpe, h3, hn1]⟩
      | false =>
        (try (refine st ?_; intros))
        refine WQ.next (at_ + 1 - (p + 1)) ⟨p + 1, n, rfl, rfl, rfl, rfl, rfl, ?_⟩ (by omega) zsb zpk
        exact .inr ⟨by omega, by rw [← hpe, hn1]⟩
  · have hn1 : n = movedF l at_ bh := by rcases hn with h | h <;> omega
    (try (refine st ?_; intros))
    rw [hn1]
    (try (refine st ?_; intros))
    exact q_fin0 (H0 := H) (Gives.mk rfl) (hd := zpk)
end Go.Proofs.Ytelgegefmjlimaa

