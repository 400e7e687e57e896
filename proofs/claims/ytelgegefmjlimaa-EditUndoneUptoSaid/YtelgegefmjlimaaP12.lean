/-
  Parts of a walk, joined: E24 E23 E25 E17 E21 E26 E27. No condition.
-/
import Derived.Test.YtelgegefmjlimaaP11
import Derived.Test.YtelgegefmjlimaaP8
/-
  The walks of the reference's Apply, Plain and Invert, of the law's back, and of the program's Invert. No condition.
-/
namespace Go.Eng
open Go Go.RowKit
end Go.Eng
namespace Go.Proofs.Ytelgegefmjlimaa
open Go Go.Eng
set_option maxRecDepth 100000
set_option maxHeartbeats 4000000
set_option linter.all false
attribute [local irreducible] WL WC WQ QFun QLoop Does Q1 QRound QAssign Go.Addr.add
attribute [local irreducible] sizesF sizesOf putsOf dropsOf bytesOf gapsOf applyA plainOf
theorem sq_E24_1 {G : Prop} (h : G := by (repeat (first | (refine sp ?_; (repeat intro zzc)) | (refine iF 14 rfl ?_; refine w_callG Try.func14 ?_ (hs := refSizes_any (by assumption) _ _ _ (by assumption))))); exact WQ.q1 rfl) : G := h
theorem st_E24_1 {G G' : Prop} (next : G') (h : Bx G' → G := by intro zzn; (first | ((refine st ?_; (repeat intro zzc)); (try ((first | (refine iF 14 rfl ?_; refine w_callG Try.func14 ?_ (hs := refSizes_any (by assumption) _ _ _ (by assumption))) | ((refine iDraw ?_; (first | refine WC.drawAll rfl (by decide +kernel) ?_ | refine WC.draw 1 rfl (by decide +kernel) ?_ | refine WC.draw 2 rfl (by decide +kernel) ?_ | refine WC.draw 3 rfl (by decide +kernel) ?_ | refine WC.draw 4 rfl (by decide +kernel) ?_ | refine WC.draw 5 rfl (by decide +kernel) ?_ | refine WC.draw 6 rfl (by decide +kernel) ?_ | refine WC.draw 7 rfl (by decide +kernel) ?_ | refine WC.draw 8 rfl (by decide +kernel) ?_ | refine WC.draw 9 rfl (by decide +kernel) ?_ | refine WC.draw 10 rfl (by decide +kernel) ?_ | refine WC.draw 11 rfl (by decide +kernel) ?_ | refine WC.draw 12 rfl (by decide +kernel) ?_ | refine WC.draw 13 rfl (by decide +kernel) ?_ | refine WC.draw 14 rfl (by decide +kernel) ?_ | refine WC.draw 15 rfl (by decide +kernel) ?_ | refine WC.draw 16 rfl (by decide +kernel) ?_ | refine WC.draw 17 rfl (by decide +kernel) ?_ | refine WC.draw 18 rfl (by decide +kernel) ?_ | refine WC.draw 19 rfl (by decide +kernel) ?_ | refine WC.draw 20 rfl (by decide +kernel) ?_ | refine WC.draw 21 rfl (by decide +kernel) ?_ | refine WC.draw 22 rfl (by decide +kernel) ?_ | refine WC.draw 23 rfl (by decide +kernel) ?_ | refine WC.draw 24 rfl (by decide +kernel) ?_)); (repeat (refine WD.cons rfl (fun c h => by cases h) sq_E24_1 ?_)); refine WD.nil ?_)); (try (refine st ?_; (repeat intro zzc)))))) | ((first | (refine iF 14 rfl ?_; refine w_callG Try.func14 ?_ (hs := refSizes_any (by assumption) _ _ _ (by assumption))) | ((refine iDraw ?_; (first | refine WC.drawAll rfl (by decide +kernel) ?_ | refine WC.draw 1 rfl (by decide +kernel) ?_ | refine WC.draw 2 rfl (by decide +kernel) ?_ | refine WC.draw 3 rfl (by decide +kernel) ?_ | refine WC.draw 4 rfl (by decide +kernel) ?_ | refine WC.draw 5 rfl (by decide +kernel) ?_ | refine WC.draw 6 rfl (by decide +kernel) ?_ | refine WC.draw 7 rfl (by decide +kernel) ?_ | refine WC.draw 8 rfl (by decide +kernel) ?_ | refine WC.draw 9 rfl (by decide +kernel) ?_ | refine WC.draw 10 rfl (by decide +kernel) ?_ | refine WC.draw 11 rfl (by decide +kernel) ?_ | refine WC.draw 12 rfl (by decide +kernel) ?_ | refine WC.draw 13 rfl (by decide +kernel) ?_ | refine WC.draw 14 rfl (by decide +kernel) ?_ | refine WC.draw 15 rfl (by decide +kernel) ?_ | refine WC.draw 16 rfl (by decide +kernel) ?_ | refine WC.draw 17 rfl (by decide +kernel) ?_ | refine WC.draw 18 rfl (by decide +kernel) ?_ | refine WC.draw 19 rfl (by decide +kernel) ?_ | refine WC.draw 20 rfl (by decide +kernel) ?_ | refine WC.draw 21 rfl (by decide +kernel) ?_ | refine WC.draw 22 rfl (by decide +kernel) ?_ | refine WC.draw 23 rfl (by decide +kernel) ?_ | refine WC.draw 24 rfl (by decide +kernel) ?_)); (repeat (refine WD.cons rfl (fun c h => by cases h) sq_E24_1 ?_)); refine WD.nil ?_)); (try (refine st ?_; (repeat intro zzc))))); (repeat ((first | (refine iF 14 rfl ?_; refine w_callG Try.func14 ?_ (hs := refSizes_any (by assumption) _ _ _ (by assumption))) | ((refine iDraw ?_; (first | refine WC.drawAll rfl (by decide +kernel) ?_ | refine WC.draw 1 rfl (by decide +kernel) ?_ | refine WC.draw 2 rfl (by decide +kernel) ?_ | refine WC.draw 3 rfl (by decide +kernel) ?_ | refine WC.draw 4 rfl (by decide +kernel) ?_ | refine WC.draw 5 rfl (by decide +kernel) ?_ | refine WC.draw 6 rfl (by decide +kernel) ?_ | refine WC.draw 7 rfl (by decide +kernel) ?_ | refine WC.draw 8 rfl (by decide +kernel) ?_ | refine WC.draw 9 rfl (by decide +kernel) ?_ | refine WC.draw 10 rfl (by decide +kernel) ?_ | refine WC.draw 11 rfl (by decide +kernel) ?_ | refine WC.draw 12 rfl (by decide +kernel) ?_ | refine WC.draw 13 rfl (by decide +kernel) ?_ | refine WC.draw 14 rfl (by decide +kernel) ?_ | refine WC.draw 15 rfl (by decide +kernel) ?_ | refine WC.draw 16 rfl (by decide +kernel) ?_ | refine WC.draw 17 rfl (by decide +kernel) ?_ | refine WC.draw 18 rfl (by decide +kernel) ?_ | refine WC.draw 19 rfl (by decide +kernel) ?_ | refine WC.draw 20 rfl (by decide +kernel) ?_ | refine WC.draw 21 rfl (by decide +kernel) ?_ | refine WC.draw 22 rfl (by decide +kernel) ?_ | refine WC.draw 23 rfl (by decide +kernel) ?_ | refine WC.draw 24 rfl (by decide +kernel) ?_)); (repeat (refine WD.cons rfl (fun c h => by cases h) sq_E24_1 ?_)); refine WD.nil ?_)); (try (refine st ?_; (repeat intro zzc))))); (repeat revert zzc); exact zzn.out) : G := h ⟨next⟩
theorem rApply_any {a : Option Addr} {cap : Nat} {l : List Stp} {s : List UInt8} {f t : Int} (hf : Fit l) (hs : sizesOf l = some (f, t)) (hsl : s.length ≤ 1000000000) (w0 : World) (m : Mem) (H : SHeap) (hr : RowR w0 m H 3 a (l.map Stp.cs)) :
    Does Try.prog 58 #[str s, .slice a l.length cap] w0 m H (Gives (applyV s l) m H) := by
  refine Does.of_body (args := [str s, .slice a l.length cap]) Try.func58 rfl Try.ntmps58 rfl ?_
  have e2 : szR (sizesOf l) = .tuple #[.int .i64 f, .int .i64 t, .bool true] := by rw [hs]; rfl
  obtain ⟨hok, hal, hpl, hfr, _, g1, g2, _, _⟩ := sized hs
  (try (refine st_E24_1 ?_; intros))
  rw [e2]
  by_cases hfs : f = s.length
  · (try (refine st_E24_1 ?_; intros))
    refine w_callF Try.func43 ?_ (hs := say_any hf hs _ _ _ hr)
    rintro _ m _ ⟨rfl, q2, q4, q6, rfl, rfl⟩
    have hda := drops_from l hok
    obtain ⟨la1, la2⟩ := said_len (gapsOf l)
    have hpa : posOf (gapsOf l) = (putsOf (gapsOf l)).zip ((dropsOf (gapsOf l)).zip (bytesOf (gapsOf l))) := rfl
    have hla : lastOf (gapsOf l) = (putsOf (gapsOf l)).getD (dropsOf (gapsOf l)).length [] := rfl
    have hln : (sdA (posOf (gapsOf l)) (lastOf (gapsOf l))).length ≤ 200000 := by rw [sd_atoms]; have := (nf_len hs).1; omega
    have hnf : applyA s (sdA (posOf (gapsOf l)) (lastOf (gapsOf l))) = applyA s (atomsOf l) := by rw [sd_atoms, apply_nf l hok]
    generalize putsOf (gapsOf l) = PX at *
    generalize dropsOf (gapsOf l) = DX at *
    generalize bytesOf (gapsOf l) = BX at *
    generalize posOf (gapsOf l) = XP at *
    generalize lastOf (gapsOf l) = XL at *
    subst hpa
    subst hla
    have hPl : (PX.map sV).length = PX.length := by simp
    have hDl : (DX.map oV).length = DX.length := by simp
    have hBl : (BX.map uV).length = BX.length := by simp
    have hDs : DX.length = s.length := by omega
    (refine st_E24_1 ?_; intros; rename_i x)
    refine WC.newRow (T := 5) (sz := 1) ?_
    refine WC.loopH [(11, .int .i64 ((0) : Int)), (10, .slice (none) (0) (0)), (9, .pointer (some ⟨x, 0, none⟩)), (0, str s)] ?_ ?_ (fun j r ds m' H' => ∃ (p : Nat) (a9 : Option Addr) (c9 : Nat) (n9 : Nat) (O : List UInt8), j = DX.length + 1 - p ∧ r = [(11, .int .i64 (p : Int)), (10, .slice a9 n9 c9), (9, .pointer (some ⟨x, 0, none⟩)), (0, str s)] ∧ ds = [] ∧ m = m' ∧ H' = .row a9 c9 5 1 (O.map bV) :: .blk x (.cells [.slice (some ⟨q2, 0, none⟩) PX.length PX.length, .slice (some ⟨q4, 0, none⟩) DX.length DX.length, .slice (some ⟨q6, 0, none⟩) BX.length BX.length].toArray 92 (0, 0)) :: .row (some ⟨q2, 0, none⟩) PX.length 9 1 (PX.map sV) :: .row (some ⟨q4, 0, none⟩) DX.length 4 1 (DX.map oV) :: .row (some ⟨q6, 0, none⟩) BX.length 5 1 (BX.map uV) :: H ∧ (p ≤ DX.length) ∧ (n9 = O.length) ∧ (O.length + (sdA ((PX.zip (DX.zip BX)).drop p) (PX.getD DX.length [])).length ≤ 200000) ∧ ((applyA (s.drop p) (sdA ((PX.zip (DX.zip BX)).drop p) (PX.getD DX.length []))).map (O ++ ·) = applyA s (atomsOf l))) (DX.length + 1 - (0)) ⟨0, none, 0, 0, ([] : List UInt8), rfl, rfl, rfl, rfl, rfl, by omega, rfl, by rw [List.drop_zero]; simp only [List.length_nil]; omega, by rw [List.drop_zero, List.drop_zero, hnf]; simp⟩ ?_
    · (repeat (first | exact Env.Sub.nil | refine Env.Sub.cons rfl ?_))
    · exact (fun w h => Pick.sat (by iterate 60 (try (first | exact Pick.all | (apply Pick.take; (· (repeat (first | exact Out.here | apply Out.there)))) | apply Pick.drop))) h)
    rintro j r ds m' H' ⟨p, a9, c9, n9, O, rfl, rfl, rfl, rfl, rfl, hp, hn9, hO, hR⟩
    subst hn9
    have hOl : (O.map bV).length = O.length := by simp
    have hpx : p < PX.length := by omega
    have hgx : (PX.map sV)[p]? = some [str PX[p]] := by rw [List.getElem?_map, List.getElem?_eq_getElem hpx]; rfl
    have em : O.map bV ++ PX[p].map (fun b => [Value.int .u8 (b.toNat : Int)]) = (O ++ PX[p]).map bV := by rw [List.map_append]; rfl
    by_cases hlt : p < DX.length
    · have hxb : p < BX.length := by omega
      have hsb : p < s.length := by omega
      have gxd : (DX.map oV)[p]? = some [.bool DX[p]] := by rw [List.getElem?_map, List.getElem?_eq_getElem hlt]; rfl
      have gxb : (BX.map uV)[p]? = some [.int .u8 (BX[p].toNat : Int)] := by rw [List.getElem?_map, List.getElem?_eq_getElem hxb]; rfl
      have hg := gb_at hsb
      rw [pos_drop la1 la2 hlt, sdA_cons] at hO hR
      rw [List.drop_eq_getElem_cons hsb] at hR
      dsimp only at hO hR
      simp only [List.length_append, List.length_map, List.length_cons] at hO
      rw [applyA_ps, Option.map_map] at hR
      have hOP : (O ++ PX[p]).length = O.length + PX[p].length := by simp
      have hOPl : ((O ++ PX[p]).map bV).length = O.length + PX[p].length := by simp
      cases hdx : DX[p] with
      | false =>
        rw [hdx] at gxd hR
        simp only [Bool.false_eq_true, if_false] at hR
        rw [applyA_kc, Option.map_map] at hR
        (refine st_E24_1 ?_; intros; rename_i a8 c8 bz a7 c7)
        have em2 : O.map bV ++ PX[p].map (fun b => [Value.int .u8 (b.toNat : Int)]) ++ [[.int .u8 (gb s p : Int)]] = (O ++ PX[p] ++ [s[p]]).map bV := by rw [em, List.map_append (l₂ := [s[p]]), hg]; rfl
        have em3 : (O.map bV ++ PX[p].map (fun b => [Value.int .u8 (b.toNat : Int)])).length + 1 = O.length + PX[p].length + 1 := by rw [em, hOPl]
        rw [em2, em3]
        refine WQ.next (DX.length + 1 - (p + 1)) ⟨p + 1, a7, c7, O.length + PX[p].length + 1, O ++ PX[p] ++ [s[p]], rfl, rfl, rfl, rfl, rfl, ?_, ?_, ?_, ?_⟩ (by omega) (by (repeat (first | exact Env.Sub.nil | refine Env.Sub.cons rfl ?_))) (fun w h => Pick.sat (by iterate 60 (try (first | exact Pick.all | (apply Pick.take; (· (repeat (first | exact Out.here | apply Out.there)))) | apply Pick.drop))) h)
        · omega
        · simp only [List.length_append, List.length_singleton]
        · simp only [List.length_append, List.length_singleton]; omega
        · rw [← hR]; congr 1; funext q; simp
      | true =>
        rw [hdx] at gxd hR
        simp only [if_true] at hR
        rw [applyA_dc] at hR
        by_cases hb : s[p] = BX[p]
        · rw [if_pos hb] at hR
          have hb' : (BX[p].toNat : Int) = (gb s p : Int) := by rw [hg, hb]
          (refine st_E24_1 ?_; intros; rename_i a8 c8)
          rw [hOl, em]
          refine WQ.next (DX.length + 1 - (p + 1)) ⟨p + 1, a8, c8, O.length + PX[p].length, O ++ PX[p], rfl, rfl, rfl, rfl, rfl, ?_, ?_, ?_, ?_⟩ (by omega) (by (repeat (first | exact Env.Sub.nil | refine Env.Sub.cons rfl ?_))) (fun w h => Pick.sat (by iterate 60 (try (first | exact Pick.all | (apply Pick.take; (· (repeat (first | exact Out.here | apply Out.there)))) | apply Pick.drop))) h)
          · omega
          · rw [hOP]
          · rw [hOP]; omega
          · rw [← hR]; congr 1; funext q; simp
        · rw [if_neg hb] at hR
          have hb' : ¬ (BX[p].toNat : Int) = (gb s p : Int) := by rw [hg]; exact fun h => hb (UInt8.toNat_inj.1 (by omega))
          have e : applyV s l = .tuple #[str [], .int .i64 270] := by simp only [applyV, hs, hfs, ne_eq, not_true, if_false, ← hR, Option.map_none]
          rw [e]
          (try (refine st_E24_1 ?_; intros))
          exact q_fin0 (H0 := H) (Gives.mk rfl) (hd := (fun w h => Pick.sat (by iterate 60 (try (first | exact Pick.all | (apply Pick.take; (· (repeat (first | exact Out.here | apply Out.there)))) | apply Pick.drop))) h))
    · have hpe : p = DX.length := by omega
      rw [List.drop_eq_nil_of_le (show (PX.zip (DX.zip BX)).length ≤ p by simp only [List.length_zip]; omega), getD_last hpe hpx, sdA_nil] at hO hR
      simp only [List.length_map] at hO
      have hsd : s.drop p = [] := List.drop_eq_nil_of_le (by omega)
      have hps := applyA_ps (s.drop p) PX[p] []
      rw [List.append_nil, applyA_nil] at hps
      rw [hps] at hR
      have e : applyV s l = .tuple #[str (O ++ PX[p]), .int .i64 0] := by
        have : applyA s (atomsOf l) = some (O ++ PX[p]) := by rw [← hR]; simp
        simp only [applyV, hs, hfs, ne_eq, not_true, if_false, this]
      rw [e]
      have hOP : (O ++ PX[p]).length = O.length + PX[p].length := by simp
      (refine st_E24_1 ?_; intros; rename_i a8 c8)
      rw [hOl, em]
      (try (refine st_E24_1 ?_; intros))
      refine WL.rowStr (s := O ++ PX[p]) rfl hOP.symm (by (repeat (first | exact List.Mem.head _ | apply List.Mem.tail))) rfl rfl rfl rfl rfl ?_
      (try (refine st_E24_1 ?_; intros))
      exact q_fin0 (H0 := H) (Gives.mk rfl) (hd := (fun w h => Pick.sat (by iterate 60 (try (first | exact Pick.all | (apply Pick.take; (· (repeat (first | exact Out.here | apply Out.there)))) | apply Pick.drop))) h))
  · have e : applyV s l = .tuple #[str [], .int .i64 5] := by simp [applyV, hs, hfs]
    rw [e]
    (try (refine st_E24_1 ?_; intros))
    exact q_fin0 (H0 := H) (Gives.mk rfl) (hd := (fun w h => Pick.sat (by iterate 60 (try (first | exact Pick.all | (apply Pick.take; (· (repeat (first | exact Out.here | apply Out.there)))) | apply Pick.drop))) h))
theorem rPlain_any {q2 q4 q6 : Nat} {PX : List (List UInt8)} {DX : List Bool} {BX : List UInt8} (la1 : BX.length = DX.length) (la2 : PX.length = DX.length + 1) (hln : (sdA (PX.zip (DX.zip BX)) (PX.getD DX.length [])).length ≤ 200000) (w0 : World) (m : Mem) (H : SHeap) :
    Does Try.prog 60 #[.agg #[.slice (some ⟨q2, 0, none⟩) PX.length PX.length, .slice (some ⟨q4, 0, none⟩) DX.length DX.length, .slice (some ⟨q6, 0, none⟩) BX.length BX.length]] w0 m (.row (some ⟨q2, 0, none⟩) PX.length 9 1 (PX.map sV) :: .row (some ⟨q4, 0, none⟩) DX.length 4 1 (DX.map oV) :: .row (some ⟨q6, 0, none⟩) BX.length 5 1 (BX.map uV) :: H)
      (fun v m' H' => m' = m ∧ ∃ c cp, v = .slice c (listOf (sdA (PX.zip (DX.zip BX)) (PX.getD DX.length []))).length cp ∧ H' = .row c cp 84 3 ((listOf (sdA (PX.zip (DX.zip BX)) (PX.getD DX.length []))).map Stp.cs) :: H) := by
  refine Does.of_body (args := [.agg #[.slice (some ⟨q2, 0, none⟩) PX.length PX.length, .slice (some ⟨q4, 0, none⟩) DX.length DX.length, .slice (some ⟨q6, 0, none⟩) BX.length BX.length]]) Try.func60 rfl Try.ntmps60 rfl ?_
  have hPl : (PX.map sV).length = PX.length := by simp
  have hDl : (DX.map oV).length = DX.length := by simp
  have hBl : (BX.map uV).length = BX.length := by simp
  have hDle : DX.length ≤ 200000 := by
    have h1 := sd_from (PX.getD DX.length []) (PX.zip (DX.zip BX))
    have h2 := fromA_le (sdA (PX.zip (DX.zip BX)) (PX.getD DX.length []))
    simp only [List.length_zip] at h1
    omega
  have hlist : listOf (sdA (PX.zip (DX.zip BX)) (PX.getD DX.length [])) = (Bld.start.run (sdA (PX.zip (DX.zip BX)) (PX.getD DX.length []))).close.l := rfl
  generalize listOf (sdA (PX.zip (DX.zip BX)) (PX.getD DX.length [])) = R at *
  (refine st_E24_1 ?_; intros; rename_i x bm)
  refine WC.newRow (T := 84) (sz := 3) ?_
  refine WC.loopH [(4, .int .i64 ((0) : Int)), (3, .pointer (some ⟨bm, 0, none⟩)), (1, .pointer (some ⟨x, 0, none⟩))] ?_ ?_ (fun j r ds m' H' => ∃ (p : Nat) (c : Option Addr) (cp : Nat) (B : Bld) (k : Nat), j = PX.length - p ∧ r = [(4, .int .i64 (p : Int)), (3, .pointer (some ⟨bm, 0, none⟩)), (1, .pointer (some ⟨x, 0, none⟩))] ∧ ds = [] ∧ m = m' ∧ H' = .blk bm (.cells [.slice c B.l.length cp, str B.p, str B.d].toArray 109 (0, 0)) :: .row c cp 84 3 (B.l.map Stp.cs) :: .blk x (.cells [.slice (some ⟨q2, 0, none⟩) PX.length PX.length, .slice (some ⟨q4, 0, none⟩) DX.length DX.length, .slice (some ⟨q6, 0, none⟩) BX.length BX.length].toArray 92 (0, 0)) :: .row (some ⟨q2, 0, none⟩) PX.length 9 1 (PX.map sV) :: .row (some ⟨q4, 0, none⟩) DX.length 4 1 (DX.map oV) :: .row (some ⟨q6, 0, none⟩) BX.length 5 1 (BX.map uV) :: H ∧ (p ≤ PX.length) ∧ (BFit k B) ∧ ((p ≤ DX.length ∧ k + 4 * (sdA ((PX.zip (DX.zip BX)).drop p) (PX.getD DX.length [])).length ≤ 10000000) ∨ (p = DX.length + 1 ∧ k ≤ 10000000)) ∧ ((p ≤ DX.length → R = (B.run (sdA ((PX.zip (DX.zip BX)).drop p) (PX.getD DX.length []))).close.l) ∧ (p = DX.length + 1 → R = B.close.l))) (PX.length - (0)) ⟨0, none, 0, Bld.start, 0, rfl, rfl, rfl, rfl, rfl, by omega, BFit.start, by rw [List.drop_zero]; exact .inl ⟨by omega, by omega⟩, by rw [List.drop_zero]; exact ⟨fun _ => hlist, fun h => by omega⟩⟩ ?_
  · (repeat (first | exact Env.Sub.nil | refine Env.Sub.cons rfl ?_))
  · exact (fun w h => Pick.sat (by iterate 60 (try (first | exact Pick.all | (apply Pick.take; (· (repeat (first | exact Out.here | apply Out.there)))) | apply Pick.drop))) h)
  rintro j r ds m' H' ⟨p, c, cp, B, k, rfl, rfl, rfl, rfl, rfl, hp, hB, hk, ht⟩
  have hBp := hB.p
  have hBd := hB.d
  by_cases hlt : p < PX.length
  · have hk1 : k + 4 * (sdA ((PX.zip (DX.zip BX)).drop p) (PX.getD DX.length [])).length ≤ 10000000 := by omega
    have ht1 := ht.1 (by omega)
    have hgx : (PX.map sV)[p]? = some [str PX[p]] := by rw [List.getElem?_map, List.getElem?_eq_getElem hlt]; rfl
    have hB1 := bfit_put hB PX[p]
    by_cases hpd : p < DX.length
    · have hxb : p < BX.length := by omega
      have gxd : (DX.map oV)[p]? = some [.bool DX[p]] := by rw [List.getElem?_map, List.getElem?_eq_getElem hpd]; rfl
      have gxb : (BX.map uV)[p]? = some [.int .u8 (BX[p].toNat : Int)] := by rw [List.getElem?_map, List.getElem?_eq_getElem hxb]; rfl
      rw [pos_less la1 la2 hpd] at hk1
      rw [pos_drop la1 la2 hpd, sdA_cons, run_append, run_p] at ht1
      dsimp only at ht1
      cases hdx : DX[p] with
      | true =>
        rw [hdx] at gxd ht1
        (try (refine st_E24_1 ?_; intros))
        refine WL.heap (H' := .blk bm (.cells [.slice c B.l.length cp, str (B.p ++ PX[p]), str B.d].toArray 109 (0, 0)) :: .row c cp 84 3 (B.l.map Stp.cs) :: .blk x (.cells [.slice (some ⟨q2, 0, none⟩) PX.length PX.length, .slice (some ⟨q4, 0, none⟩) DX.length DX.length, .slice (some ⟨q6, 0, none⟩) BX.length BX.length].toArray 92 (0, 0)) :: .row (some ⟨q2, 0, none⟩) PX.length 9 1 (PX.map sV) :: .row (some ⟨q4, 0, none⟩) DX.length 4 1 (DX.map oV) :: .row (some ⟨q6, 0, none⟩) BX.length 5 1 (BX.map uV) :: H) (fun w h => Pick.sat (by iterate 60 (try (first | exact Pick.all | (apply Pick.take; (· (repeat (first | exact Out.here | apply Out.there)))) | apply Pick.drop))) h) ?_
        refine w_callF Try.func49 ?_ (hs := mdrop_any ⟨B.l, B.p ++ PX[p], B.d⟩ BX[p] (by simp only; omega) _ _ _)
        rintro v m H1 ⟨rfl, rfl, rfl⟩
        (try (refine st_E24_1 ?_; intros))
        refine WQ.next (PX.length - (p + 1)) ⟨p + 1, c, cp, ⟨B.l, B.p ++ PX[p], B.d ++ [BX[p]]⟩, k + PX[p].length + 1, rfl, rfl, rfl, rfl, rfl, ?_, ?_, ?_, ?_⟩ (by omega) (by (repeat (first | exact Env.Sub.nil | refine Env.Sub.cons rfl ?_))) (fun w h => Pick.sat (by iterate 60 (try (first | exact Pick.all | (apply Pick.take; (· (repeat (first | exact Out.here | apply Out.there)))) | apply Pick.drop))) h)
        · omega
        · exact (bfit_drop hB1 [BX[p]]).mono (by simp only [List.length_singleton]; omega)
        · exact .inl ⟨by omega, by omega⟩
        · exact ⟨fun _ => ht1, fun h => by omega⟩
      | false =>
        rw [hdx] at gxd ht1
        (try (refine st_E24_1 ?_; intros))
        refine WL.heap (H' := .blk bm (.cells [.slice c B.l.length cp, str (B.p ++ PX[p]), str B.d].toArray 109 (0, 0)) :: .row c cp 84 3 (B.l.map Stp.cs) :: .blk x (.cells [.slice (some ⟨q2, 0, none⟩) PX.length PX.length, .slice (some ⟨q4, 0, none⟩) DX.length DX.length, .slice (some ⟨q6, 0, none⟩) BX.length BX.length].toArray 92 (0, 0)) :: .row (some ⟨q2, 0, none⟩) PX.length 9 1 (PX.map sV) :: .row (some ⟨q4, 0, none⟩) DX.length 4 1 (DX.map oV) :: .row (some ⟨q6, 0, none⟩) BX.length 5 1 (BX.map uV) :: H) (fun w h => Pick.sat (by iterate 60 (try (first | exact Pick.all | (apply Pick.take; (· (repeat (first | exact Out.here | apply Out.there)))) | apply Pick.drop))) h) ?_
        refine w_callF Try.func50 ?_ (hs := mkeep_any ⟨B.l, B.p ++ PX[p], B.d⟩ 1 (by omega) (hB1.mono (by omega)) _ _ _)
        rintro v m H1 ⟨rfl, rfl, c2, cp2, rfl⟩
        (try (refine st_E24_1 ?_; intros))
        refine WQ.next (PX.length - (p + 1)) ⟨p + 1, c2, cp2, (⟨B.l, B.p ++ PX[p], B.d⟩ : Bld).keep ((1 : Nat) : Int), k + PX[p].length + 4, rfl, rfl, rfl, rfl, rfl, ?_, ?_, ?_, ?_⟩ (by omega) (by (repeat (first | exact Env.Sub.nil | refine Env.Sub.cons rfl ?_))) (fun w h => Pick.sat (by iterate 60 (try (first | exact Pick.all | (apply Pick.take; (· (repeat (first | exact Out.here | apply Out.there)))) | apply Pick.drop))) h)
        · omega
        · exact (hB1.keep (n := 1)).mono (by omega)
        · exact .inl ⟨by omega, by omega⟩
        · exact ⟨fun _ => ht1, fun h => by omega⟩
    · have hpe : p = DX.length := by omega
      have hbx := pos_left la1 la2 hlt
      rw [pos_end (by omega), sdA_nil, getD_last hpe hlt, run_p] at ht1
      (try (refine st_E24_1 ?_; intros))
      refine WQ.next (PX.length - (p + 1)) ⟨p + 1, c, cp, ⟨B.l, B.p ++ PX[p], B.d⟩, k + PX[p].length, rfl, rfl, rfl, rfl, rfl, ?_, ?_, ?_, ?_⟩ (by omega) (by (repeat (first | exact Env.Sub.nil | refine Env.Sub.cons rfl ?_))) (fun w h => Pick.sat (by iterate 60 (try (first | exact Pick.all | (apply Pick.take; (· (repeat (first | exact Out.here | apply Out.there)))) | apply Pick.drop))) h)
      · omega
      · exact hB1
      · exact .inr ⟨by omega, by omega⟩
      · exact ⟨fun h => by omega, fun _ => ht1⟩
  · have hpe : p = DX.length + 1 := by omega
    have ht1 := ht.2 hpe
    have hBl := hB.len
    (try (refine st_E24_1 ?_; intros))
    refine WL.heap (H' := .blk bm (.cells [.slice c B.l.length cp, str B.p, str B.d].toArray 109 (0, 0)) :: .row c cp 84 3 (B.l.map Stp.cs) :: H) (fun w h => Pick.sat (by iterate 60 (try (first | exact Pick.all | (apply Pick.take; (· (repeat (first | exact Out.here | apply Out.there)))) | apply Pick.drop))) h) ?_
    refine w_callF Try.func51 ?_ (hs := end_any B (by omega) _ _ _)
    rintro v m H1 ⟨rfl, rfl, c2, cp2, rfl⟩
    (try (refine st_E24_1 ?_; intros))
    rw [ht1]
    exact q_fin0 (H0 := .row c2 cp2 84 3 (B.close.l.map Stp.cs) :: H) ⟨rfl, c2, cp2, rfl, rfl⟩ (hd := (fun w h => Pick.sat (by iterate 60 (try (first | exact Pick.all | (apply Pick.take; (· (repeat (first | exact Out.here | apply Out.there)))) | apply Pick.drop))) h))
theorem rInvert_any {a : Option Addr} {cap : Nat} {l : List Stp} {f t : Int} (hf : Fit l) (hs : sizesOf l = some (f, t)) (w0 : World) (m : Mem) (H : SHeap) (hr : RowR w0 m H 3 a (l.map Stp.cs)) :
    Does Try.prog 35 #[.slice a l.length cap] w0 m H (fun v m' H' => m' = m ∧ ∃ c cp, v = .slice c (listOf ((nfOf (gapsOf l)).map Atm.inv)).length cp ∧ H' = .row c cp 84 3 ((listOf ((nfOf (gapsOf l)).map Atm.inv)).map Stp.cs) :: H) := by
  refine Does.of_body (args := [.slice a l.length cap]) Try.func35 rfl Try.ntmps35 rfl ?_
  obtain ⟨hok, hal, hpl, hfr, _, g1, g2, _, _⟩ := sized hs
  (try (refine st_E24_1 ?_; intros))
  refine w_callF Try.func43 ?_ (hs := say_any hf hs _ _ _ hr)
  rintro _ m _ ⟨rfl, q2, q4, q6, rfl, rfl⟩
  have hda := drops_from l hok
  obtain ⟨la1, la2⟩ := said_len (gapsOf l)
  have hpa : posOf (gapsOf l) = (putsOf (gapsOf l)).zip ((dropsOf (gapsOf l)).zip (bytesOf (gapsOf l))) := rfl
  have hla : lastOf (gapsOf l) = (putsOf (gapsOf l)).getD (dropsOf (gapsOf l)).length [] := rfl
  have hln : (sdA (posOf (gapsOf l)) (lastOf (gapsOf l))).length ≤ 200000 := by rw [sd_atoms]; have := (nf_len hs).1; omega
  rw [← sd_atoms]
  generalize putsOf (gapsOf l) = PX at *
  generalize dropsOf (gapsOf l) = DX at *
  generalize bytesOf (gapsOf l) = BX at *
  generalize posOf (gapsOf l) = XP at *
  generalize lastOf (gapsOf l) = XL at *
  subst hpa
  subst hla
  have hPl : (PX.map sV).length = PX.length := by simp
  have hDl : (DX.map oV).length = DX.length := by simp
  have hBl : (BX.map uV).length = BX.length := by simp
  have hDle : DX.length ≤ 65536 := by omega
  have hlist : listOf ((sdA (PX.zip (DX.zip BX)) (PX.getD DX.length [])).map Atm.inv) = (Bld.start.run ((sdA (PX.zip (DX.zip BX)) (PX.getD DX.length [])).map Atm.inv)).close.l := rfl
  generalize listOf ((sdA (PX.zip (DX.zip BX)) (PX.getD DX.length [])).map Atm.inv) = R at *
  clear hok hal hpl hfr hda hr hs
  (refine st_E24_1 ?_; intros; rename_i x bm)
  refine WC.newRow (T := 84) (sz := 3) ?_
  refine WC.loopH [(5, .int .i64 ((0) : Int)), (4, .pointer (some ⟨bm, 0, none⟩)), (3, .pointer (some ⟨x, 0, none⟩))] ?_ ?_ (fun j r ds m' H' => ∃ (p : Nat) (c : Option Addr) (cp : Nat) (B : Bld) (k : Nat), j = PX.length - p ∧ r = [(5, .int .i64 (p : Int)), (4, .pointer (some ⟨bm, 0, none⟩)), (3, .pointer (some ⟨x, 0, none⟩))] ∧ ds = [] ∧ m = m' ∧ H' = .blk bm (.cells [.slice c B.l.length cp, str B.p, str B.d].toArray 109 (0, 0)) :: .row c cp 84 3 (B.l.map Stp.cs) :: .blk x (.cells [.slice (some ⟨q2, 0, none⟩) PX.length PX.length, .slice (some ⟨q4, 0, none⟩) DX.length DX.length, .slice (some ⟨q6, 0, none⟩) BX.length BX.length].toArray 92 (0, 0)) :: .row (some ⟨q2, 0, none⟩) PX.length 9 1 (PX.map sV) :: .row (some ⟨q4, 0, none⟩) DX.length 4 1 (DX.map oV) :: .row (some ⟨q6, 0, none⟩) BX.length 5 1 (BX.map uV) :: H ∧ (p ≤ PX.length) ∧ (BFit k B) ∧ ((p ≤ DX.length ∧ k + 4 * (sdA ((PX.zip (DX.zip BX)).drop p) (PX.getD DX.length [])).length ≤ 10000000) ∨ (p = DX.length + 1 ∧ k ≤ 10000000)) ∧ ((p ≤ DX.length → R = (B.run ((sdA ((PX.zip (DX.zip BX)).drop p) (PX.getD DX.length [])).map Atm.inv)).close.l) ∧ (p = DX.length + 1 → R = B.close.l))) (PX.length - (0)) ⟨0, none, 0, Bld.start, 0, rfl, rfl, rfl, rfl, rfl, by omega, BFit.start, by rw [List.drop_zero]; exact .inl ⟨by omega, by omega⟩, by rw [List.drop_zero]; exact ⟨fun _ => hlist, fun h => by omega⟩⟩ ?_
  · (repeat (first | exact Env.Sub.nil | refine Env.Sub.cons rfl ?_))
  · exact (fun w h => Pick.sat (by iterate 60 (try (first | exact Pick.all | (apply Pick.take; (· (repeat (first | exact Out.here | apply Out.there)))) | apply Pick.drop))) h)
  rintro j r ds m' H' ⟨p, c, cp, B, k, rfl, rfl, rfl, rfl, rfl, hp, hB, hk, ht⟩
  have hBp := hB.p
  have hBd := hB.d
  by_cases hlt : p < PX.length
  · have hk1 : k + 4 * (sdA ((PX.zip (DX.zip BX)).drop p) (PX.getD DX.length [])).length ≤ 10000000 := by omega
    have ht1 := ht.1 (by omega)
    have hgx : (PX.map sV)[p]? = some [str PX[p]] := by rw [List.getElem?_map, List.getElem?_eq_getElem hlt]; rfl
    have hB1 := bfit_drop hB PX[p]
    by_cases hpd : p < DX.length
    · have hxb : p < BX.length := by omega
      have gxd : (DX.map oV)[p]? = some [.bool DX[p]] := by rw [List.getElem?_map, List.getElem?_eq_getElem hpd]; rfl
      have gxb : (BX.map uV)[p]? = some [.int .u8 (BX[p].toNat : Int)] := by rw [List.getElem?_map, List.getElem?_eq_getElem hxb]; rfl
      rw [pos_less la1 la2 hpd] at hk1
      rw [pos_drop la1 la2 hpd, sdA_cons, List.map_append, inv_ps, run_append, run_d, List.map_cons] at ht1
      dsimp only at ht1
      cases hdx : DX[p] with
      | true =>
        rw [hdx] at gxd ht1
        have hd1 : [BX[p]].length = 1 := rfl
        have hbd1 : (B.d ++ PX[p]).length ≤ 100000000 := by rw [List.length_append]; omega
        (try (refine st_E24_1 ?_; intros))
        refine WC.drawE 11 ([.blk bm (.cells [.slice c B.l.length cp, str B.p, str (B.d ++ PX[p])].toArray 109 (0, 0)), .blk x (.cells [.slice (some ⟨q2, 0, none⟩) PX.length PX.length, .slice (some ⟨q4, 0, none⟩) DX.length DX.length, .slice (some ⟨q6, 0, none⟩) BX.length BX.length].toArray 92 (0, 0)), .row (some ⟨q6, 0, none⟩) BX.length 5 1 (BX.map uV)]) (.row c cp 84 3 (B.l.map Stp.cs) :: .row (some ⟨q2, 0, none⟩) PX.length 9 1 (PX.map sV) :: .row (some ⟨q4, 0, none⟩) DX.length 4 1 (DX.map oV) :: H) rfl (by decide +kernel) (fun w h => Pick.sat (by iterate 60 (try (first | exact Pick.all | (apply Pick.take; (· (repeat (first | exact Out.here | apply Out.there)))) | apply Pick.drop))) h) ?_
        ((try (refine WE.calm 0 (by decide +kernel) rfl rfl (by decide +kernel) rfl (fun c h => by cases h) (by intro zm zF zle; exact sq_E24_1) ?_)); (try (refine WE.calm 1 (by decide +kernel) rfl rfl (by decide +kernel) rfl (fun c h => by cases h) (by intro zm zF zle; exact sq_E24_1) ?_)); (try (refine WE.calm 2 (by decide +kernel) rfl rfl (by decide +kernel) rfl (fun c h => by cases h) (by intro zm zF zle; exact sq_E24_1) ?_)); (try (refine WE.calm 3 (by decide +kernel) rfl rfl (by decide +kernel) rfl (fun c h => by cases h) (by intro zm zF zle; exact sq_E24_1) ?_)); (try (refine WE.calm 4 (by decide +kernel) rfl rfl (by decide +kernel) rfl (fun c h => by cases h) (by intro zm zF zle; exact sq_E24_1) ?_)); (try (refine WE.calm 5 (by decide +kernel) rfl rfl (by decide +kernel) rfl (fun c h => by cases h) (by intro zm zF zle; exact sq_E24_1) ?_)); (try (refine WE.calm 6 (by decide +kernel) rfl rfl (by decide +kernel) rfl (fun c h => by cases h) (by intro zm zF zle; exact sq_E24_1) ?_)); (try (refine WE.calm 7 (by decide +kernel) rfl rfl (by decide +kernel) rfl (fun c h => by cases h) (by intro zm zF zle; exact sq_E24_1) ?_)); (try (refine WE.calm 8 (by decide +kernel) rfl rfl (by decide +kernel) rfl (fun c h => by cases h) (by intro zm zF zle; exact sq_E24_1) ?_)); (try (refine WE.calm 9 (by decide +kernel) rfl rfl (by decide +kernel) rfl (fun c h => by cases h) (by intro zm zF zle; exact sq_E24_1) ?_)); (try (refine WE.calm 10 (by decide +kernel) rfl rfl (by decide +kernel) rfl (fun c h => by cases h) (by intro zm zF zle; exact sq_E24_1) ?_)); (try (refine WE.calm 11 (by decide +kernel) rfl rfl (by decide +kernel) rfl (fun c h => by cases h) (by intro zm zF zle; exact sq_E24_1) ?_)); (try (refine WE.calm 12 (by decide +kernel) rfl rfl (by decide +kernel) rfl (fun c h => by cases h) (by intro zm zF zle; exact sq_E24_1) ?_)); (try (refine WE.calm 13 (by decide +kernel) rfl rfl (by decide +kernel) rfl (fun c h => by cases h) (by intro zm zF zle; exact sq_E24_1) ?_)); (try (refine WE.calm 14 (by decide +kernel) rfl rfl (by decide +kernel) rfl (fun c h => by cases h) (by intro zm zF zle; exact sq_E24_1) ?_)); (try (refine WE.calm 15 (by decide +kernel) rfl rfl (by decide +kernel) rfl (fun c h => by cases h) (by intro zm zF zle; exact sq_E24_1) ?_)); (try (refine WE.calm 16 (by decide +kernel) rfl rfl (by decide +kernel) rfl (fun c h => by cases h) (by intro zm zF zle; exact sq_E24_1) ?_)); (try (refine WE.calm 17 (by decide +kernel) rfl rfl (by decide +kernel) rfl (fun c h => by cases h) (by intro zm zF zle; exact sq_E24_1) ?_)); (try (refine WE.calm 18 (by decide +kernel) rfl rfl (by decide +kernel) rfl (fun c h => by cases h) (by intro zm zF zle; exact sq_E24_1) ?_)); (try (refine WE.calm 19 (by decide +kernel) rfl rfl (by decide +kernel) rfl (fun c h => by cases h) (by intro zm zF zle; exact sq_E24_1) ?_)); (try (refine WE.calm 20 (by decide +kernel) rfl rfl (by decide +kernel) rfl (fun c h => by cases h) (by intro zm zF zle; exact sq_E24_1) ?_)); (try (refine WE.calm 21 (by decide +kernel) rfl rfl (by decide +kernel) rfl (fun c h => by cases h) (by intro zm zF zle; exact sq_E24_1) ?_)); (try (refine WE.calm 22 (by decide +kernel) rfl rfl (by decide +kernel) rfl (fun c h => by cases h) (by intro zm zF zle; exact sq_E24_1) ?_)); (try (refine WE.calm 23 (by decide +kernel) rfl rfl (by decide +kernel) rfl (fun c h => by cases h) (by intro zm zF zle; exact sq_E24_1) ?_)); (try (refine WE.calm 24 (by decide +kernel) rfl rfl (by decide +kernel) rfl (fun c h => by cases h) (by intro zm zF zle; exact sq_E24_1) ?_)); (try (refine WE.calm 25 (by decide +kernel) rfl rfl (by decide +kernel) rfl (fun c h => by cases h) (by intro zm zF zle; exact sq_E24_1) ?_)); (try (refine WE.calm 26 (by decide +kernel) rfl rfl (by decide +kernel) rfl (fun c h => by cases h) (by intro zm zF zle; exact sq_E24_1) ?_)); (try (refine WE.calm 27 (by decide +kernel) rfl rfl (by decide +kernel) rfl (fun c h => by cases h) (by intro zm zF zle; exact sq_E24_1) ?_)); (try (refine WE.calm 28 (by decide +kernel) rfl rfl (by decide +kernel) rfl (fun c h => by cases h) (by intro zm zF zle; exact sq_E24_1) ?_)); (try (refine WE.calm 29 (by decide +kernel) rfl rfl (by decide +kernel) rfl (fun c h => by cases h) (by intro zm zF zle; exact sq_E24_1) ?_)); (try (refine WE.calm 30 (by decide +kernel) rfl rfl (by decide +kernel) rfl (fun c h => by cases h) (by intro zm zF zle; exact sq_E24_1) ?_)); (try (refine WE.calm 31 (by decide +kernel) rfl rfl (by decide +kernel) rfl (fun c h => by cases h) (by intro zm zF zle; exact sq_E24_1) ?_)); (try (refine WE.calm 32 (by decide +kernel) rfl rfl (by decide +kernel) rfl (fun c h => by cases h) (by intro zm zF zle; exact sq_E24_1) ?_)); (try (refine WE.calm 33 (by decide +kernel) rfl rfl (by decide +kernel) rfl (fun c h => by cases h) (by intro zm zF zle; exact sq_E24_1) ?_)); (try (refine WE.calm 34 (by decide +kernel) rfl rfl (by decide +kernel) rfl (fun c h => by cases h) (by intro zm zF zle; exact sq_E24_1) ?_)); (try (refine WE.calm 35 (by decide +kernel) rfl rfl (by decide +kernel) rfl (fun c h => by cases h) (by intro zm zF zle; exact sq_E24_1) ?_)); (try (refine WE.calm 36 (by decide +kernel) rfl rfl (by decide +kernel) rfl (fun c h => by cases h) (by intro zm zF zle; exact sq_E24_1) ?_)); (try (refine WE.calm 37 (by decide +kernel) rfl rfl (by decide +kernel) rfl (fun c h => by cases h) (by intro zm zF zle; exact sq_E24_1) ?_)); (try (refine WE.calm 38 (by decide +kernel) rfl rfl (by decide +kernel) rfl (fun c h => by cases h) (by intro zm zF zle; exact sq_E24_1) ?_)); (try (refine WE.calm 39 (by decide +kernel) rfl rfl (by decide +kernel) rfl (fun c h => by cases h) (by intro zm zF zle; exact sq_E24_1) ?_)); (try (refine WE.calm 40 (by decide +kernel) rfl rfl (by decide +kernel) rfl (fun c h => by cases h) (by intro zm zF zle; exact sq_E24_1) ?_)); (try (refine WE.calm 41 (by decide +kernel) rfl rfl (by decide +kernel) rfl (fun c h => by cases h) (by intro zm zF zle; exact sq_E24_1) ?_)))
        refine WE.act1 7 (by decide +kernel) rfl rfl (fun c h => by cases h) ?_
        (refine st_E24_1 ?_; intros; rename_i qz)
        refine WQ.acted (B := [.blk qz (.cells [.int .u8 (BX[p].toNat : Int)].toArray 5 (0, 0))]) (U := .row c cp 84 3 (B.l.map Stp.cs) :: .row (some ⟨q2, 0, none⟩) PX.length 9 1 (PX.map sV) :: .row (some ⟨q4, 0, none⟩) DX.length 4 1 (DX.map oV) :: H) rfl (Mem.le.refl _) (fun w h => Pick.sat (by iterate 60 (try (first | exact Pick.all | (apply Pick.take; (· (repeat (first | exact Out.here | apply Out.there)))) | apply Pick.drop))) h) ?_
        (refine WE.calm 8 (by decide +kernel) rfl rfl (by decide +kernel) rfl (fun c h => by cases h) (by intro zm zF zle; refine WL.blkStr (s := [BX[p]]) rfl (by (repeat (first | exact List.Mem.head _ | apply List.Mem.tail))) rfl rfl rfl rfl rfl rfl rfl ?_; exact sq_E24_1) ?_)
        (refine WE.calm 9 (by decide +kernel) rfl rfl (by decide +kernel) rfl (fun c h => by cases h) (by intro zm zF zle; exact sq_E24_1) ?_)
        (refine WE.calm 10 (by decide +kernel) rfl rfl (by decide +kernel) rfl (fun c h => by cases h) (by intro zm zF zle; exact sq_E24_1) ?_)
        refine WE.done (by decide +kernel) ?_
        (try (refine st_E24_1 ?_; intros))
        refine WQ.next (PX.length - (p + 1)) ⟨p + 1, c, cp, ⟨B.l, B.p ++ [BX[p]], B.d ++ PX[p]⟩, k + PX[p].length + 1, rfl, rfl, rfl, rfl, rfl, ?_, ?_, ?_, ?_⟩ (by omega) (by (repeat (first | exact Env.Sub.nil | refine Env.Sub.cons rfl ?_))) (fun w h => Pick.sat (by iterate 60 (try (first | exact Pick.all | (apply Pick.take; (· (repeat (first | exact Out.here | apply Out.there)))) | apply Pick.drop))) h)
        · omega
        · exact (bfit_put hB1 [BX[p]]).mono (by simp only [List.length_singleton]; omega)
        · exact .inl ⟨by omega, by omega⟩
        · exact ⟨fun _ => ht1, fun h => by omega⟩
      | false =>
        rw [hdx] at gxd ht1
        (try (refine st_E24_1 ?_; intros))
        refine WL.heap (H' := .blk bm (.cells [.slice c B.l.length cp, str B.p, str (B.d ++ PX[p])].toArray 109 (0, 0)) :: .row c cp 84 3 (B.l.map Stp.cs) :: .blk x (.cells [.slice (some ⟨q2, 0, none⟩) PX.length PX.length, .slice (some ⟨q4, 0, none⟩) DX.length DX.length, .slice (some ⟨q6, 0, none⟩) BX.length BX.length].toArray 92 (0, 0)) :: .row (some ⟨q2, 0, none⟩) PX.length 9 1 (PX.map sV) :: .row (some ⟨q4, 0, none⟩) DX.length 4 1 (DX.map oV) :: .row (some ⟨q6, 0, none⟩) BX.length 5 1 (BX.map uV) :: H) (fun w h => Pick.sat (by iterate 60 (try (first | exact Pick.all | (apply Pick.take; (· (repeat (first | exact Out.here | apply Out.there)))) | apply Pick.drop))) h) ?_
        refine w_callF Try.func50 ?_ (hs := mkeep_any ⟨B.l, B.p, B.d ++ PX[p]⟩ 1 (by omega) (hB1.mono (by omega)) _ _ _)
        rintro v m H1 ⟨rfl, rfl, c2, cp2, rfl⟩
        (try (refine st_E24_1 ?_; intros))
        refine WQ.next (PX.length - (p + 1)) ⟨p + 1, c2, cp2, (⟨B.l, B.p, B.d ++ PX[p]⟩ : Bld).keep ((1 : Nat) : Int), k + PX[p].length + 4, rfl, rfl, rfl, rfl, rfl, ?_, ?_, ?_, ?_⟩ (by omega) (by (repeat (first | exact Env.Sub.nil | refine Env.Sub.cons rfl ?_))) (fun w h => Pick.sat (by iterate 60 (try (first | exact Pick.all | (apply Pick.take; (· (repeat (first | exact Out.here | apply Out.there)))) | apply Pick.drop))) h)
        · omega
        · exact (hB1.keep (n := 1)).mono (by omega)
        · exact .inl ⟨by omega, by omega⟩
        · exact ⟨fun _ => ht1, fun h => by omega⟩
    · have hpe : p = DX.length := by omega
      have hbx := pos_left la1 la2 hlt
      rw [pos_end (by omega), sdA_nil, getD_last hpe hlt, inv_ps, run_d] at ht1
      (try (refine st_E24_1 ?_; intros))
      refine WQ.next (PX.length - (p + 1)) ⟨p + 1, c, cp, ⟨B.l, B.p, B.d ++ PX[p]⟩, k + PX[p].length, rfl, rfl, rfl, rfl, rfl, ?_, ?_, ?_, ?_⟩ (by omega) (by (repeat (first | exact Env.Sub.nil | refine Env.Sub.cons rfl ?_))) (fun w h => Pick.sat (by iterate 60 (try (first | exact Pick.all | (apply Pick.take; (· (repeat (first | exact Out.here | apply Out.there)))) | apply Pick.drop))) h)
      · omega
      · exact hB1
      · exact .inr ⟨by omega, by omega⟩
      · exact ⟨fun h => by omega, fun _ => ht1⟩
  · have hpe : p = DX.length + 1 := by omega
    have ht1 := ht.2 hpe
    have hBl := hB.len
    (try (refine st_E24_1 ?_; intros))
    refine WL.heap (H' := .blk bm (.cells [.slice c B.l.length cp, str B.p, str B.d].toArray 109 (0, 0)) :: .row c cp 84 3 (B.l.map Stp.cs) :: H) (fun w h => Pick.sat (by iterate 60 (try (first | exact Pick.all | (apply Pick.take; (· (repeat (first | exact Out.here | apply Out.there)))) | apply Pick.drop))) h) ?_
    refine w_callF Try.func51 ?_ (hs := end_any B (by omega) _ _ _)
    rintro v m H1 ⟨rfl, rfl, c2, cp2, rfl⟩
    (try (refine st_E24_1 ?_; intros))
    rw [ht1]
    exact q_fin0 (H0 := .row c2 cp2 84 3 (B.close.l.map Stp.cs) :: H) ⟨rfl, c2, cp2, rfl, rfl⟩ (hd := (fun w h => Pick.sat (by iterate 60 (try (first | exact Pick.all | (apply Pick.take; (· (repeat (first | exact Out.here | apply Out.there)))) | apply Pick.drop))) h))
end Go.Proofs.Ytelgegefmjlimaa

/-
  The walk of the law EditConverges. No condition.
-/
namespace Go.Eng
open Go
theorem mem_atoms {l : List Stp} {s : Stp} (h : s ∈ l) : s.atoms.length ≤ (atomsOf l).length := by
  obtain ⟨x, y, rfl⟩ := List.append_of_mem h
  rw [atoms_append, atoms_cons, List.length_append, List.length_append]; omega
theorem fit_list {L : List Atm} (h1 : fromA L ≤ 65536) (h2 : toA L ≤ 65536) : Fit (listOf L) := by
  obtain ⟨e1, e2⟩ := list_sizes L
  have hok := (list_ok L).1
  have ha := atoms_le (atomsOf (listOf L))
  have hl := steps_le (listOf L) hok
  refine ⟨by omega, fun s hs => ?_, fun s hs => ?_, fun s hs => ?_⟩
  all_goals
    have := mem_atoms hs
    have hb := stp_bounds (hok s hs)
    omega
def okV (t : List UInt8) : Value := .tuple #[str t, .int .i64 0]
theorem apply_cases (s : List UInt8) (l : List Stp) : (∃ e : Int, e ≠ 0 ∧ applyV s l = .tuple #[str [], .int .i64 e]) ∨ (∃ t tt, sizesOf l = some ((s.length : Int), tt) ∧ applyA s (atomsOf l) = some t ∧ applyV s l = okV t) := by
  unfold applyV
  cases hs : sizesOf l with
  | none => exact .inl ⟨2, by decide, rfl⟩
  | some ft =>
    obtain ⟨f, tt⟩ := ft
    simp only
    by_cases hf : f = s.length
    · subst hf
      simp only [ne_eq, not_true, if_false]
      cases ha : applyA s (atomsOf l) with
      | none => exact .inl ⟨270, by decide, rfl⟩
      | some t => exact .inr ⟨t, tt, rfl, rfl, rfl⟩
    · simp only [ne_eq, hf, not_false_eq_true, if_true]
      exact .inl ⟨5, by decide, rfl⟩
theorem apply_listV {L : List Atm} {s t : List UInt8} (h1 : fromA L = s.length) (h2 : applyA s L = some t) (h3 : fromA L ≤ 65536) (h4 : toA L ≤ 65536) : applyV s (listOf L) = okV t := by
  unfold applyV
  rw [sizes_list L h3 h4]
  simp only
  rw [if_neg (by omega), apply_list, h2]; rfl
/-- each of two changes carried over the other one comes to one text -/
theorem converge {s t u : List UInt8} {a b : List Stp} {ta tb : Int} (hsa : sizesOf a = some ((s.length : Int), ta)) (hsb : sizesOf b = some ((s.length : Int), tb)) (h1 : applyA s (atomsOf a) = some t) (h2 : applyA s (atomsOf b) = some u) :
    t.length ≤ 65536 ∧ u.length ≤ 65536 ∧ ∃ O U v, carP a b = (if 65536 < v.length then .inl 3 else .inr (listOf O, listOf U)) ∧ v.length ≤ t.length + u.length ∧
      (v.length ≤ 65536 → applyV t (listOf U) = okV v ∧ applyV u (listOf O) = okV v ∧ Fit (listOf O) ∧ Fit (listOf U) ∧
        ∃ C D, comP a (listOf U) = .inr (listOf C) ∧ comP b (listOf O) = .inr (listOf D) ∧ applyV s (listOf C) = okV v ∧ applyV s (listOf D) = okV v ∧ Fit (listOf C) ∧ Fit (listOf D)) := by
  obtain ⟨oka, _, _, fa, toa, _, _, _, ba⟩ := sized hsa
  obtain ⟨okb, _, _, fb, tob, _, _, _, bb⟩ := sized hsb
  obtain ⟨na1, na2⟩ := nf_sizes a oka
  obtain ⟨nb1, nb2⟩ := nf_sizes b okb
  have lt := apply_len _ _ _ h1
  have lu := apply_len _ _ _ h2
  rw [← apply_nf a oka] at h1
  rw [← apply_nf b okb] at h2
  obtain ⟨O, U, v, e1, e2, e3, e4, e5, e6, e7, e8⟩ := conv_car _ _ _ _ _ h1 h2 (by omega) (by omega)
  refine ⟨by omega, by omega, O, U, v, ?_, e8, fun hv => ?_⟩
  · unfold carP
    rw [hsa, hsb]
    simp only
    rw [if_neg (by simp), carT_list, e1]
    simp only [Option.map_some]
    rw [Nat.zero_add, e6]
  · have u1 : applyA t (nfOf (Gs.start.run U)) = some v := by rw [apply_start]; exact e2
    have u2 : applyA u (nfOf (Gs.start.run O)) = some v := by rw [apply_start]; exact e3
    have n1 : fromA (nfOf (Gs.start.run U)) = fromA U := by have := (list_sizes U).1; rwa [(list_ok U).2] at this
    have n2 : fromA (nfOf (Gs.start.run O)) = fromA O := by have := (list_sizes O).1; rwa [(list_ok O).2] at this
    obtain ⟨C, c1, c2, c3, c4⟩ := conv_comp _ _ _ _ _ h1 u1 (by omega) (by omega)
    obtain ⟨D, d1, d2, d3, d4⟩ := conv_comp _ _ _ _ _ h2 u2 (by omega) (by omega)
    refine ⟨apply_listV e4 e2 (by omega) (by omega), apply_listV e5 e3 (by omega) (by omega), fit_list (by omega) (by omega), fit_list (by omega) (by omega), C, D, ?_, ?_, apply_listV c3 c2 (by omega) (by omega), apply_listV d3 d2 (by omega) (by omega), fit_list (by omega) (by omega), fit_list (by omega) (by omega)⟩
    · unfold comP
      rw [hsa, sizes_list U (by omega) (by omega)]
      simp only
      rw [if_neg (by omega), cmpT_list, list_gaps, c1]; rfl
    · unfold comP
      rw [hsb, sizes_list O (by omega) (by omega)]
      simp only
      rw [if_neg (by omega), cmpT_list, list_gaps, d1]; rfl
end Go.Eng
namespace Go.Proofs.Ytelgegefmjlimaa
open Go Go.Eng
set_option maxRecDepth 100000
set_option maxHeartbeats 4000000
set_option linter.all false
attribute [local irreducible] WL WC WQ QFun QLoop Does Q1 QRound QAssign Go.Addr.add
theorem sq_E23_1 {G : Prop} (h : G := by (repeat (first | (refine sp ?_; (repeat intro zzc)) | (refine iF 12 rfl ?_; refine w_callG Try.func12 ?_ (hs := live_any _ _ _)))); exact WQ.q1 rfl) : G := h
theorem st_E23_1 {G G' : Prop} (next : G') (h : Bx G' → G := by intro zzn; (first | ((refine st ?_; (repeat intro zzc)); (try ((first | (refine iF 12 rfl ?_; refine w_callG Try.func12 ?_ (hs := live_any _ _ _)) | ((refine iDraw ?_; (first | refine WC.drawAll rfl (by decide +kernel) ?_ | refine WC.draw 1 rfl (by decide +kernel) ?_ | refine WC.draw 2 rfl (by decide +kernel) ?_ | refine WC.draw 3 rfl (by decide +kernel) ?_ | refine WC.draw 4 rfl (by decide +kernel) ?_ | refine WC.draw 5 rfl (by decide +kernel) ?_ | refine WC.draw 6 rfl (by decide +kernel) ?_ | refine WC.draw 7 rfl (by decide +kernel) ?_ | refine WC.draw 8 rfl (by decide +kernel) ?_ | refine WC.draw 9 rfl (by decide +kernel) ?_ | refine WC.draw 10 rfl (by decide +kernel) ?_ | refine WC.draw 11 rfl (by decide +kernel) ?_ | refine WC.draw 12 rfl (by decide +kernel) ?_ | refine WC.draw 13 rfl (by decide +kernel) ?_ | refine WC.draw 14 rfl (by decide +kernel) ?_ | refine WC.draw 15 rfl (by decide +kernel) ?_ | refine WC.draw 16 rfl (by decide +kernel) ?_ | refine WC.draw 17 rfl (by decide +kernel) ?_ | refine WC.draw 18 rfl (by decide +kernel) ?_ | refine WC.draw 19 rfl (by decide +kernel) ?_ | refine WC.draw 20 rfl (by decide +kernel) ?_ | refine WC.draw 21 rfl (by decide +kernel) ?_ | refine WC.draw 22 rfl (by decide +kernel) ?_ | refine WC.draw 23 rfl (by decide +kernel) ?_ | refine WC.draw 24 rfl (by decide +kernel) ?_)); (repeat (refine WD.cons rfl (fun c h => by cases h) sq_E23_1 ?_)); refine WD.nil ?_)); (try (refine st ?_; (repeat intro zzc)))))) | ((first | (refine iF 12 rfl ?_; refine w_callG Try.func12 ?_ (hs := live_any _ _ _)) | ((refine iDraw ?_; (first | refine WC.drawAll rfl (by decide +kernel) ?_ | refine WC.draw 1 rfl (by decide +kernel) ?_ | refine WC.draw 2 rfl (by decide +kernel) ?_ | refine WC.draw 3 rfl (by decide +kernel) ?_ | refine WC.draw 4 rfl (by decide +kernel) ?_ | refine WC.draw 5 rfl (by decide +kernel) ?_ | refine WC.draw 6 rfl (by decide +kernel) ?_ | refine WC.draw 7 rfl (by decide +kernel) ?_ | refine WC.draw 8 rfl (by decide +kernel) ?_ | refine WC.draw 9 rfl (by decide +kernel) ?_ | refine WC.draw 10 rfl (by decide +kernel) ?_ | refine WC.draw 11 rfl (by decide +kernel) ?_ | refine WC.draw 12 rfl (by decide +kernel) ?_ | refine WC.draw 13 rfl (by decide +kernel) ?_ | refine WC.draw 14 rfl (by decide +kernel) ?_ | refine WC.draw 15 rfl (by decide +kernel) ?_ | refine WC.draw 16 rfl (by decide +kernel) ?_ | refine WC.draw 17 rfl (by decide +kernel) ?_ | refine WC.draw 18 rfl (by decide +kernel) ?_ | refine WC.draw 19 rfl (by decide +kernel) ?_ | refine WC.draw 20 rfl (by decide +kernel) ?_ | refine WC.draw 21 rfl (by decide +kernel) ?_ | refine WC.draw 22 rfl (by decide +kernel) ?_ | refine WC.draw 23 rfl (by decide +kernel) ?_ | refine WC.draw 24 rfl (by decide +kernel) ?_)); (repeat (refine WD.cons rfl (fun c h => by cases h) sq_E23_1 ?_)); refine WD.nil ?_)); (try (refine st ?_; (repeat intro zzc))))); (repeat ((first | (refine iF 12 rfl ?_; refine w_callG Try.func12 ?_ (hs := live_any _ _ _)) | ((refine iDraw ?_; (first | refine WC.drawAll rfl (by decide +kernel) ?_ | refine WC.draw 1 rfl (by decide +kernel) ?_ | refine WC.draw 2 rfl (by decide +kernel) ?_ | refine WC.draw 3 rfl (by decide +kernel) ?_ | refine WC.draw 4 rfl (by decide +kernel) ?_ | refine WC.draw 5 rfl (by decide +kernel) ?_ | refine WC.draw 6 rfl (by decide +kernel) ?_ | refine WC.draw 7 rfl (by decide +kernel) ?_ | refine WC.draw 8 rfl (by decide +kernel) ?_ | refine WC.draw 9 rfl (by decide +kernel) ?_ | refine WC.draw 10 rfl (by decide +kernel) ?_ | refine WC.draw 11 rfl (by decide +kernel) ?_ | refine WC.draw 12 rfl (by decide +kernel) ?_ | refine WC.draw 13 rfl (by decide +kernel) ?_ | refine WC.draw 14 rfl (by decide +kernel) ?_ | refine WC.draw 15 rfl (by decide +kernel) ?_ | refine WC.draw 16 rfl (by decide +kernel) ?_ | refine WC.draw 17 rfl (by decide +kernel) ?_ | refine WC.draw 18 rfl (by decide +kernel) ?_ | refine WC.draw 19 rfl (by decide +kernel) ?_ | refine WC.draw 20 rfl (by decide +kernel) ?_ | refine WC.draw 21 rfl (by decide +kernel) ?_ | refine WC.draw 22 rfl (by decide +kernel) ?_ | refine WC.draw 23 rfl (by decide +kernel) ?_ | refine WC.draw 24 rfl (by decide +kernel) ?_)); (repeat (refine WD.cons rfl (fun c h => by cases h) sq_E23_1 ?_)); refine WD.nil ?_)); (try (refine st ?_; (repeat intro zzc))))); (repeat revert zzc); exact zzn.out) : G := h ⟨next⟩
attribute [local irreducible] sizesOf carP comP applyV listOf
theorem editConverges_any {pa pb : Option Addr} {ca cb : Nat} {a b : List Stp} {s : List UInt8} (hsl : s.length ≤ 1048576) (hfa : Fit a) (hfb : Fit b) (w0 : World) (m : Mem) (H : SHeap) (hra : ∀ Hp, RowR w0 m Hp 3 pa (a.map Stp.cs)) (hrb : ∀ Hp, RowR w0 m Hp 3 pb (b.map Stp.cs)) :
    Does Try.prog 8 #[str s, .slice pa a.length ca, .slice pb b.length cb] w0 m H (fun v m' _ => v = .bool true ∧ m.le m') := by
  refine Does.of_body (args := [str s, .slice pa a.length ca, .slice pb b.length cb]) Try.func8 rfl Try.ntmps8 rfl ?_
  have hla := hfa.len
  have hlb := hfb.len
  (try (refine st_E23_1 ?_; intros))
  refine w_callF Try.func13 ?_ (hs := ref_any hfa _ _ _ hra)
  rintro v m _ ⟨rfl, (⟨hsm, c1, p1, rfl, rfl⟩ | ⟨hsm, rfl, rfl⟩)⟩
  · (try (refine st_E23_1 ?_; intros))
    refine w_callF Try.func13 ?_ (hs := ref_any hfb _ _ _ hrb)
    rintro v m _ ⟨rfl, (⟨hsm2, c2, p2, rfl, rfl⟩ | ⟨hsm2, rfl, rfl⟩)⟩
    · by_cases hsl2 : s.length ≤ 40000
      · (try (refine st_E23_1 ?_; intros))
        refine w_callF Try.func22 ?_ (hs := apply_any hfa (by omega) _ _ _ (hra _))
        rintro v m H1 ⟨rfl, rfl, rfl⟩
        rcases apply_cases s a with ⟨ea, hea, eqa⟩ | ⟨t, ta, hsa, hta, eqa⟩
        · rw [eqa]
          (try (refine st_E23_1 ?_; intros))
          refine w_callF Try.func22 ?_ (hs := apply_any hfb (by omega) _ _ _ (hrb _))
          rintro v m H1 ⟨rfl, rfl, rfl⟩
          rcases apply_cases s b with ⟨eb, heb, eqb⟩ | ⟨u, tb, hsb, htb, eqb⟩
          · rw [eqb]
            (try (refine st_E23_1 ?_; intros))
            (refine q_fin0 ?_)
            exact ⟨rfl, Mem.le.refl _⟩
          · rw [eqb, okV]
            (try (refine st_E23_1 ?_; intros))
            (refine q_fin0 ?_)
            exact ⟨rfl, Mem.le.refl _⟩
        · rw [eqa, okV]
          (try (refine st_E23_1 ?_; intros))
          refine w_callF Try.func22 ?_ (hs := apply_any hfb (by omega) _ _ _ (hrb _))
          rintro v m H1 ⟨rfl, rfl, rfl⟩
          rcases apply_cases s b with ⟨eb, heb, eqb⟩ | ⟨u, tb, hsb, htb, eqb⟩
          · rw [eqb]
            (try (refine st_E23_1 ?_; intros))
            (refine q_fin0 ?_)
            exact ⟨rfl, Mem.le.refl _⟩
          · rw [eqb, okV]
            obtain ⟨lt, lu, O, U, x, hcar, hxl, hrest⟩ := converge hsa hsb hta htb
            (try (refine st_E23_1 ?_; intros))
            refine w_callF Try.func27 ?_ (hs := carry_any hfa hfb _ _ _ (hra _) (hrb _))
            rintro v m H1 ⟨rfl, hv⟩
            rw [hcar] at hv
            by_cases hbig : 65536 < x.length
            · rw [if_pos hbig] at hv
              obtain ⟨rfl, rfl⟩ := hv
              (try (refine st_E23_1 ?_; intros))
              (refine q_fin0 ?_)
              exact ⟨(vb_t (by omega)).symm, Mem.le.refl _⟩
            · rw [if_neg hbig] at hv
              obtain ⟨c3, p3, c4, p4, rfl, rfl⟩ := hv
              obtain ⟨a1, a2, f1, f2, C, D, k1, k2, a3, a4, f3, f4⟩ := hrest (by omega)
              (try (refine st_E23_1 ?_; intros))
              refine w_callF Try.func22 ?_ (hs := apply_any f2 (by omega) _ _ _ (RowR.row (a := c4) (by (repeat (first | exact List.Mem.head _ | apply List.Mem.tail)))))
              rintro v m H1 ⟨rfl, rfl, rfl⟩
              rw [a1, okV]
              (try (refine st_E23_1 ?_; intros))
              refine w_callF Try.func22 ?_ (hs := apply_any f1 (by omega) _ _ _ (RowR.row (a := c3) (by (repeat (first | exact List.Mem.head _ | apply List.Mem.tail)))))
              rintro v m H1 ⟨rfl, rfl, rfl⟩
              rw [a2, okV]
              (try (refine st_E23_1 ?_; intros))
              refine w_callF Try.func17 ?_ (hs := compose_any hfa f2 _ _ _ (hra _) (RowR.row (a := c4) (by (repeat (first | exact List.Mem.head _ | apply List.Mem.tail)))))
              rintro v m H1 ⟨rfl, hv⟩
              rw [k1] at hv
              obtain ⟨c5, p5, rfl, rfl⟩ := hv
              (try (refine st_E23_1 ?_; intros))
              refine w_callF Try.func17 ?_ (hs := compose_any hfb f1 _ _ _ (hrb _) (RowR.row (a := c3) (by (repeat (first | exact List.Mem.head _ | apply List.Mem.tail)))))
              rintro v m H1 ⟨rfl, hv⟩
              rw [k2] at hv
              obtain ⟨c6, p6, rfl, rfl⟩ := hv
              have hxx : x = x := rfl
              (try (refine st_E23_1 ?_; intros))
              refine w_callF Try.func22 ?_ (hs := apply_any f3 (by omega) _ _ _ (RowR.row (a := c5) (by (repeat (first | exact List.Mem.head _ | apply List.Mem.tail)))))
              rintro v m H1 ⟨rfl, rfl, rfl⟩
              rw [a3, okV]
              (try (refine st_E23_1 ?_; intros))
              refine w_callF Try.func22 ?_ (hs := apply_any f4 (by omega) _ _ _ (RowR.row (a := c6) (by (repeat (first | exact List.Mem.head _ | apply List.Mem.tail)))))
              rintro v m H1 ⟨rfl, rfl, rfl⟩
              rw [a4, okV]
              (try (refine st_E23_1 ?_; intros))
              (refine q_fin0 ?_)
              exact ⟨congrArg Value.bool (dcd_true rfl), Mem.le.refl _⟩
      · (try (refine st_E23_1 ?_; intros))
        (refine q_fin0 ?_)
        exact ⟨rfl, Mem.le.refl _⟩
    · (try (refine st_E23_1 ?_; intros))
      (refine q_fin0 ?_)
      exact ⟨rfl, Mem.le.refl _⟩
  · (try (refine st_E23_1 ?_; intros))
    refine w_callF Try.func13 ?_ (hs := ref_any hfb _ _ _ hrb)
    rintro v m _ ⟨rfl, (⟨hsm2, c2, p2, rfl, rfl⟩ | ⟨hsm2, rfl, rfl⟩)⟩
    all_goals ((try (refine st_E23_1 ?_; intros)); (refine q_fin0 ?_); exact ⟨rfl, Mem.le.refl _⟩)
end Go.Proofs.Ytelgegefmjlimaa

/-
  The walks of the law's back and of the program's Invert. No condition.
-/
namespace Go.Eng
open Go
def invP (l : List Stp) : Int ⊕ List Stp := match sizesOf l with
  | none => .inl 2
  | some _ => .inr (listOf ((atomsOf l).map Atm.inv))
end Go.Eng
namespace Go.Proofs.Ytelgegefmjlimaa
open Go Go.Eng
set_option maxRecDepth 100000
set_option maxHeartbeats 4000000
set_option linter.all false
attribute [local irreducible] WL WC WQ QFun QLoop Does Q1 QRound QAssign Go.Addr.add
attribute [local irreducible] sizesF sizesOf
theorem back_any {a : Option Addr} {cap : Nat} {l : List Stp} (hlen : l.length ≤ 1000000000) (w0 : World) (m : Mem) (H : SHeap) :
    Does Try.prog 59 #[.slice a l.length cap] w0 m (.row a cap 84 3 (l.map Stp.cs) :: H) (fun v m' H' => m' = m ∧ ∃ c cp, v = .slice c l.length cp ∧ H' = .row c cp 59 3 (l.map Stp.cs) :: H) := by
  refine Does.of_body (args := [.slice a l.length cap]) Try.func59 rfl Try.ntmps59 rfl ?_
  have hln : (l.map Stp.cs).length = l.length := by simp
  (try (refine st ?_; intros))
  refine WC.newRow (T := 59) (sz := 3) ?_
  refine WC.loopH [(4, .int .i64 ((0) : Int)), (3, .slice (none) (0) (0)), (0, .slice a l.length cap)] ?_ ?_ (fun j r ds m' H' => ∃ i c cp k, j = l.length - i ∧ r = [(4, .int .i64 (i : Int)), (3, .slice c k cp), (0, .slice a l.length cap)] ∧ ds = [] ∧ m = m' ∧ H' = .row c cp 59 3 ((l.map Stp.cs).take i) :: .row a cap 84 3 (l.map Stp.cs) :: H ∧ (i ≤ l.length) ∧ (k = i)) (l.length - (0)) ⟨0, none, 0, 0, rfl, rfl, rfl, rfl, rfl, by omega, rfl⟩ ?_
  · (repeat (first | exact Env.Sub.nil | refine Env.Sub.cons rfl ?_))
  · exact (fun w h => Pick.sat (by iterate 60 (try (first | exact Pick.all | (apply Pick.take; (· (repeat (first | exact Out.here | apply Out.there)))) | apply Pick.drop))) h)
  rintro j r ds m' H' ⟨i, c, cp, k, rfl, rfl, rfl, rfl, rfl, hi2, hk⟩
  subst hk
  by_cases hlt : k < l.length
  · obtain ⟨x, hx, hget, htk, hmem, hdr⟩ := at_idx (f := Stp.cs) hlt
    have htl : ((l.map Stp.cs).take k).length = k := by simp; omega
    have e : (l.map Stp.cs).take k ++ [x.cs] = (l.map Stp.cs).take (k + 1) := by rw [List.take_add_one, hget]; rfl
    refine WC.rowSome (a := a) (es := l.map Stp.cs) (by (repeat (first | exact List.Mem.head _ | apply List.Mem.tail))) (by omega) ?_
    rintro a0 rfl
    (try (refine st ?_; intros))
    refine WC.drawE 20 ([.row (some a0) cap 84 3 (l.map Stp.cs)]) (.row c cp 59 3 ((l.map Stp.cs).take k) :: H) rfl (by decide +kernel) (fun w h => Pick.sat (by iterate 60 (try (first | exact Pick.all | (apply Pick.take; (· (repeat (first | exact Out.here | apply Out.there)))) | apply Pick.drop))) h) ?_
    ((try (refine WE.calm 0 (by decide +kernel) rfl rfl (by decide +kernel) rfl (fun c h => by cases h) (by intro zm zF zle; skip; ((repeat (refine sp ?_; intros)); exact WQ.q1 rfl)) ?_)); (try (refine WE.calm 1 (by decide +kernel) rfl rfl (by decide +kernel) rfl (fun c h => by cases h) (by intro zm zF zle; skip; ((repeat (refine sp ?_; intros)); exact WQ.q1 rfl)) ?_)); (try (refine WE.calm 2 (by decide +kernel) rfl rfl (by decide +kernel) rfl (fun c h => by cases h) (by intro zm zF zle; skip; ((repeat (refine sp ?_; intros)); exact WQ.q1 rfl)) ?_)); (try (refine WE.calm 3 (by decide +kernel) rfl rfl (by decide +kernel) rfl (fun c h => by cases h) (by intro zm zF zle; skip; ((repeat (refine sp ?_; intros)); exact WQ.q1 rfl)) ?_)); (try (refine WE.calm 4 (by decide +kernel) rfl rfl (by decide +kernel) rfl (fun c h => by cases h) (by intro zm zF zle; skip; ((repeat (refine sp ?_; intros)); exact WQ.q1 rfl)) ?_)); (try (refine WE.calm 5 (by decide +kernel) rfl rfl (by decide +kernel) rfl (fun c h => by cases h) (by intro zm zF zle; skip; ((repeat (refine sp ?_; intros)); exact WQ.q1 rfl)) ?_)); (try (refine WE.calm 6 (by decide +kernel) rfl rfl (by decide +kernel) rfl (fun c h => by cases h) (by intro zm zF zle; skip; ((repeat (refine sp ?_; intros)); exact WQ.q1 rfl)) ?_)); (try (refine WE.calm 7 (by decide +kernel) rfl rfl (by decide +kernel) rfl (fun c h => by cases h) (by intro zm zF zle; skip; ((repeat (refine sp ?_; intros)); exact WQ.q1 rfl)) ?_)); (try (refine WE.calm 8 (by decide +kernel) rfl rfl (by decide +kernel) rfl (fun c h => by cases h) (by intro zm zF zle; skip; ((repeat (refine sp ?_; intros)); exact WQ.q1 rfl)) ?_)); (try (refine WE.calm 9 (by decide +kernel) rfl rfl (by decide +kernel) rfl (fun c h => by cases h) (by intro zm zF zle; skip; ((repeat (refine sp ?_; intros)); exact WQ.q1 rfl)) ?_)); (try (refine WE.calm 10 (by decide +kernel) rfl rfl (by decide +kernel) rfl (fun c h => by cases h) (by intro zm zF zle; skip; ((repeat (refine sp ?_; intros)); exact WQ.q1 rfl)) ?_)); (try (refine WE.calm 11 (by decide +kernel) rfl rfl (by decide +kernel) rfl (fun c h => by cases h) (by intro zm zF zle; skip; ((repeat (refine sp ?_; intros)); exact WQ.q1 rfl)) ?_)); (try (refine WE.calm 12 (by decide +kernel) rfl rfl (by decide +kernel) rfl (fun c h => by cases h) (by intro zm zF zle; skip; ((repeat (refine sp ?_; intros)); exact WQ.q1 rfl)) ?_)); (try (refine WE.calm 13 (by decide +kernel) rfl rfl (by decide +kernel) rfl (fun c h => by cases h) (by intro zm zF zle; skip; ((repeat (refine sp ?_; intros)); exact WQ.q1 rfl)) ?_)); (try (refine WE.calm 14 (by decide +kernel) rfl rfl (by decide +kernel) rfl (fun c h => by cases h) (by intro zm zF zle; skip; ((repeat (refine sp ?_; intros)); exact WQ.q1 rfl)) ?_)); (try (refine WE.calm 15 (by decide +kernel) rfl rfl (by decide +kernel) rfl (fun c h => by cases h) (by intro zm zF zle; skip; ((repeat (refine sp ?_; intros)); exact WQ.q1 rfl)) ?_)); (try (refine WE.calm 16 (by decide +kernel) rfl rfl (by decide +kernel) rfl (fun c h => by cases h) (by intro zm zF zle; skip; ((repeat (refine sp ?_; intros)); exact WQ.q1 rfl)) ?_)); (try (refine WE.calm 17 (by decide +kernel) rfl rfl (by decide +kernel) rfl (fun c h => by cases h) (by intro zm zF zle; skip; ((repeat (refine sp ?_; intros)); exact WQ.q1 rfl)) ?_)); (try (refine WE.calm 18 (by decide +kernel) rfl rfl (by decide +kernel) rfl (fun c h => by cases h) (by intro zm zF zle; skip; ((repeat (refine sp ?_; intros)); exact WQ.q1 rfl)) ?_)); (try (refine WE.calm 19 (by decide +kernel) rfl rfl (by decide +kernel) rfl (fun c h => by cases h) (by intro zm zF zle; skip; ((repeat (refine sp ?_; intros)); exact WQ.q1 rfl)) ?_)); (try (refine WE.calm 20 (by decide +kernel) rfl rfl (by decide +kernel) rfl (fun c h => by cases h) (by intro zm zF zle; skip; ((repeat (refine sp ?_; intros)); exact WQ.q1 rfl)) ?_)); (try (refine WE.calm 21 (by decide +kernel) rfl rfl (by decide +kernel) rfl (fun c h => by cases h) (by intro zm zF zle; skip; ((repeat (refine sp ?_; intros)); exact WQ.q1 rfl)) ?_)); (try (refine WE.calm 22 (by decide +kernel) rfl rfl (by decide +kernel) rfl (fun c h => by cases h) (by intro zm zF zle; skip; ((repeat (refine sp ?_; intros)); exact WQ.q1 rfl)) ?_)); (try (refine WE.calm 23 (by decide +kernel) rfl rfl (by decide +kernel) rfl (fun c h => by cases h) (by intro zm zF zle; skip; ((repeat (refine sp ?_; intros)); exact WQ.q1 rfl)) ?_)); (try (refine WE.calm 24 (by decide +kernel) rfl rfl (by decide +kernel) rfl (fun c h => by cases h) (by intro zm zF zle; skip; ((repeat (refine sp ?_; intros)); exact WQ.q1 rfl)) ?_)); (try (refine WE.calm 25 (by decide +kernel) rfl rfl (by decide +kernel) rfl (fun c h => by cases h) (by intro zm zF zle; skip; ((repeat (refine sp ?_; intros)); exact WQ.q1 rfl)) ?_)); (try (refine WE.calm 26 (by decide +kernel) rfl rfl (by decide +kernel) rfl (fun c h => by cases h) (by intro zm zF zle; skip; ((repeat (refine sp ?_; intros)); exact WQ.q1 rfl)) ?_)); (try (refine WE.calm 27 (by decide +kernel) rfl rfl (by decide +kernel) rfl (fun c h => by cases h) (by intro zm zF zle; skip; ((repeat (refine sp ?_; intros)); exact WQ.q1 rfl)) ?_)); (try (refine WE.calm 28 (by decide +kernel) rfl rfl (by decide +kernel) rfl (fun c h => by cases h) (by intro zm zF zle; skip; ((repeat (refine sp ?_; intros)); exact WQ.q1 rfl)) ?_)); (try (refine WE.calm 29 (by decide +kernel) rfl rfl (by decide +kernel) rfl (fun c h => by cases h) (by intro zm zF zle; skip; ((repeat (refine sp ?_; intros)); exact WQ.q1 rfl)) ?_)); (try (refine WE.calm 30 (by decide +kernel) rfl rfl (by decide +kernel) rfl (fun c h => by cases h) (by intro zm zF zle; skip; ((repeat (refine sp ?_; intros)); exact WQ.q1 rfl)) ?_)); (try (refine WE.calm 31 (by decide +kernel) rfl rfl (by decide +kernel) rfl (fun c h => by cases h) (by intro zm zF zle; skip; ((repeat (refine sp ?_; intros)); exact WQ.q1 rfl)) ?_)); (try (refine WE.calm 32 (by decide +kernel) rfl rfl (by decide +kernel) rfl (fun c h => by cases h) (by intro zm zF zle; skip; ((repeat (refine sp ?_; intros)); exact WQ.q1 rfl)) ?_)); (try (refine WE.calm 33 (by decide +kernel) rfl rfl (by decide +kernel) rfl (fun c h => by cases h) (by intro zm zF zle; skip; ((repeat (refine sp ?_; intros)); exact WQ.q1 rfl)) ?_)); (try (refine WE.calm 34 (by decide +kernel) rfl rfl (by decide +kernel) rfl (fun c h => by cases h) (by intro zm zF zle; skip; ((repeat (refine sp ?_; intros)); exact WQ.q1 rfl)) ?_)); (try (refine WE.calm 35 (by decide +kernel) rfl rfl (by decide +kernel) rfl (fun c h => by cases h) (by intro zm zF zle; skip; ((repeat (refine sp ?_; intros)); exact WQ.q1 rfl)) ?_)); (try (refine WE.calm 36 (by decide +kernel) rfl rfl (by decide +kernel) rfl (fun c h => by cases h) (by intro zm zF zle; skip; ((repeat (refine sp ?_; intros)); exact WQ.q1 rfl)) ?_)); (try (refine WE.calm 37 (by decide +kernel) rfl rfl (by decide +kernel) rfl (fun c h => by cases h) (by intro zm zF zle; skip; ((repeat (refine sp ?_; intros)); exact WQ.q1 rfl)) ?_)); (try (refine WE.calm 38 (by decide +kernel) rfl rfl (by decide +kernel) rfl (fun c h => by cases h) (by intro zm zF zle; skip; ((repeat (refine sp ?_; intros)); exact WQ.q1 rfl)) ?_)); (try (refine WE.calm 39 (by decide +kernel) rfl rfl (by decide +kernel) rfl (fun c h => by cases h) (by intro zm zF zle; skip; ((repeat (refine sp ?_; intros)); exact WQ.q1 rfl)) ?_)); (try (refine WE.calm 40 (by decide +kernel) rfl rfl (by decide +kernel) rfl (fun c h => by cases h) (by intro zm zF zle; skip; ((repeat (refine sp ?_; intros)); exact WQ.q1 rfl)) ?_)); (try (refine WE.calm 41 (by decide +kernel) rfl rfl (by decide +kernel) rfl (fun c h => by cases h) (by intro zm zF zle; skip; ((repeat (refine sp ?_; intros)); exact WQ.q1 rfl)) ?_)))
    refine WE.act1 17 (by decide +kernel) rfl rfl (fun c h => by cases h) ?_
    (refine st ?_; intros; rename_i q0)
    refine WQ.acted (B := []) (U := .blk q0 (.cells [.int .i64 x.k, str x.d, str x.p].toArray 59 (0, 0)) :: .row c cp 59 3 ((l.map Stp.cs).take k) :: H) rfl (Mem.le.refl _) (fun w h => Pick.sat (by iterate 60 (try (first | exact Pick.all | (apply Pick.take; (· (repeat (first | exact Out.here | apply Out.there)))) | apply Pick.drop))) h) ?_
    refine WE.act1 18 (by decide +kernel) rfl rfl (fun c h => by cases h) ?_
    (refine st ?_; intros; rename_i c2 cp2)
    refine WQ.acted (B := []) (U := .row c2 cp2 59 3 ((l.map Stp.cs).take k ++ [[.int .i64 x.k, str x.d, str x.p]]) :: H) rfl (Mem.le.refl _) (fun w h => Pick.sat (by iterate 60 (try (first | exact Pick.all | (apply Pick.take; (· (repeat (first | exact Out.here | apply Out.there)))) | apply Pick.drop))) h) ?_
    ((try (refine WE.calm 0 (by decide +kernel) rfl rfl (by decide +kernel) rfl (fun c h => by cases h) (by intro zm zF zle; skip; ((repeat (refine sp ?_; intros)); exact WQ.q1 rfl)) ?_)); (try (refine WE.calm 1 (by decide +kernel) rfl rfl (by decide +kernel) rfl (fun c h => by cases h) (by intro zm zF zle; skip; ((repeat (refine sp ?_; intros)); exact WQ.q1 rfl)) ?_)); (try (refine WE.calm 2 (by decide +kernel) rfl rfl (by decide +kernel) rfl (fun c h => by cases h) (by intro zm zF zle; skip; ((repeat (refine sp ?_; intros)); exact WQ.q1 rfl)) ?_)); (try (refine WE.calm 3 (by decide +kernel) rfl rfl (by decide +kernel) rfl (fun c h => by cases h) (by intro zm zF zle; skip; ((repeat (refine sp ?_; intros)); exact WQ.q1 rfl)) ?_)); (try (refine WE.calm 4 (by decide +kernel) rfl rfl (by decide +kernel) rfl (fun c h => by cases h) (by intro zm zF zle; skip; ((repeat (refine sp ?_; intros)); exact WQ.q1 rfl)) ?_)); (try (refine WE.calm 5 (by decide +kernel) rfl rfl (by decide +kernel) rfl (fun c h => by cases h) (by intro zm zF zle; skip; ((repeat (refine sp ?_; intros)); exact WQ.q1 rfl)) ?_)); (try (refine WE.calm 6 (by decide +kernel) rfl rfl (by decide +kernel) rfl (fun c h => by cases h) (by intro zm zF zle; skip; ((repeat (refine sp ?_; intros)); exact WQ.q1 rfl)) ?_)); (try (refine WE.calm 7 (by decide +kernel) rfl rfl (by decide +kernel) rfl (fun c h => by cases h) (by intro zm zF zle; skip; ((repeat (refine sp ?_; intros)); exact WQ.q1 rfl)) ?_)); (try (refine WE.calm 8 (by decide +kernel) rfl rfl (by decide +kernel) rfl (fun c h => by cases h) (by intro zm zF zle; skip; ((repeat (refine sp ?_; intros)); exact WQ.q1 rfl)) ?_)); (try (refine WE.calm 9 (by decide +kernel) rfl rfl (by decide +kernel) rfl (fun c h => by cases h) (by intro zm zF zle; skip; ((repeat (refine sp ?_; intros)); exact WQ.q1 rfl)) ?_)); (try (refine WE.calm 10 (by decide +kernel) rfl rfl (by decide +kernel) rfl (fun c h => by cases h) (by intro zm zF zle; skip; ((repeat (refine sp ?_; intros)); exact WQ.q1 rfl)) ?_)); (try (refine WE.calm 11 (by decide +kernel) rfl rfl (by decide +kernel) rfl (fun c h => by cases h) (by intro zm zF zle; skip; ((repeat (refine sp ?_; intros)); exact WQ.q1 rfl)) ?_)); (try (refine WE.calm 12 (by decide +kernel) rfl rfl (by decide +kernel) rfl (fun c h => by cases h) (by intro zm zF zle; skip; ((repeat (refine sp ?_; intros)); exact WQ.q1 rfl)) ?_)); (try (refine WE.calm 13 (by decide +kernel) rfl rfl (by decide +kernel) rfl (fun c h => by cases h) (by intro zm zF zle; skip; ((repeat (refine sp ?_; intros)); exact WQ.q1 rfl)) ?_)); (try (refine WE.calm 14 (by decide +kernel) rfl rfl (by decide +kernel) rfl (fun c h => by cases h) (by intro zm zF zle; skip; ((repeat (refine sp ?_; intros)); exact WQ.q1 rfl)) ?_)); (try (refine WE.calm 15 (by decide +kernel) rfl rfl (by decide +kernel) rfl (fun c h => by cases h) (by intro zm zF zle; skip; ((repeat (refine sp ?_; intros)); exact WQ.q1 rfl)) ?_)); (try (refine WE.calm 16 (by decide +kernel) rfl rfl (by decide +kernel) rfl (fun c h => by cases h) (by intro zm zF zle; skip; ((repeat (refine sp ?_; intros)); exact WQ.q1 rfl)) ?_)); (try (refine WE.calm 17 (by decide +kernel) rfl rfl (by decide +kernel) rfl (fun c h => by cases h) (by intro zm zF zle; skip; ((repeat (refine sp ?_; intros)); exact WQ.q1 rfl)) ?_)); (try (refine WE.calm 18 (by decide +kernel) rfl rfl (by decide +kernel) rfl (fun c h => by cases h) (by intro zm zF zle; skip; ((repeat (refine sp ?_; intros)); exact WQ.q1 rfl)) ?_)); (try (refine WE.calm 19 (by decide +kernel) rfl rfl (by decide +kernel) rfl (fun c h => by cases h) (by intro zm zF zle; skip; ((repeat (refine sp ?_; intros)); exact WQ.q1 rfl)) ?_)); (try (refine WE.calm 20 (by decide +kernel) rfl rfl (by decide +kernel) rfl (fun c h => by cases h) (by intro zm zF zle; skip; ((repeat (refine sp ?_; intros)); exact WQ.q1 rfl)) ?_)); (try (refine WE.calm 21 (by decide +kernel) rfl rfl (by decide +kernel) rfl (fun c h => by cases h) (by intro zm zF zle; skip; ((repeat (refine sp ?_; intros)); exact WQ.q1 rfl)) ?_)); (try (refine WE.calm 22 (by decide +kernel) rfl rfl (by decide +kernel) rfl (fun c h => by cases h) (by intro zm zF zle; skip; ((repeat (refine sp ?_; intros)); exact WQ.q1 rfl)) ?_)); (try (refine WE.calm 23 (by decide +kernel) rfl rfl (by decide +kernel) rfl (fun c h => by cases h) (by intro zm zF zle; skip; ((repeat (refine sp ?_; intros)); exact WQ.q1 rfl)) ?_)); (try (refine WE.calm 24 (by decide +kernel) rfl rfl (by decide +kernel) rfl (fun c h => by cases h) (by intro zm zF zle; skip; ((repeat (refine sp ?_; intros)); exact WQ.q1 rfl)) ?_)); (try (refine WE.calm 25 (by decide +kernel) rfl rfl (by decide +kernel) rfl (fun c h => by cases h) (by intro zm zF zle; skip; ((repeat (refine sp ?_; intros)); exact WQ.q1 rfl)) ?_)); (try (refine WE.calm 26 (by decide +kernel) rfl rfl (by decide +kernel) rfl (fun c h => by cases h) (by intro zm zF zle; skip; ((repeat (refine sp ?_; intros)); exact WQ.q1 rfl)) ?_)); (try (refine WE.calm 27 (by decide +kernel) rfl rfl (by decide +kernel) rfl (fun c h => by cases h) (by intro zm zF zle; skip; ((repeat (refine sp ?_; intros)); exact WQ.q1 rfl)) ?_)); (try (refine WE.calm 28 (by decide +kernel) rfl rfl (by decide +kernel) rfl (fun c h => by cases h) (by intro zm zF zle; skip; ((repeat (refine sp ?_; intros)); exact WQ.q1 rfl)) ?_)); (try (refine WE.calm 29 (by decide +kernel) rfl rfl (by decide +kernel) rfl (fun c h => by cases h) (by intro zm zF zle; skip; ((repeat (refine sp ?_; intros)); exact WQ.q1 rfl)) ?_)); (try (refine WE.calm 30 (by decide +kernel) rfl rfl (by decide +kernel) rfl (fun c h => by cases h) (by intro zm zF zle; skip; ((repeat (refine sp ?_; intros)); exact WQ.q1 rfl)) ?_)); (try (refine WE.calm 31 (by decide +kernel) rfl rfl (by decide +kernel) rfl (fun c h => by cases h) (by intro zm zF zle; skip; ((repeat (refine sp ?_; intros)); exact WQ.q1 rfl)) ?_)); (try (refine WE.calm 32 (by decide +kernel) rfl rfl (by decide +kernel) rfl (fun c h => by cases h) (by intro zm zF zle; skip; ((repeat (refine sp ?_; intros)); exact WQ.q1 rfl)) ?_)); (try (refine WE.calm 33 (by decide +kernel) rfl rfl (by decide +kernel) rfl (fun c h => by cases h) (by intro zm zF zle; skip; ((repeat (refine sp ?_; intros)); exact WQ.q1 rfl)) ?_)); (try (refine WE.calm 34 (by decide +kernel) rfl rfl (by decide +kernel) rfl (fun c h => by cases h) (by intro zm zF zle; skip; ((repeat (refine sp ?_; intros)); exact WQ.q1 rfl)) ?_)); (try (refine WE.calm 35 (by decide +kernel) rfl rfl (by decide +kernel) rfl (fun c h => by cases h) (by intro zm zF zle; skip; ((repeat (refine sp ?_; intros)); exact WQ.q1 rfl)) ?_)); (try (refine WE.calm 36 (by decide +kernel) rfl rfl (by decide +kernel) rfl (fun c h => by cases h) (by intro zm zF zle; skip; ((repeat (refine sp ?_; intros)); exact WQ.q1 rfl)) ?_)); (try (refine WE.calm 37 (by decide +kernel) rfl rfl (by decide +kernel) rfl (fun c h => by cases h) (by intro zm zF zle; skip; ((repeat (refine sp ?_; intros)); exact WQ.q1 rfl)) ?_)); (try (refine WE.calm 38 (by decide +kernel) rfl rfl (by decide +kernel) rfl (fun c h => by cases h) (by intro zm zF zle; skip; ((repeat (refine sp ?_; intros)); exact WQ.q1 rfl)) ?_)); (try (refine WE.calm 39 (by decide +kernel) rfl rfl (by decide +kernel) rfl (fun c h => by cases h) (by intro zm zF zle; skip; ((repeat (refine sp ?_; intros)); exact WQ.q1 rfl)) ?_)); (try (refine WE.calm 40 (by decide +kernel) rfl rfl (by decide +kernel) rfl (fun c h => by cases h) (by intro zm zF zle; skip; ((repeat (refine sp ?_; intros)); exact WQ.q1 rfl)) ?_)); (try (refine WE.calm 41 (by decide +kernel) rfl rfl (by decide +kernel) rfl (fun c h => by cases h) (by intro zm zF zle; skip; ((repeat (refine sp ?_; intros)); exact WQ.q1 rfl)) ?_)))
    refine WE.done (by decide +kernel) ?_
    (try (refine st ?_; intros))
    rw [htl]
    refine WQ.next (l.length - (k + 1)) ⟨k + 1, c2, cp2, k + 1, rfl, rfl, rfl, rfl, rfl, ?_, ?_⟩ (by omega) (by (repeat (first | exact Env.Sub.nil | refine Env.Sub.cons rfl ?_))) ?_
    · omega
    · rfl
    · rw [← e]; exact (fun w h => Pick.sat (by iterate 60 (try (first | exact Pick.all | (apply Pick.take; (· (repeat (first | exact Out.here | apply Out.there)))) | apply Pick.drop))) h)
  · obtain rfl : k = l.length := by omega
    (try (refine st ?_; intros))
    have e : (l.map Stp.cs).take l.length = l.map Stp.cs := by rw [← hln]; exact List.take_length
    rw [e]
    exact q_fin0 (H0 := .row c cp 59 3 (l.map Stp.cs) :: H) ⟨rfl, c, cp, rfl, rfl⟩ (hd := (fun w h => Pick.sat (by iterate 60 (try (first | exact Pick.all | (apply Pick.take; (· (repeat (first | exact Out.here | apply Out.there)))) | apply Pick.drop))) h))
theorem sq_E25_1 {G : Prop} (h : G := by (repeat (first | (refine sp ?_; (repeat intro zzc)) | (refine iF 40 rfl ?_; refine w_callG Try.func40 ?_ (hs := sizes_any (by assumption) _ _ _ (by assumption))))); exact WQ.q1 rfl) : G := h
theorem st_E25_1 {G G' : Prop} (next : G') (h : Bx G' → G := by intro zzn; (first | ((refine st ?_; (repeat intro zzc)); (try ((first | (refine iF 40 rfl ?_; refine w_callG Try.func40 ?_ (hs := sizes_any (by assumption) _ _ _ (by assumption))) | ((refine iDraw ?_; (first | refine WC.drawAll rfl (by decide +kernel) ?_ | refine WC.draw 1 rfl (by decide +kernel) ?_ | refine WC.draw 2 rfl (by decide +kernel) ?_ | refine WC.draw 3 rfl (by decide +kernel) ?_ | refine WC.draw 4 rfl (by decide +kernel) ?_ | refine WC.draw 5 rfl (by decide +kernel) ?_ | refine WC.draw 6 rfl (by decide +kernel) ?_ | refine WC.draw 7 rfl (by decide +kernel) ?_ | refine WC.draw 8 rfl (by decide +kernel) ?_ | refine WC.draw 9 rfl (by decide +kernel) ?_ | refine WC.draw 10 rfl (by decide +kernel) ?_ | refine WC.draw 11 rfl (by decide +kernel) ?_ | refine WC.draw 12 rfl (by decide +kernel) ?_ | refine WC.draw 13 rfl (by decide +kernel) ?_ | refine WC.draw 14 rfl (by decide +kernel) ?_ | refine WC.draw 15 rfl (by decide +kernel) ?_ | refine WC.draw 16 rfl (by decide +kernel) ?_ | refine WC.draw 17 rfl (by decide +kernel) ?_ | refine WC.draw 18 rfl (by decide +kernel) ?_ | refine WC.draw 19 rfl (by decide +kernel) ?_ | refine WC.draw 20 rfl (by decide +kernel) ?_ | refine WC.draw 21 rfl (by decide +kernel) ?_ | refine WC.draw 22 rfl (by decide +kernel) ?_ | refine WC.draw 23 rfl (by decide +kernel) ?_ | refine WC.draw 24 rfl (by decide +kernel) ?_)); (repeat (refine WD.cons rfl (fun c h => by cases h) sq_E25_1 ?_)); refine WD.nil ?_)); (try (refine st ?_; (repeat intro zzc)))))) | ((first | (refine iF 40 rfl ?_; refine w_callG Try.func40 ?_ (hs := sizes_any (by assumption) _ _ _ (by assumption))) | ((refine iDraw ?_; (first | refine WC.drawAll rfl (by decide +kernel) ?_ | refine WC.draw 1 rfl (by decide +kernel) ?_ | refine WC.draw 2 rfl (by decide +kernel) ?_ | refine WC.draw 3 rfl (by decide +kernel) ?_ | refine WC.draw 4 rfl (by decide +kernel) ?_ | refine WC.draw 5 rfl (by decide +kernel) ?_ | refine WC.draw 6 rfl (by decide +kernel) ?_ | refine WC.draw 7 rfl (by decide +kernel) ?_ | refine WC.draw 8 rfl (by decide +kernel) ?_ | refine WC.draw 9 rfl (by decide +kernel) ?_ | refine WC.draw 10 rfl (by decide +kernel) ?_ | refine WC.draw 11 rfl (by decide +kernel) ?_ | refine WC.draw 12 rfl (by decide +kernel) ?_ | refine WC.draw 13 rfl (by decide +kernel) ?_ | refine WC.draw 14 rfl (by decide +kernel) ?_ | refine WC.draw 15 rfl (by decide +kernel) ?_ | refine WC.draw 16 rfl (by decide +kernel) ?_ | refine WC.draw 17 rfl (by decide +kernel) ?_ | refine WC.draw 18 rfl (by decide +kernel) ?_ | refine WC.draw 19 rfl (by decide +kernel) ?_ | refine WC.draw 20 rfl (by decide +kernel) ?_ | refine WC.draw 21 rfl (by decide +kernel) ?_ | refine WC.draw 22 rfl (by decide +kernel) ?_ | refine WC.draw 23 rfl (by decide +kernel) ?_ | refine WC.draw 24 rfl (by decide +kernel) ?_)); (repeat (refine WD.cons rfl (fun c h => by cases h) sq_E25_1 ?_)); refine WD.nil ?_)); (try (refine st ?_; (repeat intro zzc))))); (repeat ((first | (refine iF 40 rfl ?_; refine w_callG Try.func40 ?_ (hs := sizes_any (by assumption) _ _ _ (by assumption))) | ((refine iDraw ?_; (first | refine WC.drawAll rfl (by decide +kernel) ?_ | refine WC.draw 1 rfl (by decide +kernel) ?_ | refine WC.draw 2 rfl (by decide +kernel) ?_ | refine WC.draw 3 rfl (by decide +kernel) ?_ | refine WC.draw 4 rfl (by decide +kernel) ?_ | refine WC.draw 5 rfl (by decide +kernel) ?_ | refine WC.draw 6 rfl (by decide +kernel) ?_ | refine WC.draw 7 rfl (by decide +kernel) ?_ | refine WC.draw 8 rfl (by decide +kernel) ?_ | refine WC.draw 9 rfl (by decide +kernel) ?_ | refine WC.draw 10 rfl (by decide +kernel) ?_ | refine WC.draw 11 rfl (by decide +kernel) ?_ | refine WC.draw 12 rfl (by decide +kernel) ?_ | refine WC.draw 13 rfl (by decide +kernel) ?_ | refine WC.draw 14 rfl (by decide +kernel) ?_ | refine WC.draw 15 rfl (by decide +kernel) ?_ | refine WC.draw 16 rfl (by decide +kernel) ?_ | refine WC.draw 17 rfl (by decide +kernel) ?_ | refine WC.draw 18 rfl (by decide +kernel) ?_ | refine WC.draw 19 rfl (by decide +kernel) ?_ | refine WC.draw 20 rfl (by decide +kernel) ?_ | refine WC.draw 21 rfl (by decide +kernel) ?_ | refine WC.draw 22 rfl (by decide +kernel) ?_ | refine WC.draw 23 rfl (by decide +kernel) ?_ | refine WC.draw 24 rfl (by decide +kernel) ?_)); (repeat (refine WD.cons rfl (fun c h => by cases h) sq_E25_1 ?_)); refine WD.nil ?_)); (try (refine st ?_; (repeat intro zzc))))); (repeat revert zzc); exact zzn.out) : G := h ⟨next⟩
theorem eInvert_any {a : Option Addr} {cap : Nat} {l : List Stp} (hf : Fit l) (w0 : World) (m : Mem) (H : SHeap) (hr : RowR w0 m H 3 a (l.map Stp.cs)) :
    Does Try.prog 61 #[.slice a l.length cap] w0 m H (ListP 59 (invP l) .i64 m H) := by
  refine Does.of_body (args := [.slice a l.length cap]) Try.func61 rfl Try.ntmps61 rfl ?_
  have hln : (l.map Stp.cs).length = l.length := by simp
  cases hs : sizesOf l with
  | none =>
    have e : invP l = .inl 2 := by simp only [invP, hs]
    have e2 : szP (sizesOf l) = .tuple #[.int .i64 0, .int .i64 0, .int .i64 2] := by rw [hs]; rfl
    rw [e]
    (try (refine st_E25_1 ?_; intros))
    rw [e2]
    (try (refine st_E25_1 ?_; intros))
    exact q_fin0 (H0 := H) ⟨rfl, rfl, rfl⟩ (hd := (fun w h => Pick.sat (by iterate 60 (try (first | exact Pick.all | (apply Pick.take; (· (repeat (first | exact Out.here | apply Out.there)))) | apply Pick.drop))) h))
  | some ft =>
    obtain ⟨f, t⟩ := ft
    have e : invP l = .inr (listOf ((atomsOf l).map Atm.inv)) := by simp only [invP, hs]
    have e2 : szP (sizesOf l) = .tuple #[.int .i64 f, .int .i64 t, .int .i64 0] := by rw [hs]; rfl
    obtain ⟨hok, hal, hpl, hfr, _, g1, g2, _, _⟩ := sized hs
    have hlen := steps_le l hok
    rw [e]
    have hlist : listOf ((atomsOf l).map Atm.inv) = (Bld.start.run ((atomsOf l).map Atm.inv)).close.l := rfl
    generalize listOf ((atomsOf l).map Atm.inv) = R at *
    (try (refine st_E25_1 ?_; intros))
    rw [e2]
    (refine st_E25_1 ?_; intros; rename_i b)
    refine WC.newRow (T := 59) (sz := 3) ?_
    refine WC.loopH [(21, .int .i64 ((0) : Int)), (20, .int .i64 (l.length : Int)), (19, .slice a l.length cap), (7, .pointer (some ⟨b, 0, none⟩))] ?_ ?_ (fun j r ds m' H' => ∃ (i : Nat) (c : Option Addr) (cp : Nat) (B : Bld), j = l.length - i ∧ r = [(21, .int .i64 (i : Int)), (20, .int .i64 (l.length : Int)), (19, .slice a l.length cap), (7, .pointer (some ⟨b, 0, none⟩))] ∧ ds = [] ∧ m = m' ∧ H' = .blk b (.cells [.slice c B.l.length cp, str B.p, str B.d].toArray 98 (0, 0)) :: .row c cp 59 3 (B.l.map Stp.cs) :: H ∧ (i ≤ l.length) ∧ (B = Bld.start.run ((atomsOf (l.take i)).map Atm.inv))) (l.length - (0)) ⟨0, none, 0, Bld.start, rfl, rfl, rfl, rfl, rfl, by omega, by simp [atomsOf, Bld.run]⟩ ?_
    · (repeat (first | exact Env.Sub.nil | refine Env.Sub.cons rfl ?_))
    · exact (fun w h => Pick.sat (by iterate 60 (try (first | exact Pick.all | (apply Pick.take; (· (repeat (first | exact Out.here | apply Out.there)))) | apply Pick.drop))) h)
    rintro j r ds m' H' ⟨i, c, cp, B, rfl, rfl, rfl, rfl, rfl, hi, hB⟩
    have htl : (atomsOf (l.take i)).length ≤ (atomsOf l).length := by
      have e : atomsOf l = atomsOf (l.take i) ++ atomsOf (l.drop i) := by rw [← atoms_append, List.take_append_drop]
      rw [e]; simp
    have hfit : BFit 10000000000 B := by rw [hB]; exact (BFit.runs _).mono (by rw [List.length_map]; omega)
    by_cases hlt : i < l.length
    · obtain ⟨x, hx, hget, htk, hmem, hdr⟩ := at_idx (f := Stp.cs) hlt
      have hr1 := (hr.more (i := .row c cp 59 3 (B.l.map Stp.cs))).more (i := .blk b (.cells [.slice c B.l.length cp, str B.p, str B.d].toArray 98 (0, 0)))
      have hxl := mem_atoms hmem
      have hxb := stp_bounds (hok x hmem)
      refine WC.rSome hr1 (by omega) ?_
      rintro a0 rfl
      (refine st_E25_1 ?_; intros; rename_i bx)
      refine WL.heap (H' := .blk b (.cells [.slice c B.l.length cp, str B.p, str B.d].toArray 98 (0, 0)) :: .row c cp 59 3 (B.l.map Stp.cs) :: H) (fun w h => Pick.sat (by iterate 60 (try (first | exact Pick.all | (apply Pick.take; (· (repeat (first | exact Out.here | apply Out.there)))) | apply Pick.drop))) h) ?_
      refine w_callF Try.func45 ?_ (hs := step_any B x.inv (by simp only [Stp.inv]; omega) (by simp only [Stp.inv]; omega) (by simp only [Stp.inv]; omega) (hfit.mono (by omega)) _ _ _)
      rintro v m H1 ⟨rfl, rfl, c1, cp1, rfl⟩
      (try (refine st_E25_1 ?_; intros))
      refine WQ.next (l.length - (i + 1)) ⟨i + 1, c1, cp1, B.step x.inv, rfl, rfl, rfl, rfl, rfl, ?_, ?_⟩ (by omega) (by (repeat (first | exact Env.Sub.nil | refine Env.Sub.cons rfl ?_))) (fun w h => Pick.sat (by iterate 60 (try (first | exact Pick.all | (apply Pick.take; (· (repeat (first | exact Out.here | apply Out.there)))) | apply Pick.drop))) h)
      · omega
      · rw [htk, atoms_append, List.map_append, run_append, ← hB, atoms_one, ← inv_atoms (hok x hmem), run_step _ _ (inv_ok (hok x hmem))]
    · obtain rfl : i = l.length := by omega
      have hlen2 := hfit.len
      rw [List.take_length] at hB
      rw [hlist, ← hB]
      (try (refine st_E25_1 ?_; intros))
      refine w_callF Try.func48 ?_ (hs := done_any B (by omega) _ _ _)
      rintro v m H1 ⟨rfl, c1, cp1, rfl, rfl⟩
      (try (refine st_E25_1 ?_; intros))
      exact q_fin0 (H0 := .row c1 cp1 59 3 (B.close.l.map Stp.cs) :: H) ⟨rfl, c1, cp1, rfl, rfl⟩ (hd := (fun w h => Pick.sat (by iterate 60 (try (first | exact Pick.all | (apply Pick.take; (· (repeat (first | exact Out.here | apply Out.there)))) | apply Pick.drop))) h))
end Go.Proofs.Ytelgegefmjlimaa

/-
  The walk of the law's comparison of changes. No condition.
-/
namespace Go.Eng
open Go
theorem comP_len {a b l : List Stp} (h : comP a b = .inr l) : l.length ≤ 2000000 := by
  unfold comP at h
  split at h
  · rename_i f1 mid f2 t2 hsa hsb
    split at h
    · cases h
    · rw [cmpT_list] at h
      cases hc : compA (nfOf (gapsOf a)) (nfOf (gapsOf b)) with
      | none => rw [hc] at h; cases h
      | some o =>
        rw [hc] at h
        simp only [Option.map_some, Sum.inr.injEq] at h
        subst h
        have h1 := list_len o
        have h2 := compA_len _ _ _ hc
        have h3 := (nf_len hsa).1
        have h4 := (nf_len hsb).1
        omega
  · cases h
end Go.Eng
namespace Go.Proofs.Ytelgegefmjlimaa
open Go Go.Eng
set_option maxRecDepth 100000
set_option maxHeartbeats 4000000
set_option linter.all false
attribute [local irreducible] WL WC WQ QFun QLoop Does Q1 QRound QAssign Go.Addr.add
theorem same_any {pa pb : Option Addr} {ca cb : Nat} {l : List Stp} (hl : l.length ≤ 1000000000) (w0 : World) (m : Mem) (H : SHeap) (hra : RowR w0 m H 3 pa (l.map Stp.cs)) (hrb : RowR w0 m H 3 pb (l.map Stp.cs)) :
    Does Try.prog 19 #[.slice pa l.length ca, .slice pb l.length cb] w0 m H (Gives (.bool true) m H) := by
  refine Does.of_body (args := [.slice pa l.length ca, .slice pb l.length cb]) Try.func19 rfl Try.ntmps19 rfl ?_
  have hln : (l.map Stp.cs).length = l.length := by simp
  (try (refine st ?_; intros))
  refine WC.loopH [(5, .int .i64 ((0) : Int)), (0, .slice pa l.length ca), (1, .slice pb l.length cb)] ?_ ?_ (fun j r ds m' H' => ∃ i, j = l.length - i ∧ r = [(5, .int .i64 (i : Int)), (0, .slice pa l.length ca), (1, .slice pb l.length cb)] ∧ ds = [] ∧ m = m' ∧ H' = H ∧ (i ≤ l.length) ∧ (RowR w0 m H 3 pa (l.map Stp.cs)) ∧ (RowR w0 m H 3 pb (l.map Stp.cs))) (l.length - (0)) ⟨0, rfl, rfl, rfl, rfl, rfl, by omega, hra, hrb⟩ ?_
  · (repeat (first | exact Env.Sub.nil | refine Env.Sub.cons rfl ?_))
  · exact (fun w h => Pick.sat (by iterate 60 (try (first | exact Pick.all | (apply Pick.take; (· (repeat (first | exact Out.here | apply Out.there)))) | apply Pick.drop))) h)
  rintro j r ds m' H' ⟨i, rfl, rfl, rfl, rfl, rfl, hi, hra, hrb⟩
  generalize H' = H at *
  by_cases hlt : i < l.length
  · obtain ⟨x, hx, hget, htk, hmem, hdr⟩ := at_idx (f := Stp.cs) hlt
    refine WC.rSome hra (by omega) ?_
    rintro a0 rfl
    refine WC.rSome hrb (by omega) ?_
    rintro b0 rfl
    have h1 : x.d = x.d := rfl
    have h2 : x.p = x.p := rfl
    (try (refine st ?_; intros))
    refine WQ.next (l.length - (i + 1)) ⟨i + 1, rfl, rfl, rfl, rfl, rfl, ?_, ?_, ?_⟩ (by omega) (by (repeat (first | exact Env.Sub.nil | refine Env.Sub.cons rfl ?_))) (fun w h => Pick.sat (by iterate 60 (try (first | exact Pick.all | (apply Pick.take; (· (repeat (first | exact Out.here | apply Out.there)))) | apply Pick.drop))) h)
    · omega
    · assumption
    · assumption
  · obtain rfl : i = l.length := by omega
    (try (refine st ?_; intros))
    exact q_fin0 (H0 := H) (Gives.mk rfl) (hd := (fun w h => Pick.sat (by iterate 60 (try (first | exact Pick.all | (apply Pick.take; (· (repeat (first | exact Out.here | apply Out.there)))) | apply Pick.drop))) h))
end Go.Proofs.Ytelgegefmjlimaa

/-
  The walk of the law's spoiling of an answer. No condition.
-/
namespace Go.Eng
open Go Go.RowKit
theorem rows_of {sz : Nat} : ∀ (cap : Nat) (l : List Value), l.length = cap * sz → ∃ es : List (List Value), es.length = cap ∧ es.flatten = l ∧ ∀ e ∈ es, e.length = sz
  | 0, l, h => ⟨[], rfl, by rw [Nat.zero_mul] at h; rw [List.eq_nil_of_length_eq_zero h]; rfl, by simp⟩
  | cap + 1, l, h => by
    rw [Nat.add_mul, Nat.one_mul] at h
    obtain ⟨es, e1, e2, e3⟩ := rows_of (sz := sz) cap (l.drop sz) (by rw [List.length_drop]; omega)
    refine ⟨l.take sz :: es, by simp [e1], by rw [List.flatten_cons, e2, List.take_append_drop], fun e he => ?_⟩
    rcases List.mem_cons.1 he with rfl | he
    · rw [List.length_take]; omega
    · exact e3 e he
theorem subSl_all (c : Option Addr) (cp sz : Nat) : subSl c cp 0 cp sz = .slice c cp cp := by
  unfold subSl
  cases c with
  | none => simp
  | some a => by_cases h : cp = 0 <;> simp [h, Go.Addr.add]
section
variable {P : Program} {ro : Option Nat} {n : Nat} {w0 : World} {Q : Exit → Act → World → Prop} {r : Env} {ds : List Nat} {m : Mem} {H : SHeap}
/-- a row up to its last room -/
theorem WC.rowFull {c : Code} {a : Option Addr} {cap : Nat} {T : TypeId} {sz : Nat} {es : List (List Value)} (hle : es.length ≤ 9223372036854775807) (h : ∀ es', es'.length = cap → cap ≤ 9223372036854775807 → WC P ro n w0 c Q r ds m (.row a cap T sz es' :: H)) : WC P ro n w0 c Q r ds m (.row a cap T sz es :: H) := by
  intro tmps w ho hs
  have h0 := hs.own _ List.mem_cons_self
  cases a with
  | none =>
    have h1 : es = [] ∧ cap = 0 := h0
    obtain ⟨rfl, rfl⟩ := h1
    exact h [] rfl (Nat.zero_le _) tmps w ho hs
  | some a =>
    obtain ⟨arr, fz, h1, h2, h3, h4, h5, h6, h7, h8⟩ := h0
    obtain ⟨es', e1, e2, e3⟩ := rows_of (sz := sz) cap arr.toList (by simp [h3])
    refine h es' e1 (h8 hle) tmps w ho ⟨hs.os, hs.tape, hs.output, hs.size, hs.pers, fun i hi => ?_, by simpa [SHeap.foot, Item.foot] using hs.sep, by simpa [SHeap.foot, Item.foot] using hs.free⟩
    cases hi with
    | head => exact ⟨arr, fz, h1, h2, h3, by omega, by rw [e1, e2, ← h3]; exact List.take_of_length_le (by simp), e3, h7, fun _ => h8 hle⟩
    | tail _ hi => exact hs.own i (List.mem_cons_of_mem _ hi)
end
end Go.Eng
namespace Go.Proofs.Ytelgegefmjlimaa
open Go Go.Eng
set_option maxRecDepth 100000
set_option maxHeartbeats 4000000
set_option linter.all false
attribute [local irreducible] WL WC WQ QFun QLoop Does Q1 QRound QAssign Go.Addr.add
theorem own_any {c : Option Addr} {cp k : Nat} {es : List (List Value)} (hk : k = es.length) (hle : es.length ≤ 1000000000) (w0 : World) (m : Mem) (H : SHeap) :
    Does Try.prog 29 #[.slice c k cp] w0 m (.row c cp 59 3 es :: H) (fun v m' H' => v = .tuple #[] ∧ m' = m ∧ H' = H) := by
  refine Does.of_body (args := [.slice c k cp]) Try.func29 rfl Try.ntmps29 rfl ?_
  refine WC.rowCap (a := c) (by (repeat (first | exact List.Mem.head _ | apply List.Mem.tail))) fun hcap => ?_
  refine WC.rowFull (by omega) ?_
  rintro E hE hcp
  have hk2 : k ≤ E.length := by omega
  (try (refine st ?_; intros))
  refine WL.capSl rfl rfl rfl ?_
  (try (refine st ?_; intros))
  rw [subSl_all]
  have hk3 : cp = E.length := hE.symm
  refine WC.loopH [(2, .int .i64 ((0) : Int)), (0, .slice c cp cp)] ?_ ?_ (fun j r ds m' H' => ∃ (i : Nat) (E : List (List Value)), j = cp - i ∧ r = [(2, .int .i64 (i : Int)), (0, .slice c cp cp)] ∧ ds = [] ∧ m = m' ∧ H' = .row c cp 59 3 E :: H ∧ (i ≤ cp) ∧ (E.length = cp)) (cp - (0)) ⟨0, E, rfl, rfl, rfl, rfl, rfl, by omega, hE⟩ ?_
  · (repeat (first | exact Env.Sub.nil | refine Env.Sub.cons rfl ?_))
  · exact (fun w h => Pick.sat (by iterate 60 (try (first | exact Pick.all | (apply Pick.take; (· (repeat (first | exact Out.here | apply Out.there)))) | apply Pick.drop))) h)
  rintro j r ds m' H' ⟨i, E, rfl, rfl, rfl, rfl, rfl, hi, hE⟩
  by_cases hlt : i < cp
  · refine WC.rowSome (a := c) (by (repeat (first | exact List.Mem.head _ | apply List.Mem.tail))) (by omega) ?_
    rintro c0 rfl
    (try (refine st ?_; intros))
    refine WQ.next (cp - (i + 1)) ⟨i + 1, E.set i [.int .i64 (-1), str [115, 112, 111, 105, 108, 116], str []], rfl, rfl, rfl, rfl, rfl, ?_, ?_⟩ (by omega) (by (repeat (first | exact Env.Sub.nil | refine Env.Sub.cons rfl ?_))) (fun w h => Pick.sat (by iterate 60 (try (first | exact Pick.all | (apply Pick.take; (· (repeat (first | exact Out.here | apply Out.there)))) | apply Pick.drop))) h)
    · omega
    · rw [List.length_set]; exact hE
  · obtain rfl : i = cp := by omega
    (try (refine st ?_; intros))
    exact q_finNorm0 (H0 := H) ⟨rfl, rfl, rfl⟩ (hd := (fun w h => Pick.sat (by iterate 60 (try (first | exact Pick.all | (apply Pick.take; (· (repeat (first | exact Out.here | apply Out.there)))) | apply Pick.drop))) h))
end Go.Proofs.Ytelgegefmjlimaa

/-
  The walks of the law's applies and inverts. No condition.
-/
namespace Go.Eng
open Go
theorem fit_plain {l : List Stp} {f t : Int} (hs : sizesOf l = some (f, t)) : Fit (plainOf l) := by
  obtain ⟨hok, _, _, h1, h2, _, h4, _, h6⟩ := sized hs
  obtain ⟨n1, n2⟩ := nf_sizes l hok
  rw [plain_list]
  exact fit_list (by omega) (by omega)
theorem applyV_plain {l : List Stp} {f t : Int} (hs : sizesOf l = some (f, t)) (s : List UInt8) : applyV s (plainOf l) = applyV s l := by
  unfold applyV
  rw [plain_sizes hs, hs, plain_apply l (sized hs).1]
theorem applyV_some (s : List UInt8) (l : List Stp) : ∃ (o : List UInt8) (e : Int), applyV s l = .tuple #[str o, .int .i64 e] := by
  rcases apply_cases s l with ⟨e, _, h⟩ | ⟨t, _, _, _, h⟩
  · exact ⟨[], e, h⟩
  · exact ⟨t, 0, h⟩
theorem plain_said (l : List Stp) : listOf (sdA ((putsOf (gapsOf l)).zip ((dropsOf (gapsOf l)).zip (bytesOf (gapsOf l)))) ((putsOf (gapsOf l)).getD (dropsOf (gapsOf l)).length [])) = plainOf l := by
  rw [plain_list, ← sd_atoms]; rfl
theorem said_small {l : List Stp} {f t : Int} (hs : sizesOf l = some (f, t)) : (sdA ((putsOf (gapsOf l)).zip ((dropsOf (gapsOf l)).zip (bytesOf (gapsOf l)))) ((putsOf (gapsOf l)).getD (dropsOf (gapsOf l)).length [])).length ≤ 200000 := by
  have h : (sdA (posOf (gapsOf l)) (lastOf (gapsOf l))).length ≤ 200000 := by rw [sd_atoms]; have := (nf_len hs).1; omega
  exact h
theorem inv_fit {l : List Stp} {f t : Int} (hs : sizesOf l = some (f, t)) : Fit (listOf ((atomsOf l).map Atm.inv)) ∧ sizesOf (listOf ((atomsOf l).map Atm.inv)) = some (t, f) := by
  obtain ⟨hok, _, _, h1, h2, _, h4, _, h6⟩ := sized hs
  obtain ⟨n1, n2⟩ := inv_from (atomsOf l)
  refine ⟨fit_list (by omega) (by omega), ?_⟩
  rw [sizes_list _ (by omega) (by omega), n1, n2, h1, h2]
theorem inv_back {l : List Stp} {s t : List UInt8} {tt : Int} (hs : sizesOf l = some ((s.length : Int), tt)) (ha : applyA s (atomsOf l) = some t) : applyV t (listOf ((atomsOf l).map Atm.inv)) = okV s := by
  obtain ⟨hok, _, _, h1, h2, _, h4, _, h6⟩ := sized hs
  obtain ⟨n1, n2⟩ := inv_from (atomsOf l)
  have hl := apply_len _ _ _ ha
  exact apply_listV (by omega) (inv_apply _ _ _ ha (by omega)) (by omega) (by omega)
end Go.Eng
namespace Go.Proofs.Ytelgegefmjlimaa
open Go Go.Eng
set_option maxRecDepth 100000
set_option maxHeartbeats 4000000
set_option linter.all false
attribute [local irreducible] WL WC WQ QFun QLoop Does Q1 QRound QAssign Go.Addr.add
theorem sq_E26_1 {G : Prop} (h : G := by (repeat (first | (refine sp ?_; (repeat intro zzc)) | (refine iF 12 rfl ?_; refine w_callG Try.func12 ?_ (hs := live_any _ _ _)))); exact WQ.q1 rfl) : G := h
theorem st_E26_1 {G G' : Prop} (next : G') (h : Bx G' → G := by intro zzn; (first | ((refine st ?_; (repeat intro zzc)); (try ((first | (refine iF 12 rfl ?_; refine w_callG Try.func12 ?_ (hs := live_any _ _ _)) | ((refine iDraw ?_; (first | refine WC.drawAll rfl (by decide +kernel) ?_ | refine WC.draw 1 rfl (by decide +kernel) ?_ | refine WC.draw 2 rfl (by decide +kernel) ?_ | refine WC.draw 3 rfl (by decide +kernel) ?_ | refine WC.draw 4 rfl (by decide +kernel) ?_ | refine WC.draw 5 rfl (by decide +kernel) ?_ | refine WC.draw 6 rfl (by decide +kernel) ?_ | refine WC.draw 7 rfl (by decide +kernel) ?_ | refine WC.draw 8 rfl (by decide +kernel) ?_ | refine WC.draw 9 rfl (by decide +kernel) ?_ | refine WC.draw 10 rfl (by decide +kernel) ?_ | refine WC.draw 11 rfl (by decide +kernel) ?_ | refine WC.draw 12 rfl (by decide +kernel) ?_ | refine WC.draw 13 rfl (by decide +kernel) ?_ | refine WC.draw 14 rfl (by decide +kernel) ?_ | refine WC.draw 15 rfl (by decide +kernel) ?_ | refine WC.draw 16 rfl (by decide +kernel) ?_ | refine WC.draw 17 rfl (by decide +kernel) ?_ | refine WC.draw 18 rfl (by decide +kernel) ?_ | refine WC.draw 19 rfl (by decide +kernel) ?_ | refine WC.draw 20 rfl (by decide +kernel) ?_ | refine WC.draw 21 rfl (by decide +kernel) ?_ | refine WC.draw 22 rfl (by decide +kernel) ?_ | refine WC.draw 23 rfl (by decide +kernel) ?_ | refine WC.draw 24 rfl (by decide +kernel) ?_)); (repeat (refine WD.cons rfl (fun c h => by cases h) sq_E26_1 ?_)); refine WD.nil ?_)); (try (refine st ?_; (repeat intro zzc)))))) | ((first | (refine iF 12 rfl ?_; refine w_callG Try.func12 ?_ (hs := live_any _ _ _)) | ((refine iDraw ?_; (first | refine WC.drawAll rfl (by decide +kernel) ?_ | refine WC.draw 1 rfl (by decide +kernel) ?_ | refine WC.draw 2 rfl (by decide +kernel) ?_ | refine WC.draw 3 rfl (by decide +kernel) ?_ | refine WC.draw 4 rfl (by decide +kernel) ?_ | refine WC.draw 5 rfl (by decide +kernel) ?_ | refine WC.draw 6 rfl (by decide +kernel) ?_ | refine WC.draw 7 rfl (by decide +kernel) ?_ | refine WC.draw 8 rfl (by decide +kernel) ?_ | refine WC.draw 9 rfl (by decide +kernel) ?_ | refine WC.draw 10 rfl (by decide +kernel) ?_ | refine WC.draw 11 rfl (by decide +kernel) ?_ | refine WC.draw 12 rfl (by decide +kernel) ?_ | refine WC.draw 13 rfl (by decide +kernel) ?_ | refine WC.draw 14 rfl (by decide +kernel) ?_ | refine WC.draw 15 rfl (by decide +kernel) ?_ | refine WC.draw 16 rfl (by decide +kernel) ?_ | refine WC.draw 17 rfl (by decide +kernel) ?_ | refine WC.draw 18 rfl (by decide +kernel) ?_ | refine WC.draw 19 rfl (by decide +kernel) ?_ | refine WC.draw 20 rfl (by decide +kernel) ?_ | refine WC.draw 21 rfl (by decide +kernel) ?_ | refine WC.draw 22 rfl (by decide +kernel) ?_ | refine WC.draw 23 rfl (by decide +kernel) ?_ | refine WC.draw 24 rfl (by decide +kernel) ?_)); (repeat (refine WD.cons rfl (fun c h => by cases h) sq_E26_1 ?_)); refine WD.nil ?_)); (try (refine st ?_; (repeat intro zzc))))); (repeat ((first | (refine iF 12 rfl ?_; refine w_callG Try.func12 ?_ (hs := live_any _ _ _)) | ((refine iDraw ?_; (first | refine WC.drawAll rfl (by decide +kernel) ?_ | refine WC.draw 1 rfl (by decide +kernel) ?_ | refine WC.draw 2 rfl (by decide +kernel) ?_ | refine WC.draw 3 rfl (by decide +kernel) ?_ | refine WC.draw 4 rfl (by decide +kernel) ?_ | refine WC.draw 5 rfl (by decide +kernel) ?_ | refine WC.draw 6 rfl (by decide +kernel) ?_ | refine WC.draw 7 rfl (by decide +kernel) ?_ | refine WC.draw 8 rfl (by decide +kernel) ?_ | refine WC.draw 9 rfl (by decide +kernel) ?_ | refine WC.draw 10 rfl (by decide +kernel) ?_ | refine WC.draw 11 rfl (by decide +kernel) ?_ | refine WC.draw 12 rfl (by decide +kernel) ?_ | refine WC.draw 13 rfl (by decide +kernel) ?_ | refine WC.draw 14 rfl (by decide +kernel) ?_ | refine WC.draw 15 rfl (by decide +kernel) ?_ | refine WC.draw 16 rfl (by decide +kernel) ?_ | refine WC.draw 17 rfl (by decide +kernel) ?_ | refine WC.draw 18 rfl (by decide +kernel) ?_ | refine WC.draw 19 rfl (by decide +kernel) ?_ | refine WC.draw 20 rfl (by decide +kernel) ?_ | refine WC.draw 21 rfl (by decide +kernel) ?_ | refine WC.draw 22 rfl (by decide +kernel) ?_ | refine WC.draw 23 rfl (by decide +kernel) ?_ | refine WC.draw 24 rfl (by decide +kernel) ?_)); (repeat (refine WD.cons rfl (fun c h => by cases h) sq_E26_1 ?_)); refine WD.nil ?_)); (try (refine st ?_; (repeat intro zzc))))); (repeat revert zzc); exact zzn.out) : G := h ⟨next⟩
attribute [local irreducible] sizesOf applyV listOf plainOf putsOf dropsOf bytesOf gapsOf
theorem applies_any {pa : Option Addr} {ca : Nat} {a : List Stp} {s : List UInt8} (hsl : s.length ≤ 1048576) (hfa : Fit a) (w0 : World) (m : Mem) (H : SHeap) (hra : ∀ Hp, RowR w0 m Hp 3 pa (a.map Stp.cs)) :
    Does Try.prog 24 #[str s, .slice pa a.length ca] w0 m H (Gives (.bool true) m H) := by
  refine Does.of_body (args := [str s, .slice pa a.length ca]) Try.func24 rfl Try.ntmps24 rfl ?_
  have hla := hfa.len
  (try (refine st_E26_1 ?_; intros))
  refine w_callF Try.func13 ?_ (hs := ref_any hfa _ _ _ hra)
  rintro v m H2 ⟨rfl, (⟨hsm, c1, p1, rfl, rfl⟩ | ⟨hsm, rfl, rfl⟩)⟩
  · by_cases hsl2 : s.length ≤ 40000
    · (try (refine st_E26_1 ?_; intros))
      refine w_callF Try.func14 ?_ (hs := refSizes_any hfa _ _ _ (RowR.row (a := c1) (by (repeat (first | exact List.Mem.head _ | apply List.Mem.tail)))))
      rintro v m H1 ⟨rfl, rfl, rfl⟩
      cases hsa : sizesOf a with
      | none =>
        have e : applyV s a = .tuple #[str [], .int .i64 2] := by unfold applyV; rw [hsa]
        rw [show szR none = .tuple #[.int .i64 0, .int .i64 0, .bool false] from rfl]
        (try (refine st_E26_1 ?_; intros))
        refine w_callF Try.func22 ?_ (hs := apply_any hfa (by omega) _ _ _ (hra _))
        rintro v m H1 ⟨rfl, rfl, rfl⟩
        rw [e]
        (try (refine st_E26_1 ?_; intros))
        exact q_fin0 (H0 := H) (Gives.mk rfl) (hd := (fun w h => Pick.sat (by iterate 60 (try (first | exact Pick.all | (apply Pick.take; (· (repeat (first | exact Out.here | apply Out.there)))) | apply Pick.drop))) h))
      | some ft =>
        obtain ⟨fa, ta⟩ := ft
        rw [show szR (some (fa, ta)) = .tuple #[.int .i64 fa, .int .i64 ta, .bool true] from rfl]
        (try (refine st_E26_1 ?_; intros))
        refine w_callF Try.func22 ?_ (hs := apply_any hfa (by omega) _ _ _ (hra _))
        rintro v m H1 ⟨rfl, rfl, rfl⟩
        obtain ⟨o, e, he⟩ := applyV_some s a
        have ho : o = o := rfl
        have hee : e = e := rfl
        rw [he]
        (try (refine st_E26_1 ?_; intros))
        refine w_callF Try.func58 ?_ (hs := rApply_any hfa hsa (by omega) _ _ _ (RowR.row (a := c1) (by (repeat (first | exact List.Mem.head _ | apply List.Mem.tail)))))
        rintro v m H1 ⟨rfl, rfl, rfl⟩
        rw [he]
        (try (refine st_E26_1 ?_; intros))
        refine w_callF Try.func43 ?_ (hs := say_any hfa hsa _ _ _ (RowR.row (a := c1) (by (repeat (first | exact List.Mem.head _ | apply List.Mem.tail)))))
        rintro _ m _ ⟨rfl, q2, q4, q6, rfl, rfl⟩
        (try (refine st_E26_1 ?_; intros))
        obtain ⟨la1, la2⟩ := said_len (gapsOf a)
        refine w_callF Try.func60 ?_ (hs := rPlain_any la1 la2 (said_small hsa) _ _ _)
        rintro v m H1 ⟨rfl, c2, p2, rfl, rfl⟩
        rw [plain_said]
        have hfp := fit_plain hsa
        have hlp := hfp.len
        (try (refine st_E26_1 ?_; intros))
        refine w_callF Try.func59 ?_ (hs := back_any (l := plainOf a) (by omega) _ _ _)
        rintro v m H1 ⟨rfl, c3, p3, rfl, rfl⟩
        (try (refine st_E26_1 ?_; intros))
        refine w_callF Try.func22 ?_ (hs := apply_any hfp (by omega) _ _ _ (RowR.row (a := c3) (by (repeat (first | exact List.Mem.head _ | apply List.Mem.tail)))))
        rintro v m H1 ⟨rfl, rfl, rfl⟩
        rw [applyV_plain hsa, he]
        (try (refine st_E26_1 ?_; intros))
        exact q_fin0 (H0 := H) (Gives.mk (show Value.bool (dcd (e = e)) = Value.bool true from congrArg Value.bool (dcd_true rfl))) (hd := (fun w h => Pick.sat (by iterate 60 (try (first | exact Pick.all | (apply Pick.take; (· (repeat (first | exact Out.here | apply Out.there)))) | apply Pick.drop))) h))
    · (try (refine st_E26_1 ?_; intros))
      exact q_fin0 (H0 := H) (Gives.mk rfl) (hd := (fun w h => Pick.sat (by iterate 60 (try (first | exact Pick.all | (apply Pick.take; (· (repeat (first | exact Out.here | apply Out.there)))) | apply Pick.drop))) h))
  · (try (refine st_E26_1 ?_; intros))
    exact q_fin0 (H0 := H2) (Gives.mk rfl) (hd := (fun w h => Pick.sat (by iterate 60 (try (first | exact Pick.all | (apply Pick.take; (· (repeat (first | exact Out.here | apply Out.there)))) | apply Pick.drop))) h))
theorem inverts_any {pa : Option Addr} {ca : Nat} {a : List Stp} {s : List UInt8} (hsl : s.length ≤ 1048576) (hfa : Fit a) (w0 : World) (m : Mem) (H : SHeap) (hra : ∀ Hp, RowR w0 m Hp 3 pa (a.map Stp.cs)) :
    Does Try.prog 25 #[str s, .slice pa a.length ca] w0 m H (Gives (.bool true) m H) := by
  refine Does.of_body (args := [str s, .slice pa a.length ca]) Try.func25 rfl Try.ntmps25 rfl ?_
  have hla := hfa.len
  (try (refine st_E26_1 ?_; intros))
  refine w_callF Try.func13 ?_ (hs := ref_any hfa _ _ _ hra)
  rintro v m H2 ⟨rfl, (⟨hsm, c1, p1, rfl, rfl⟩ | ⟨hsm, rfl, rfl⟩)⟩
  · by_cases hsl2 : s.length ≤ 40000
    · (try (refine st_E26_1 ?_; intros))
      refine w_callF Try.func14 ?_ (hs := refSizes_any hfa _ _ _ (RowR.row (a := c1) (by (repeat (first | exact List.Mem.head _ | apply List.Mem.tail)))))
      rintro v m H1 ⟨rfl, rfl, rfl⟩
      cases hsa : sizesOf a with
      | none =>
        have e : invP a = .inl 2 := by unfold invP; rw [hsa]
        rw [show szR none = .tuple #[.int .i64 0, .int .i64 0, .bool false] from rfl]
        (try (refine st_E26_1 ?_; intros))
        refine w_callF Try.func61 ?_ (hs := eInvert_any hfa _ _ _ (hra _))
        rintro v m H1 ⟨rfl, hv⟩
        rw [e] at hv
        obtain ⟨rfl, rfl⟩ := hv
        (try (refine st_E26_1 ?_; intros))
        exact q_fin0 (H0 := H) (Gives.mk rfl) (hd := (fun w h => Pick.sat (by iterate 60 (try (first | exact Pick.all | (apply Pick.take; (· (repeat (first | exact Out.here | apply Out.there)))) | apply Pick.drop))) h))
      | some ft =>
        obtain ⟨fa, ta⟩ := ft
        have hok := (sized hsa).1
        obtain ⟨hfr, hsr⟩ := inv_fit hsa
        have e1 : invP a = .inr (listOf ((atomsOf a).map Atm.inv)) := by unfold invP; rw [hsa]
        have e2 : invP (listOf ((atomsOf a).map Atm.inv)) = .inr (plainOf a) := by unfold invP; rw [hsr]; simp only; rw [inv_twice a hok]
        have e3 := inv_nf a hok
        have hback := fun t tt (h1 : sizesOf a = some ((s.length : Int), tt)) (h2 : applyA s (atomsOf a) = some t) => inv_back h1 h2
        have hlr := hfr.len
        have hlp := (fit_plain hsa).len
        generalize listOf ((atomsOf a).map Atm.inv) = R at *
        rw [show szR (some (fa, ta)) = .tuple #[.int .i64 fa, .int .i64 ta, .bool true] from rfl]
        (try (refine st_E26_1 ?_; intros))
        refine w_callF Try.func61 ?_ (hs := eInvert_any hfa _ _ _ (hra _))
        rintro v m H1 ⟨rfl, hv⟩
        rw [e1] at hv
        obtain ⟨c2, p2, rfl, rfl⟩ := hv
        (try (refine st_E26_1 ?_; intros))
        refine w_callF Try.func35 ?_ (hs := rInvert_any hfa hsa _ _ _ (RowR.row (a := c1) (by (repeat (first | exact List.Mem.head _ | apply List.Mem.tail)))))
        rintro v m H1 ⟨rfl, c3, p3, rfl, rfl⟩
        rw [← e3]
        (try (refine st_E26_1 ?_; intros))
        refine w_callF Try.func19 ?_ (hs := same_any (l := R) (by omega) _ _ _ (RowR.row (a := c2) (by (repeat (first | exact List.Mem.head _ | apply List.Mem.tail)))) (RowR.row (a := c3) (by (repeat (first | exact List.Mem.head _ | apply List.Mem.tail)))))
        rintro v m H1 ⟨rfl, rfl, rfl⟩
        (try (refine st_E26_1 ?_; intros))
        refine w_callF Try.func61 ?_ (hs := eInvert_any hfr _ _ _ (RowR.row (a := c2) (by (repeat (first | exact List.Mem.head _ | apply List.Mem.tail)))))
        rintro v m H1 ⟨rfl, hv⟩
        rw [e2] at hv
        obtain ⟨c4, p4, rfl, rfl⟩ := hv
        (try (refine st_E26_1 ?_; intros))
        refine w_callF Try.func43 ?_ (hs := say_any hfa hsa _ _ _ (RowR.row (a := c1) (by (repeat (first | exact List.Mem.head _ | apply List.Mem.tail)))))
        rintro _ m _ ⟨rfl, q2, q4, q6, rfl, rfl⟩
        (try (refine st_E26_1 ?_; intros))
        obtain ⟨la1, la2⟩ := said_len (gapsOf a)
        refine w_callF Try.func60 ?_ (hs := rPlain_any la1 la2 (said_small hsa) _ _ _)
        rintro v m H1 ⟨rfl, c5, p5, rfl, rfl⟩
        rw [plain_said]
        (try (refine st_E26_1 ?_; intros))
        refine w_callF Try.func19 ?_ (hs := same_any (l := plainOf a) (by omega) _ _ _ (RowR.row (a := c4) (by (repeat (first | exact List.Mem.head _ | apply List.Mem.tail)))) (RowR.row (a := c5) (by (repeat (first | exact List.Mem.head _ | apply List.Mem.tail)))))
        rintro v m H1 ⟨rfl, rfl, rfl⟩
        (try (refine st_E26_1 ?_; intros))
        refine w_callF Try.func22 ?_ (hs := apply_any hfa (by omega) _ _ _ (hra _))
        rintro v m H1 ⟨rfl, rfl, rfl⟩
        rcases apply_cases s a with ⟨ea, hea, eqa⟩ | ⟨t, ta', hsa', hta, eqa⟩
        · rw [eqa]
          (try (refine st_E26_1 ?_; intros))
          exact q_fin0 (H0 := H) (Gives.mk (show Value.bool (dcd (([] : List UInt8) = [])) = Value.bool true from congrArg Value.bool (dcd_true rfl))) (hd := (fun w h => Pick.sat (by iterate 60 (try (first | exact Pick.all | (apply Pick.take; (· (repeat (first | exact Out.here | apply Out.there)))) | apply Pick.drop))) h))
        · have hb := hback t ta' hsa' hta
          have hlt := apply_len _ _ _ hta
          have hlt2 : t.length ≤ 1000000000 := by obtain ⟨_, h1, _⟩ := sized hsa'; have := toA_le (atomsOf a); omega
          rw [eqa, okV]
          (try (refine st_E26_1 ?_; intros))
          refine w_callF Try.func22 ?_ (hs := apply_any hfr (by omega) _ _ _ (RowR.row (a := c2) (by (repeat (first | exact List.Mem.head _ | apply List.Mem.tail)))))
          rintro v m H1 ⟨rfl, rfl, rfl⟩
          rw [hb, okV]
          have hss : s = s := rfl
          (try (refine st_E26_1 ?_; intros))
          exact q_fin0 (H0 := H) (Gives.mk (show Value.bool (dcd ((0 : Int) = 0)) = Value.bool true from congrArg Value.bool (dcd_true rfl))) (hd := (fun w h => Pick.sat (by iterate 60 (try (first | exact Pick.all | (apply Pick.take; (· (repeat (first | exact Out.here | apply Out.there)))) | apply Pick.drop))) h))
    · (try (refine st_E26_1 ?_; intros))
      exact q_fin0 (H0 := H) (Gives.mk rfl) (hd := (fun w h => Pick.sat (by iterate 60 (try (first | exact Pick.all | (apply Pick.take; (· (repeat (first | exact Out.here | apply Out.there)))) | apply Pick.drop))) h))
  · (try (refine st_E26_1 ?_; intros))
    exact q_fin0 (H0 := H2) (Gives.mk rfl) (hd := (fun w h => Pick.sat (by iterate 60 (try (first | exact Pick.all | (apply Pick.take; (· (repeat (first | exact Out.here | apply Out.there)))) | apply Pick.drop))) h))
end Go.Proofs.Ytelgegefmjlimaa

/-
  The walks of a sheet's methods, on a sheet of no change, of one, and of one that is undone. No condition.
-/
namespace Go.Eng
open Go Go.RowKit
section
variable {P : Program} {ro : Option Nat} {n : Nat} {w0 : World} {Q : Exit → Act → World → Prop} {r : Env} {ds : List Nat} {m : Mem} {H : SHeap}
theorem WC.rNone {c : Code} {sz : Nat} {es : List (List Value)} (hr : RowR w0 m H sz none es) (h : es = [] → WC P ro n w0 c Q r ds m H) : WC P ro n w0 c Q r ds m H := by
  intro tmps w ho hs
  exact h (hr w hs).2 tmps w ho hs
end
/-- a change that a sheet keeps -/
def sentV (hand : Int) (a : Option Addr) (k cap : Nat) (left : Bool) : List Value := [.int .i64 hand, .slice a k cap, .bool left]
theorem steps_okc (l : List Stp) : ∀ q ∈ l.map Stp.cs, q.all okCell = true := by
  intro q hq
  obtain ⟨x, _, rfl⟩ := List.mem_map.1 hq
  rfl
theorem steps_three (l : List Stp) : ∀ q ∈ l.map Stp.cs, q.length = 3 := by
  intro q hq
  obtain ⟨x, _, rfl⟩ := List.mem_map.1 hq
  rfl
end Go.Eng
namespace Go.Proofs.Ytelgegefmjlimaa
open Go Go.Eng
set_option maxRecDepth 100000
set_option maxHeartbeats 4000000
set_option linter.all false
attribute [local irreducible] WL WC WQ QFun QLoop Does Q1 QRound QAssign Go.Addr.add
attribute [local irreducible] sizesOf sizesF applyV listOf plainOf applyA
theorem new_any {s : List UInt8} (hs : s.length ≤ 65536) (w0 : World) (m : Mem) (H : SHeap) :
    Does Try.prog 30 #[str s] w0 m H (fun v m' H' => m' = m ∧ ∃ b, v = .tuple #[.pointer (some ⟨b, 0, none⟩), .int .i64 0] ∧ H' = .blk b (.cells [str s, str s, .slice none 0 0].toArray 131 (0, 0)) :: H) := by
  refine Does.of_body (args := [str s]) Try.func30 rfl Try.ntmps30 rfl ?_
  (refine st ?_; intros; rename_i b)
  exact q_fin0 (H0 := .blk b (.cells [str s, str s, .slice none 0 0].toArray 131 (0, 0)) :: H) ⟨rfl, b, rfl, rfl⟩ (hd := (fun w h => Pick.sat (by iterate 60 (try (first | exact Pick.all | (apply Pick.take; (· (repeat (first | exact Out.here | apply Out.there)))) | apply Pick.drop))) h))
theorem clone_any {a : Option Addr} {cap : Nat} {l : List Stp} (hl : l.length ≤ 3000000) (w0 : World) (m : Mem) (H : SHeap) (hr : RowR w0 m H 3 a (l.map Stp.cs)) :
    Does Try.prog 77 #[.slice a l.length cap] w0 m H (fun v m' H' => m' = m ∧ ∃ c cp, v = .slice c l.length cp ∧ H' = .row c cp 59 3 (l.map Stp.cs) :: H) := by
  refine Does.of_body (args := [.slice a l.length cap]) Try.func77 rfl Try.ntmps77 rfl ?_
  have hln : (l.map Stp.cs).length = l.length := by simp
  cases a with
  | none =>
    refine WC.rNone hr fun he => ?_
    have hl0 : l = [] := by cases l with
      | nil => rfl
      | cons x l => simp at he
    subst hl0
    refine WC.newRow (T := 59) (sz := 3) ?_
    (try (refine st ?_; intros))
    exact q_fin0 (H0 := .row none 0 59 3 [] :: H) ⟨rfl, none, 0, rfl, rfl⟩ (hd := (fun w h => Pick.sat (by iterate 60 (try (first | exact Pick.all | (apply Pick.take; (· (repeat (first | exact Out.here | apply Out.there)))) | apply Pick.drop))) h))
  | some a0 =>
    (try (refine st ?_; intros))
    refine WL.buildSlice0 (sz := 3) rfl rfl rfl ?_
    intro q
    (try (refine st ?_; intros))
    refine w_appendR (hr.more) (steps_okc l) (steps_three l) ?_
    intro c cp
    have e : ([] : List (List Value)).length + (l.map Stp.cs).length = l.length := by simp
    (try (refine st ?_; intros))
    rw [e, List.nil_append]
    exact q_fin0 (H0 := .row c cp 59 3 (l.map Stp.cs) :: H) ⟨rfl, c, cp, rfl, rfl⟩ (hd := (fun w h => Pick.sat (by iterate 60 (try (first | exact Pick.all | (apply Pick.take; (· (repeat (first | exact Out.here | apply Out.there)))) | apply Pick.drop))) h))
theorem revision_any {b : Nat} {s1 s2 : List UInt8} {ra : Option Addr} {k cra : Nat} (w0 : World) (m : Mem) (H : SHeap) (hm : Item.blk b (.cells [str s1, str s2, .slice ra k cra].toArray 131 (0, 0)) ∈ H) :
    Does Try.prog 34 #[.pointer (some ⟨b, 0, none⟩)] w0 m H (Gives (.int .i64 (k : Int)) m H) := by
  refine Does.gives_mem hm fun H => ?_
  refine Does.of_body (args := [.pointer (some ⟨b, 0, none⟩)]) Try.func34 rfl Try.ntmps34 rfl ?_
  (try (refine st ?_; intros))
  exact q_fin0 (H0 := .blk b (.cells [str s1, str s2, .slice ra k cra].toArray 131 (0, 0)) :: H) (Gives.mk rfl) (hd := (fun w h => Pick.sat (by iterate 60 (try (first | exact Pick.all | (apply Pick.take; (· (repeat (first | exact Out.here | apply Out.there)))) | apply Pick.drop))) h))
theorem at_any {b : Nat} {s1 s2 : List UInt8} {ra : Option Addr} {k cra : Nat} {rev : Int} (hk : rev = (k : Int)) (w0 : World) (m : Mem) (H : SHeap) (hm : Item.blk b (.cells [str s1, str s2, .slice ra k cra].toArray 131 (0, 0)) ∈ H) :
    Does Try.prog 32 #[.pointer (some ⟨b, 0, none⟩), .int .i64 rev] w0 m H (Gives (.tuple #[str s1, .int .i64 0]) m H) := by
  refine Does.gives_mem hm fun H => ?_
  subst hk
  refine Does.of_body (args := [.pointer (some ⟨b, 0, none⟩), .int .i64 (k : Int)]) Try.func32 rfl Try.ntmps32 rfl ?_
  (try (refine st ?_; intros))
  exact q_fin0 (H0 := .blk b (.cells [str s1, str s2, .slice ra k cra].toArray 131 (0, 0)) :: H) (Gives.mk rfl) (hd := (fun w h => Pick.sat (by iterate 60 (try (first | exact Pick.all | (apply Pick.take; (· (repeat (first | exact Out.here | apply Out.there)))) | apply Pick.drop))) h))
theorem carried_any {b : Nat} {s1 s2 : List UInt8} {ra a : Option Addr} {k cra la cap : Nat} {rev : Int} {fv : Value} (hk : rev = (k : Int)) (hc : k ≤ cra) (w0 : World) (m : Mem) (H : SHeap) (hm : Item.blk b (.cells [str s1, str s2, .slice ra k cra].toArray 131 (0, 0)) ∈ H) :
    Does Try.prog 64 #[.pointer (some ⟨b, 0, none⟩), .slice a la cap, .int .i64 rev, fv] w0 m H (Gives (.tuple #[.slice a la cap, .int .i64 0]) m H) := by
  refine Does.gives_mem hm fun H => ?_
  subst hk
  refine Does.of_body (args := [.pointer (some ⟨b, 0, none⟩), .slice a la cap, .int .i64 (k : Int), fv]) Try.func64 rfl Try.ntmps64 rfl ?_
  have hkk : k - k = 0 := by omega
  (try (refine st ?_; intros))
  refine WC.loopH [(20, .int .i64 0), (19, .int .i64 ((k - k : Nat) : Int)), (1, .slice a la cap)] ?_ ?_ (fun j r ds m' H' => ∃ (u : Nat), j = 2 * u ∧ r = [(20, .int .i64 0), (19, .int .i64 ((k - k : Nat) : Int)), (1, .slice a la cap)] ∧ ds = [] ∧ m = m' ∧ H' = .blk b (.cells [str s1, str s2, .slice ra k cra].toArray 131 (0, 0)) :: H) (2 * (0)) ⟨0, rfl, rfl, rfl, rfl, rfl⟩ ?_
  · (repeat (first | exact Env.Sub.nil | refine Env.Sub.cons rfl ?_))
  · exact (fun w h => Pick.sat (by iterate 60 (try (first | exact Pick.all | (apply Pick.take; (· (repeat (first | exact Out.here | apply Out.there)))) | apply Pick.drop))) h)
  rintro j r ds m' H' ⟨u, rfl, rfl, rfl, rfl, rfl⟩
  (try (refine st ?_; intros))
  exact q_fin0 (H0 := .blk b (.cells [str s1, str s2, .slice ra k cra].toArray 131 (0, 0)) :: H) (Gives.mk rfl) (hd := (fun w h => Pick.sat (by iterate 60 (try (first | exact Pick.all | (apply Pick.take; (· (repeat (first | exact Out.here | apply Out.there)))) | apply Pick.drop))) h))
theorem make_any {b : Nat} {s1 s2 t : List UInt8} {ra : Option Addr} {cra : Nat} {es : List (List Value)} (hel : es.length ≤ 1000) {hand : Int} {a : Option Addr} {cap : Nat} {l : List Stp} {left : Bool} (hf : Fit l) (hs1 : s1.length ≤ 1000000) (ha : applyV s1 l = okV t) (w0 : World) (m : Mem) (H : SHeap) (hr : RowR w0 m H 3 a (l.map Stp.cs)) :
    Does Try.prog 66 #[.pointer (some ⟨b, 0, none⟩), .int .i64 hand, .slice a l.length cap, .bool left] w0 m (.blk b (.cells [str s1, str s2, .slice ra es.length cra].toArray 131 (0, 0)) :: .row ra cra 136 3 es :: H)
      (fun v m' H' => m' = m ∧ ∃ c cp ra' cra', v = .slice c l.length cp ∧ H' = .row c cp 59 3 (l.map Stp.cs) :: .blk b (.cells [str t, str s2, .slice ra' (es.length + 1) cra'].toArray 131 (0, 0)) :: .row ra' cra' 136 3 (es ++ [sentV hand a l.length cap left]) :: H) := by
  refine Does.of_body (args := [.pointer (some ⟨b, 0, none⟩), .int .i64 hand, .slice a l.length cap, .bool left]) Try.func66 rfl Try.ntmps66 rfl ?_
  have hlen := hf.len
  (try (refine st ?_; intros))
  refine w_callF Try.func22 ?_ (hs := apply_any hf (by omega) _ _ _ hr.more.more)
  rintro v m H1 ⟨rfl, rfl, rfl⟩
  rw [ha, okV]
  (refine st ?_; intros; rename_i q ra2 cra2)
  refine w_callF Try.func77 ?_ (hs := clone_any (by omega) _ _ _ hr.more.more.more)
  rintro v m H1 ⟨rfl, c3, cp3, rfl, rfl⟩
  (try (refine st ?_; intros))
  exact q_fin0 (H0 := .row c3 cp3 59 3 (l.map Stp.cs) :: .blk b (.cells [str t, str s2, .slice ra2 (es.length + 1) cra2].toArray 131 (0, 0)) :: .row ra2 cra2 136 3 (es ++ [sentV hand a l.length cap left]) :: H) ⟨rfl, c3, cp3, ra2, cra2, rfl, rfl⟩ (hd := (fun w h => Pick.sat (by iterate 60 (try (first | exact Pick.all | (apply Pick.take; (· (repeat (first | exact Out.here | apply Out.there)))) | apply Pick.drop))) h))
def SendP (s : List UInt8) (l : List Stp) (b : Nat) (hand : Int) (T1 T2 T3 : TypeId) (m : Mem) (H : SHeap) : Value → Mem → SHeap → Prop := fun v m' H' => m' = m ∧
  ((∃ e : Int, e ≠ 0 ∧ v = .tuple #[.slice none 0 0, .int .i64 e] ∧ H' = .blk b (.cells [str s, str s, .slice none 0 0].toArray T1 (0, 0)) :: H ∧ (sizesOf l = none → e = 2)) ∨
   (∃ t tt, sizesOf l = some ((s.length : Int), tt) ∧ applyA s (atomsOf l) = some t ∧ ∃ c cp c1 cp1 ra cra, v = .tuple #[.slice c (plainOf l).length cp, .int .i64 0] ∧
      H' = .row c cp T2 3 ((plainOf l).map Stp.cs) :: .blk b (.cells [str t, str s, .slice ra 1 cra].toArray T1 (0, 0)) :: .row ra cra T3 3 [sentV hand c1 (plainOf l).length cp1 true] :: .row c1 cp1 T2 3 ((plainOf l).map Stp.cs) :: H))
theorem sq_E27_1 {G : Prop} (h : G := by (repeat (first | (refine sp ?_; (repeat intro zzc)) | (refine iF 40 rfl ?_; refine w_callG Try.func40 ?_ (hs := sizes_any (by assumption) _ _ _ (by assumption))))); exact WQ.q1 rfl) : G := h
theorem st_E27_1 {G G' : Prop} (next : G') (h : Bx G' → G := by intro zzn; (first | ((refine st ?_; (repeat intro zzc)); (try ((first | (refine iF 40 rfl ?_; refine w_callG Try.func40 ?_ (hs := sizes_any (by assumption) _ _ _ (by assumption))) | ((refine iDraw ?_; (first | refine WC.drawAll rfl (by decide +kernel) ?_ | refine WC.draw 1 rfl (by decide +kernel) ?_ | refine WC.draw 2 rfl (by decide +kernel) ?_ | refine WC.draw 3 rfl (by decide +kernel) ?_ | refine WC.draw 4 rfl (by decide +kernel) ?_ | refine WC.draw 5 rfl (by decide +kernel) ?_ | refine WC.draw 6 rfl (by decide +kernel) ?_ | refine WC.draw 7 rfl (by decide +kernel) ?_ | refine WC.draw 8 rfl (by decide +kernel) ?_ | refine WC.draw 9 rfl (by decide +kernel) ?_ | refine WC.draw 10 rfl (by decide +kernel) ?_ | refine WC.draw 11 rfl (by decide +kernel) ?_ | refine WC.draw 12 rfl (by decide +kernel) ?_ | refine WC.draw 13 rfl (by decide +kernel) ?_ | refine WC.draw 14 rfl (by decide +kernel) ?_ | refine WC.draw 15 rfl (by decide +kernel) ?_ | refine WC.draw 16 rfl (by decide +kernel) ?_ | refine WC.draw 17 rfl (by decide +kernel) ?_ | refine WC.draw 18 rfl (by decide +kernel) ?_ | refine WC.draw 19 rfl (by decide +kernel) ?_ | refine WC.draw 20 rfl (by decide +kernel) ?_ | refine WC.draw 21 rfl (by decide +kernel) ?_ | refine WC.draw 22 rfl (by decide +kernel) ?_ | refine WC.draw 23 rfl (by decide +kernel) ?_ | refine WC.draw 24 rfl (by decide +kernel) ?_)); (repeat (refine WD.cons rfl (fun c h => by cases h) sq_E27_1 ?_)); refine WD.nil ?_)); (try (refine st ?_; (repeat intro zzc)))))) | ((first | (refine iF 40 rfl ?_; refine w_callG Try.func40 ?_ (hs := sizes_any (by assumption) _ _ _ (by assumption))) | ((refine iDraw ?_; (first | refine WC.drawAll rfl (by decide +kernel) ?_ | refine WC.draw 1 rfl (by decide +kernel) ?_ | refine WC.draw 2 rfl (by decide +kernel) ?_ | refine WC.draw 3 rfl (by decide +kernel) ?_ | refine WC.draw 4 rfl (by decide +kernel) ?_ | refine WC.draw 5 rfl (by decide +kernel) ?_ | refine WC.draw 6 rfl (by decide +kernel) ?_ | refine WC.draw 7 rfl (by decide +kernel) ?_ | refine WC.draw 8 rfl (by decide +kernel) ?_ | refine WC.draw 9 rfl (by decide +kernel) ?_ | refine WC.draw 10 rfl (by decide +kernel) ?_ | refine WC.draw 11 rfl (by decide +kernel) ?_ | refine WC.draw 12 rfl (by decide +kernel) ?_ | refine WC.draw 13 rfl (by decide +kernel) ?_ | refine WC.draw 14 rfl (by decide +kernel) ?_ | refine WC.draw 15 rfl (by decide +kernel) ?_ | refine WC.draw 16 rfl (by decide +kernel) ?_ | refine WC.draw 17 rfl (by decide +kernel) ?_ | refine WC.draw 18 rfl (by decide +kernel) ?_ | refine WC.draw 19 rfl (by decide +kernel) ?_ | refine WC.draw 20 rfl (by decide +kernel) ?_ | refine WC.draw 21 rfl (by decide +kernel) ?_ | refine WC.draw 22 rfl (by decide +kernel) ?_ | refine WC.draw 23 rfl (by decide +kernel) ?_ | refine WC.draw 24 rfl (by decide +kernel) ?_)); (repeat (refine WD.cons rfl (fun c h => by cases h) sq_E27_1 ?_)); refine WD.nil ?_)); (try (refine st ?_; (repeat intro zzc))))); (repeat ((first | (refine iF 40 rfl ?_; refine w_callG Try.func40 ?_ (hs := sizes_any (by assumption) _ _ _ (by assumption))) | ((refine iDraw ?_; (first | refine WC.drawAll rfl (by decide +kernel) ?_ | refine WC.draw 1 rfl (by decide +kernel) ?_ | refine WC.draw 2 rfl (by decide +kernel) ?_ | refine WC.draw 3 rfl (by decide +kernel) ?_ | refine WC.draw 4 rfl (by decide +kernel) ?_ | refine WC.draw 5 rfl (by decide +kernel) ?_ | refine WC.draw 6 rfl (by decide +kernel) ?_ | refine WC.draw 7 rfl (by decide +kernel) ?_ | refine WC.draw 8 rfl (by decide +kernel) ?_ | refine WC.draw 9 rfl (by decide +kernel) ?_ | refine WC.draw 10 rfl (by decide +kernel) ?_ | refine WC.draw 11 rfl (by decide +kernel) ?_ | refine WC.draw 12 rfl (by decide +kernel) ?_ | refine WC.draw 13 rfl (by decide +kernel) ?_ | refine WC.draw 14 rfl (by decide +kernel) ?_ | refine WC.draw 15 rfl (by decide +kernel) ?_ | refine WC.draw 16 rfl (by decide +kernel) ?_ | refine WC.draw 17 rfl (by decide +kernel) ?_ | refine WC.draw 18 rfl (by decide +kernel) ?_ | refine WC.draw 19 rfl (by decide +kernel) ?_ | refine WC.draw 20 rfl (by decide +kernel) ?_ | refine WC.draw 21 rfl (by decide +kernel) ?_ | refine WC.draw 22 rfl (by decide +kernel) ?_ | refine WC.draw 23 rfl (by decide +kernel) ?_ | refine WC.draw 24 rfl (by decide +kernel) ?_)); (repeat (refine WD.cons rfl (fun c h => by cases h) sq_E27_1 ?_)); refine WD.nil ?_)); (try (refine st ?_; (repeat intro zzc))))); (repeat revert zzc); exact zzn.out) : G := h ⟨next⟩
theorem send_any {b : Nat} {s : List UInt8} {hand : Int} {pa : Option Addr} {ca : Nat} {l : List Stp} (hh : 0 ≤ hand ∧ hand ≤ 9223372036854775807) (hf : Fit l) (hsl : s.length ≤ 1000000) (w0 : World) (m : Mem) (H : SHeap) (hr0 : RowR w0 m H 3 pa (l.map Stp.cs)) :
    Does Try.prog 31 #[.pointer (some ⟨b, 0, none⟩), .int .i64 hand, .int .i64 0, .slice pa l.length ca] w0 m (.blk b (.cells [str s, str s, .slice none 0 0].toArray 131 (0, 0)) :: H) (SendP s l b hand 131 59 136 m H) := by
  refine Does.of_body (args := [.pointer (some ⟨b, 0, none⟩), .int .i64 hand, .int .i64 0, .slice pa l.length ca]) Try.func31 rfl Try.ntmps31 rfl ?_
  (refine st_E27_1 ?_; intros; rename_i bh)
  refine w_callF Try.func40 ?_ (hs := sizes_any hf _ _ _ hr0.more.more)
  rintro v m H1 ⟨rfl, rfl, rfl⟩
  cases hs : sizesOf l with
  | none =>
    rw [show szP none = .tuple #[.int .i64 0, .int .i64 0, .int .i64 2] from rfl]
    (try (refine st_E27_1 ?_; intros))
    exact q_fin0 (H0 := .blk b (.cells [str s, str s, .slice none 0 0].toArray 131 (0, 0)) :: H) ⟨rfl, .inl ⟨2, by decide, rfl, rfl, fun _ => rfl⟩⟩ (hd := (fun w h => Pick.sat (by iterate 60 (try (first | exact Pick.all | (apply Pick.take; (· (repeat (first | exact Out.here | apply Out.there)))) | apply Pick.drop))) h))
  | some ft =>
    obtain ⟨f, t⟩ := ft
    rw [show szP (some (f, t)) = .tuple #[.int .i64 f, .int .i64 t, .int .i64 0] from rfl]
    obtain ⟨hok, hal, hpl, _⟩ := sized hs
    have hfp := fit_plain hs
    (try (refine st_E27_1 ?_; intros))
    refine w_callF Try.func32 ?_ (hs := at_any (b := b) (k := 0) rfl _ _ _ (by (repeat (first | exact List.Mem.head _ | apply List.Mem.tail))))
    rintro v m H1 ⟨rfl, rfl, rfl⟩
    (try (refine st_E27_1 ?_; intros))
    refine w_callF Try.func22 ?_ (hs := apply_any hf (by omega) _ _ _ hr0.more.more)
    rintro v m H1 ⟨rfl, rfl, rfl⟩
    rcases apply_cases s l with ⟨ea, hea, eqa⟩ | ⟨u, tt, hsz, hu, eqa⟩
    · rw [eqa]
      (try (refine st_E27_1 ?_; intros))
      exact q_fin0 (H0 := .blk b (.cells [str s, str s, .slice none 0 0].toArray 131 (0, 0)) :: H) ⟨rfl, .inl ⟨ea, hea, rfl, rfl, fun h => by rw [hs] at h; cases h⟩⟩ (hd := (fun w h => Pick.sat (by iterate 60 (try (first | exact Pick.all | (apply Pick.take; (· (repeat (first | exact Out.here | apply Out.there)))) | apply Pick.drop))) h))
    · rw [eqa, okV]
      (try (refine st_E27_1 ?_; intros))
      refine w_callF Try.func42 ?_ (hs := plain_any hok (by omega) _ _ _ hr0.more.more)
      rintro v m H1 ⟨rfl, c1, cp1, rfl, rfl⟩
      (try (refine st_E27_1 ?_; intros))
      refine w_callF Try.func64 ?_ (hs := carried_any (b := b) (k := 0) rfl (Nat.zero_le _) _ _ _ (by (repeat (first | exact List.Mem.head _ | apply List.Mem.tail))))
      rintro v m H1 ⟨rfl, rfl, rfl⟩
      (try (refine st_E27_1 ?_; intros))
      refine WL.newRow (T := 136) (sz := 3) ?_
      refine WL.heap (H' := .blk b (.cells [str s, str s, .slice none 0 0].toArray 131 (0, 0)) :: .row none 0 136 3 [] :: .row c1 cp1 59 3 ((plainOf l).map Stp.cs) :: H) (fun w h => Pick.sat (by iterate 60 (try (first | exact Pick.all | (apply Pick.take; (· (repeat (first | exact Out.here | apply Out.there)))) | apply Pick.drop))) h) ?_
      refine w_callF Try.func66 ?_ (hs := make_any (es := []) (t := u) (by decide) hfp (by omega) (by rw [applyV_plain hs, eqa]) _ _ _ (RowR.row (by (repeat (first | exact List.Mem.head _ | apply List.Mem.tail)))))
      rintro v m H1 ⟨rfl, c, cp, ra, cra, rfl, rfl⟩
      (try (refine st_E27_1 ?_; intros))
      exact q_fin0 (H0 := .row c cp 59 3 ((plainOf l).map Stp.cs) :: .blk b (.cells [str u, str s, .slice ra 1 cra].toArray 131 (0, 0)) :: .row ra cra 136 3 [sentV hand c1 (plainOf l).length cp1 true] :: .row c1 cp1 59 3 ((plainOf l).map Stp.cs) :: H) ⟨rfl, .inr ⟨u, tt, hsz, hu, c, cp, c1, cp1, ra, cra, rfl, rfl⟩⟩ (hd := (fun w h => Pick.sat (by iterate 60 (try (first | exact Pick.all | (apply Pick.take; (· (repeat (first | exact Out.here | apply Out.there)))) | apply Pick.drop))) h))
theorem undo_none {b : Nat} {s1 s2 : List UInt8} {ra : Option Addr} {cra : Nat} {es : List (List Value)} {hand : Int} (hh : 0 ≤ hand ∧ hand ≤ 9223372036854775807) (hel : es.length ≤ 1000) (hes : ∀ e ∈ es, ∃ a k cap, e = sentV hand a k cap false) (w0 : World) (m : Mem) (H : SHeap) :
    Does Try.prog 33 #[.pointer (some ⟨b, 0, none⟩), .int .i64 hand] w0 m (.blk b (.cells [str s1, str s2, .slice ra es.length cra].toArray 131 (0, 0)) :: .row ra cra 136 3 es :: H) (Gives (.tuple #[.slice none 0 0, .int .i64 4]) m (.blk b (.cells [str s1, str s2, .slice ra es.length cra].toArray 131 (0, 0)) :: .row ra cra 136 3 es :: H)) := by
  refine Does.of_body (args := [.pointer (some ⟨b, 0, none⟩), .int .i64 hand]) Try.func33 rfl Try.ntmps33 rfl ?_
  (refine st_E27_1 ?_; intros; rename_i bh)
  refine WC.loopH [(6, .int .i64 (((es.length) : Int) - 1)), (0, .pointer (some ⟨b, 0, none⟩)), (3, .pointer (some ⟨bh, 0, none⟩))] ?_ ?_ (fun j r ds m' H' => ∃ (k : Nat), j = 2 * k ∧ r = [(6, .int .i64 ((k : Int) - 1)), (0, .pointer (some ⟨b, 0, none⟩)), (3, .pointer (some ⟨bh, 0, none⟩))] ∧ ds = [] ∧ m = m' ∧ H' = .blk bh (.cells [.int .i64 hand].toArray 3 (0, 0)) :: .blk b (.cells [str s1, str s2, .slice ra es.length cra].toArray 131 (0, 0)) :: .row ra cra 136 3 es :: H ∧ (k ≤ es.length)) (2 * (es.length)) ⟨es.length, rfl, rfl, rfl, rfl, rfl, Nat.le_refl _⟩ ?_
  · (repeat (first | exact Env.Sub.nil | refine Env.Sub.cons rfl ?_))
  · exact (fun w h => Pick.sat (by iterate 60 (try (first | exact Pick.all | (apply Pick.take; (· (repeat (first | exact Out.here | apply Out.there)))) | apply Pick.drop))) h)
  rintro j r ds m' H' ⟨k, rfl, rfl, rfl, rfl, rfl, hk⟩
  by_cases h0 : 0 < k
  · obtain ⟨i, rfl⟩ : ∃ i, k = i + 1 := ⟨k - 1, by omega⟩
    have hil : i < es.length := by omega
    obtain ⟨a, kk, cap, he⟩ := hes es[i] (List.getElem_mem hil)
    have hget : es[i]? = some (sentV hand a kk cap false) := by rw [List.getElem?_eq_getElem hil, he]
    have ei : ((i + 1 : Nat) : Int) - 1 = (i : Int) := by omega
    rw [ei]
    refine WC.rowSome (a := ra) (es := es) (by (repeat (first | exact List.Mem.head _ | apply List.Mem.tail))) (by omega) ?_
    rintro ra0 rfl
    (try (refine st_E27_1 ?_; intros))
    refine WQ.next (2 * (i)) ⟨i, rfl, rfl, rfl, rfl, rfl, ?_⟩ (by omega) (by (repeat (first | exact Env.Sub.nil | refine Env.Sub.cons rfl ?_))) (fun w h => Pick.sat (by iterate 60 (try (first | exact Pick.all | (apply Pick.take; (· (repeat (first | exact Out.here | apply Out.there)))) | apply Pick.drop))) h)
    · omega
  · have ek : (k : Int) - 1 = -1 := by omega
    (try (refine st_E27_1 ?_; intros))
    exact q_fin0 (H0 := .blk b (.cells [str s1, str s2, .slice ra es.length cra].toArray 131 (0, 0)) :: .row ra cra 136 3 es :: H) (Gives.mk rfl) (hd := (fun w h => Pick.sat (by iterate 60 (try (first | exact Pick.all | (apply Pick.take; (· (repeat (first | exact Out.here | apply Out.there)))) | apply Pick.drop))) h))
theorem undo_one {b : Nat} {s t : List UInt8} {ra c1 : Option Addr} {cra cp1 : Nat} {l : List Stp} {hand tt : Int} (hh : 0 ≤ hand ∧ hand ≤ 9223372036854775807) (hsz : sizesOf l = some ((s.length : Int), tt)) (hap : applyA s (atomsOf l) = some t) (w0 : World) (m : Mem) (H : SHeap) :
    Does Try.prog 33 #[.pointer (some ⟨b, 0, none⟩), .int .i64 hand] w0 m (.blk b (.cells [str t, str s, .slice ra 1 cra].toArray 131 (0, 0)) :: .row ra cra 136 3 [sentV hand c1 (plainOf l).length cp1 true] :: .row c1 cp1 59 3 ((plainOf l).map Stp.cs) :: H)
      (fun v m' H' => m' = m ∧ ∃ c cp c2 cp2 ra' cra', v = .tuple #[.slice c (listOf ((atomsOf (plainOf l)).map Atm.inv)).length cp, .int .i64 0] ∧ H' = .row c cp 59 3 ((listOf ((atomsOf (plainOf l)).map Atm.inv)).map Stp.cs) :: .blk b (.cells [str s, str s, .slice ra' 2 cra'].toArray 131 (0, 0)) :: .row ra' cra' 136 3 [sentV hand c1 (plainOf l).length cp1 false, sentV hand c2 (listOf ((atomsOf (plainOf l)).map Atm.inv)).length cp2 false] :: H) := by
  refine Does.of_body (args := [.pointer (some ⟨b, 0, none⟩), .int .i64 hand]) Try.func33 rfl Try.ntmps33 rfl ?_
  have hfp := fit_plain hsz
  have hpz := plain_sizes hsz
  have hok := (sized hsz).1
  have hap2 : applyA s (atomsOf (plainOf l)) = some t := by rw [plain_apply l hok]; exact hap
  obtain ⟨hfr, hsr⟩ := inv_fit hpz
  have hback := inv_back hpz hap2
  have hinv : invP (plainOf l) = .inr (listOf ((atomsOf (plainOf l)).map Atm.inv)) := by unfold invP; rw [hpz]
  have hlt := apply_len _ _ _ hap2
  have hlt2 : t.length ≤ 1000000 := by obtain ⟨_, h1, _⟩ := sized hpz; have := toA_le (atomsOf (plainOf l)); omega
  generalize listOf ((atomsOf (plainOf l)).map Atm.inv) = R at *
  generalize plainOf l = P at *
  have hPl := hfp.len
  (refine st_E27_1 ?_; intros; rename_i bh)
  refine WC.loopH [(6, .int .i64 ((0) : Int)), (0, .pointer (some ⟨b, 0, none⟩)), (3, .pointer (some ⟨bh, 0, none⟩))] ?_ ?_ (fun j r ds m' H' => ∃ (k : Nat), j = 2 * k ∧ r = [(6, .int .i64 (k : Int)), (0, .pointer (some ⟨b, 0, none⟩)), (3, .pointer (some ⟨bh, 0, none⟩))] ∧ ds = [] ∧ m = m' ∧ H' = .blk bh (.cells [.int .i64 hand].toArray 3 (0, 0)) :: .blk b (.cells [str t, str s, .slice ra 1 cra].toArray 131 (0, 0)) :: .row ra cra 136 3 [sentV hand c1 P.length cp1 true] :: .row c1 cp1 59 3 (P.map Stp.cs) :: H ∧ (k = 0)) (2 * (0)) ⟨0, rfl, rfl, rfl, rfl, rfl, rfl⟩ ?_
  · (repeat (first | exact Env.Sub.nil | refine Env.Sub.cons rfl ?_))
  · exact (fun w h => Pick.sat (by iterate 60 (try (first | exact Pick.all | (apply Pick.take; (· (repeat (first | exact Out.here | apply Out.there)))) | apply Pick.drop))) h)
  rintro j r ds m' H' ⟨k, rfl, rfl, rfl, rfl, rfl, hk⟩
  have hget : [sentV hand c1 P.length cp1 true][k]? = some (sentV hand c1 P.length cp1 true) := by rw [hk]; rfl
  have hset : [sentV hand c1 P.length cp1 true].set k (sentV hand c1 P.length cp1 false) = [sentV hand c1 P.length cp1 false] := by rw [hk]; rfl
  have hel : [sentV hand c1 P.length cp1 true].length = 1 := rfl
  refine WC.rowSome (a := ra) (es := [sentV hand c1 P.length cp1 true]) (by (repeat (first | exact List.Mem.head _ | apply List.Mem.tail))) (by omega) ?_
  rintro ra0 rfl
  refine WC.rowCap (a := some ra0) (es := [sentV hand c1 P.length cp1 true]) (by (repeat (first | exact List.Mem.head _ | apply List.Mem.tail))) fun hcap => ?_
  generalize hE : [sentV hand c1 P.length cp1 true] = E at *
  (try (refine st_E27_1 ?_; intros))
  refine w_callF Try.func61 ?_ (hs := eInvert_any hfp _ _ _ (RowR.row (by (repeat (first | exact List.Mem.head _ | apply List.Mem.tail)))))
  rintro v m H1 ⟨rfl, hv⟩
  rw [hinv] at hv
  obtain ⟨c2, cp2, rfl, rfl⟩ := hv
  (try (refine st_E27_1 ?_; intros))
  refine w_callF Try.func64 ?_ (hs := carried_any (b := b) (s1 := t) (s2 := s) (ra := some ra0) (cra := cra) (k := 1) (rev := (k : Int) + 1) (by omega) (by omega) _ _ _ (by (repeat (first | exact List.Mem.head _ | apply List.Mem.tail))))
  rintro v m H1 ⟨rfl, rfl, rfl⟩
  have hset2 : E.set k [.int .i64 hand, .slice c1 P.length cp1, .bool false] = [sentV hand c1 P.length cp1 false] := hset
  (try (refine st_E27_1 ?_; intros))
  rw [hset2]
  refine WL.heap (H' := .blk b (.cells [str t, str s, .slice (some ra0) 1 cra].toArray 131 (0, 0)) :: .row (some ra0) cra 136 3 [sentV hand c1 P.length cp1 false] :: .row c2 cp2 59 3 (R.map Stp.cs) :: .row c1 cp1 59 3 (P.map Stp.cs) :: H) (fun w h => Pick.sat (by iterate 60 (try (first | exact Pick.all | (apply Pick.take; (· (repeat (first | exact Out.here | apply Out.there)))) | apply Pick.drop))) h) ?_
  refine w_callF Try.func66 ?_ (hs := make_any (es := [sentV hand c1 P.length cp1 false]) (t := s) (by simp) hfr (by omega) hback _ _ _ (RowR.row (by (repeat (first | exact List.Mem.head _ | apply List.Mem.tail)))))
  rintro v m H1 ⟨rfl, c, cp, ra2, cra2, rfl, rfl⟩
  (try (refine st_E27_1 ?_; intros))
  exact q_fin0 (H0 := .row c cp 59 3 (R.map Stp.cs) :: .blk b (.cells [str s, str s, .slice ra2 2 cra2].toArray 131 (0, 0)) :: .row ra2 cra2 136 3 [sentV hand c1 P.length cp1 false, sentV hand c2 R.length cp2 false] :: H) ⟨rfl, c, cp, c2, cp2, ra2, cra2, rfl, rfl⟩ (hd := (fun w h => Pick.sat (by iterate 60 (try (first | exact Pick.all | (apply Pick.take; (· (repeat (first | exact Out.here | apply Out.there)))) | apply Pick.drop))) h))
end Go.Proofs.Ytelgegefmjlimaa

