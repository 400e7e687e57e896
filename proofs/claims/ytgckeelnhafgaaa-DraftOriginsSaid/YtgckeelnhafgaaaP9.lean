/-
  Parts of a walk, joined: D59 D60 EngZR D61 D62 EngZQ D63 D64 DV0 D65 D66 D67. No condition.
-/
import Derived.Test.YtgckeelnhafgaaaP4
import Derived.Test.YtgckeelnhafgaaaP8
import Derived.Test.YtgckeelnhafgaaaP5
import Derived.Test.YtgckeelnhafgaaaP1
set_option linter.all false
/-
  The walk of a history's origins. No condition.
-/
namespace Go.Proofs.Ytgckeelnhafgaaa
open Go Go.Eng
set_option maxRecDepth 100000
set_option maxHeartbeats 4000000
set_option linter.all false
attribute [local irreducible] WL WC WQ QFun QLoop Does Q1 QRound QAssign Go.Addr.add
attribute [local irreducible] lnM mapO lineK orgK toks matchL allV setAll
theorem sq_D59_1 {G : Prop} (h : G := by (repeat (first | (refine sp ?_; (repeat intro zzc)) | (refine WL.indexAddrA rfl rfl (by (first | with_reducible exact natz _ | with_reducible exact natz0 | with_reducible exact natz1 | with_reducible exact natz2 | with_reducible exact natz3 | with_reducible exact natz4 | with_reducible exact natz8 | (apply natz_add; (· first | with_reducible exact natz _ | with_reducible exact natz0 | with_reducible exact natz1 | with_reducible exact natz2 | with_reducible exact natz3 | with_reducible exact natz4 | with_reducible exact natz8); (· first | with_reducible exact natz _ | with_reducible exact natz0 | with_reducible exact natz1 | with_reducible exact natz2 | with_reducible exact natz3 | with_reducible exact natz4 | with_reducible exact natz8)) | (apply natz_sub; (· first | with_reducible exact natz _ | with_reducible exact natz0 | with_reducible exact natz1 | with_reducible exact natz2 | with_reducible exact natz3 | with_reducible exact natz4 | with_reducible exact natz8); (· first | with_reducible exact natz _ | with_reducible exact natz0 | with_reducible exact natz1 | with_reducible exact natz2 | with_reducible exact natz3 | with_reducible exact natz4 | with_reducible exact natz8); (· omega)) | exact (Int.toNat_of_nonneg (by omega)).symm)) rfl rfl (by omega) rfl rfl ?_))); exact WQ.q1 rfl) : G := h
theorem cm_D59_1 {G G' : Prop} (next : G') (h : Bx G' → G := by intro zzn; (try (refine wcal 0 ?_ (hwl := by intro zm zF zle; exact sq_D59_1))); (try (refine wcal 1 ?_ (hwl := by intro zm zF zle; exact sq_D59_1))); (try (refine wcal 2 ?_ (hwl := by intro zm zF zle; exact sq_D59_1))); (try (refine wcal 3 ?_ (hwl := by intro zm zF zle; exact sq_D59_1))); (try (refine wcal 4 ?_ (hwl := by intro zm zF zle; exact sq_D59_1))); (try (refine wcal 5 ?_ (hwl := by intro zm zF zle; exact sq_D59_1))); (try (refine wcal 6 ?_ (hwl := by intro zm zF zle; exact sq_D59_1))); (try (refine wcal 7 ?_ (hwl := by intro zm zF zle; exact sq_D59_1))); (try (refine wcal 8 ?_ (hwl := by intro zm zF zle; exact sq_D59_1))); (try (refine wcal 9 ?_ (hwl := by intro zm zF zle; exact sq_D59_1))); (try (refine wcal 10 ?_ (hwl := by intro zm zF zle; exact sq_D59_1))); (try (refine wcal 11 ?_ (hwl := by intro zm zF zle; exact sq_D59_1))); (try (refine wcal 12 ?_ (hwl := by intro zm zF zle; exact sq_D59_1))); (try (refine wcal 13 ?_ (hwl := by intro zm zF zle; exact sq_D59_1))); (try (refine wcal 14 ?_ (hwl := by intro zm zF zle; exact sq_D59_1))); (try (refine wcal 15 ?_ (hwl := by intro zm zF zle; exact sq_D59_1))); (try (refine wcal 16 ?_ (hwl := by intro zm zF zle; exact sq_D59_1))); (try (refine wcal 17 ?_ (hwl := by intro zm zF zle; exact sq_D59_1))); (try (refine wcal 18 ?_ (hwl := by intro zm zF zle; exact sq_D59_1))); (try (refine wcal 19 ?_ (hwl := by intro zm zF zle; exact sq_D59_1))); (try (refine wcal 20 ?_ (hwl := by intro zm zF zle; exact sq_D59_1))); (try (refine wcal 21 ?_ (hwl := by intro zm zF zle; exact sq_D59_1))); (try (refine wcal 22 ?_ (hwl := by intro zm zF zle; exact sq_D59_1))); (try (refine wcal 23 ?_ (hwl := by intro zm zF zle; exact sq_D59_1))); (try (refine wcal 24 ?_ (hwl := by intro zm zF zle; exact sq_D59_1))); (try (refine wcal 25 ?_ (hwl := by intro zm zF zle; exact sq_D59_1))); (try (refine wcal 26 ?_ (hwl := by intro zm zF zle; exact sq_D59_1))); (try (refine wcal 27 ?_ (hwl := by intro zm zF zle; exact sq_D59_1))); (try (refine wcal 28 ?_ (hwl := by intro zm zF zle; exact sq_D59_1))); (try (refine wcal 29 ?_ (hwl := by intro zm zF zle; exact sq_D59_1))); (try (refine wcal 30 ?_ (hwl := by intro zm zF zle; exact sq_D59_1))); (try (refine wcal 31 ?_ (hwl := by intro zm zF zle; exact sq_D59_1))); (try (refine wcal 32 ?_ (hwl := by intro zm zF zle; exact sq_D59_1))); (try (refine wcal 33 ?_ (hwl := by intro zm zF zle; exact sq_D59_1))); (try (refine wcal 34 ?_ (hwl := by intro zm zF zle; exact sq_D59_1))); (try (refine wcal 35 ?_ (hwl := by intro zm zF zle; exact sq_D59_1))); (try (refine wcal 36 ?_ (hwl := by intro zm zF zle; exact sq_D59_1))); (try (refine wcal 37 ?_ (hwl := by intro zm zF zle; exact sq_D59_1))); (try (refine wcal 38 ?_ (hwl := by intro zm zF zle; exact sq_D59_1))); (try (refine wcal 39 ?_ (hwl := by intro zm zF zle; exact sq_D59_1))); (try (refine wcal 40 ?_ (hwl := by intro zm zF zle; exact sq_D59_1))); (try (refine wcal 41 ?_ (hwl := by intro zm zF zle; exact sq_D59_1))); exact zzn.out) : G := h ⟨next⟩
theorem st_D59_1 {G G' : Prop} (next : G') (h : Bx G' → G := by intro zzn; (first | ((refine st ?_; (repeat intro zzc)); (try ((first | (refine WL.indexAddrA rfl rfl (by (first | with_reducible exact natz _ | with_reducible exact natz0 | with_reducible exact natz1 | with_reducible exact natz2 | with_reducible exact natz3 | with_reducible exact natz4 | with_reducible exact natz8 | (apply natz_add; (· first | with_reducible exact natz _ | with_reducible exact natz0 | with_reducible exact natz1 | with_reducible exact natz2 | with_reducible exact natz3 | with_reducible exact natz4 | with_reducible exact natz8); (· first | with_reducible exact natz _ | with_reducible exact natz0 | with_reducible exact natz1 | with_reducible exact natz2 | with_reducible exact natz3 | with_reducible exact natz4 | with_reducible exact natz8)) | (apply natz_sub; (· first | with_reducible exact natz _ | with_reducible exact natz0 | with_reducible exact natz1 | with_reducible exact natz2 | with_reducible exact natz3 | with_reducible exact natz4 | with_reducible exact natz8); (· first | with_reducible exact natz _ | with_reducible exact natz0 | with_reducible exact natz1 | with_reducible exact natz2 | with_reducible exact natz3 | with_reducible exact natz4 | with_reducible exact natz8); (· omega)) | exact (Int.toNat_of_nonneg (by omega)).symm)) rfl rfl (by omega) rfl rfl ?_) | ((refine iDraw ?_; (first | refine WC.drawAll rfl (by decide +kernel) ?_ | refine WC.draw 1 rfl (by decide +kernel) ?_ | refine WC.draw 2 rfl (by decide +kernel) ?_ | refine WC.draw 3 rfl (by decide +kernel) ?_ | refine WC.draw 4 rfl (by decide +kernel) ?_ | refine WC.draw 5 rfl (by decide +kernel) ?_ | refine WC.draw 6 rfl (by decide +kernel) ?_ | refine WC.draw 7 rfl (by decide +kernel) ?_ | refine WC.draw 8 rfl (by decide +kernel) ?_ | refine WC.draw 9 rfl (by decide +kernel) ?_ | refine WC.draw 10 rfl (by decide +kernel) ?_ | refine WC.draw 11 rfl (by decide +kernel) ?_ | refine WC.draw 12 rfl (by decide +kernel) ?_ | refine WC.draw 13 rfl (by decide +kernel) ?_ | refine WC.draw 14 rfl (by decide +kernel) ?_ | refine WC.draw 15 rfl (by decide +kernel) ?_ | refine WC.draw 16 rfl (by decide +kernel) ?_ | refine WC.draw 17 rfl (by decide +kernel) ?_ | refine WC.draw 18 rfl (by decide +kernel) ?_ | refine WC.draw 19 rfl (by decide +kernel) ?_ | refine WC.draw 20 rfl (by decide +kernel) ?_ | refine WC.draw 21 rfl (by decide +kernel) ?_ | refine WC.draw 22 rfl (by decide +kernel) ?_ | refine WC.draw 23 rfl (by decide +kernel) ?_ | refine WC.draw 24 rfl (by decide +kernel) ?_)); (repeat (refine WD.cons rfl (fun c h => by cases h) sq_D59_1 ?_)); refine WD.nil ?_)); (try (refine st ?_; (repeat intro zzc)))))) | ((first | (refine WL.indexAddrA rfl rfl (by (first | with_reducible exact natz _ | with_reducible exact natz0 | with_reducible exact natz1 | with_reducible exact natz2 | with_reducible exact natz3 | with_reducible exact natz4 | with_reducible exact natz8 | (apply natz_add; (· first | with_reducible exact natz _ | with_reducible exact natz0 | with_reducible exact natz1 | with_reducible exact natz2 | with_reducible exact natz3 | with_reducible exact natz4 | with_reducible exact natz8); (· first | with_reducible exact natz _ | with_reducible exact natz0 | with_reducible exact natz1 | with_reducible exact natz2 | with_reducible exact natz3 | with_reducible exact natz4 | with_reducible exact natz8)) | (apply natz_sub; (· first | with_reducible exact natz _ | with_reducible exact natz0 | with_reducible exact natz1 | with_reducible exact natz2 | with_reducible exact natz3 | with_reducible exact natz4 | with_reducible exact natz8); (· first | with_reducible exact natz _ | with_reducible exact natz0 | with_reducible exact natz1 | with_reducible exact natz2 | with_reducible exact natz3 | with_reducible exact natz4 | with_reducible exact natz8); (· omega)) | exact (Int.toNat_of_nonneg (by omega)).symm)) rfl rfl (by omega) rfl rfl ?_) | ((refine iDraw ?_; (first | refine WC.drawAll rfl (by decide +kernel) ?_ | refine WC.draw 1 rfl (by decide +kernel) ?_ | refine WC.draw 2 rfl (by decide +kernel) ?_ | refine WC.draw 3 rfl (by decide +kernel) ?_ | refine WC.draw 4 rfl (by decide +kernel) ?_ | refine WC.draw 5 rfl (by decide +kernel) ?_ | refine WC.draw 6 rfl (by decide +kernel) ?_ | refine WC.draw 7 rfl (by decide +kernel) ?_ | refine WC.draw 8 rfl (by decide +kernel) ?_ | refine WC.draw 9 rfl (by decide +kernel) ?_ | refine WC.draw 10 rfl (by decide +kernel) ?_ | refine WC.draw 11 rfl (by decide +kernel) ?_ | refine WC.draw 12 rfl (by decide +kernel) ?_ | refine WC.draw 13 rfl (by decide +kernel) ?_ | refine WC.draw 14 rfl (by decide +kernel) ?_ | refine WC.draw 15 rfl (by decide +kernel) ?_ | refine WC.draw 16 rfl (by decide +kernel) ?_ | refine WC.draw 17 rfl (by decide +kernel) ?_ | refine WC.draw 18 rfl (by decide +kernel) ?_ | refine WC.draw 19 rfl (by decide +kernel) ?_ | refine WC.draw 20 rfl (by decide +kernel) ?_ | refine WC.draw 21 rfl (by decide +kernel) ?_ | refine WC.draw 22 rfl (by decide +kernel) ?_ | refine WC.draw 23 rfl (by decide +kernel) ?_ | refine WC.draw 24 rfl (by decide +kernel) ?_)); (repeat (refine WD.cons rfl (fun c h => by cases h) sq_D59_1 ?_)); refine WD.nil ?_)); (try (refine st ?_; (repeat intro zzc))))); (repeat ((first | (refine WL.indexAddrA rfl rfl (by (first | with_reducible exact natz _ | with_reducible exact natz0 | with_reducible exact natz1 | with_reducible exact natz2 | with_reducible exact natz3 | with_reducible exact natz4 | with_reducible exact natz8 | (apply natz_add; (· first | with_reducible exact natz _ | with_reducible exact natz0 | with_reducible exact natz1 | with_reducible exact natz2 | with_reducible exact natz3 | with_reducible exact natz4 | with_reducible exact natz8); (· first | with_reducible exact natz _ | with_reducible exact natz0 | with_reducible exact natz1 | with_reducible exact natz2 | with_reducible exact natz3 | with_reducible exact natz4 | with_reducible exact natz8)) | (apply natz_sub; (· first | with_reducible exact natz _ | with_reducible exact natz0 | with_reducible exact natz1 | with_reducible exact natz2 | with_reducible exact natz3 | with_reducible exact natz4 | with_reducible exact natz8); (· first | with_reducible exact natz _ | with_reducible exact natz0 | with_reducible exact natz1 | with_reducible exact natz2 | with_reducible exact natz3 | with_reducible exact natz4 | with_reducible exact natz8); (· omega)) | exact (Int.toNat_of_nonneg (by omega)).symm)) rfl rfl (by omega) rfl rfl ?_) | ((refine iDraw ?_; (first | refine WC.drawAll rfl (by decide +kernel) ?_ | refine WC.draw 1 rfl (by decide +kernel) ?_ | refine WC.draw 2 rfl (by decide +kernel) ?_ | refine WC.draw 3 rfl (by decide +kernel) ?_ | refine WC.draw 4 rfl (by decide +kernel) ?_ | refine WC.draw 5 rfl (by decide +kernel) ?_ | refine WC.draw 6 rfl (by decide +kernel) ?_ | refine WC.draw 7 rfl (by decide +kernel) ?_ | refine WC.draw 8 rfl (by decide +kernel) ?_ | refine WC.draw 9 rfl (by decide +kernel) ?_ | refine WC.draw 10 rfl (by decide +kernel) ?_ | refine WC.draw 11 rfl (by decide +kernel) ?_ | refine WC.draw 12 rfl (by decide +kernel) ?_ | refine WC.draw 13 rfl (by decide +kernel) ?_ | refine WC.draw 14 rfl (by decide +kernel) ?_ | refine WC.draw 15 rfl (by decide +kernel) ?_ | refine WC.draw 16 rfl (by decide +kernel) ?_ | refine WC.draw 17 rfl (by decide +kernel) ?_ | refine WC.draw 18 rfl (by decide +kernel) ?_ | refine WC.draw 19 rfl (by decide +kernel) ?_ | refine WC.draw 20 rfl (by decide +kernel) ?_ | refine WC.draw 21 rfl (by decide +kernel) ?_ | refine WC.draw 22 rfl (by decide +kernel) ?_ | refine WC.draw 23 rfl (by decide +kernel) ?_ | refine WC.draw 24 rfl (by decide +kernel) ?_)); (repeat (refine WD.cons rfl (fun c h => by cases h) sq_D59_1 ?_)); refine WD.nil ?_)); (try (refine st ?_; (repeat intro zzc))))); (repeat revert zzc); exact zzn.out) : G := h ⟨next⟩
theorem origins_any {bh bm cap c : Nat} {B : Br} {a : Option Addr} {L : List Dr} {k : Nat} (hk : k < L.length) (w0 : World) (m : Mem) (H : SHeap) (hok : HsOk m L B c) :
    Does Try.prog 20 #[.pointer (some ⟨bh, 0, none⟩), .int .i64 (k : Int)] w0 m (.blk bh (.cells [.slice a L.length cap, .map (some bm)].toArray 66 (0, 0)) :: .row a cap 71 3 (drs L) :: H) (fun v m' H' => m.le m' ∧ ∃ b, v = .slice (some ⟨b, 0, none⟩) (orgK L k).length (orgK L k).length ∧ NumR m' b (orgK L k) ∧ H' = .blk bh (.cells [.slice a L.length cap, .map (some bm)].toArray 66 (0, 0)) :: .row a cap 71 3 (drs L) :: H) := by
  refine Does.of_body (args := [.pointer (some ⟨bh, 0, none⟩), .int .i64 (k : Int)]) Try.func20 rfl Try.ntmps20 rfl ?_
  have hL := hok.few
  have hf := hok.falls
  have hat := hok.at_
  have hps : ∀ (i : Nat) (d : Dr), L[i]? = some d → d.ps.length ≤ 2 := fun i d hd => (hok.par i d hd).2.2.1
  have hnl := drs_length L
  have hk1 : (k : Int) + 1 = ((k + 1 : Nat) : Int) := by omega
  (refine st_D59_1 ?_; intros; rename_i b2)
  rw [hk1]
  refine WL.makeRow (k := k + 1) (sz := 1) (by' := 24) (z := .slice none 0 0) (zs := [.slice none 0 0]) rfl rfl rfl rfl rfl rfl rfl rfl rfl rfl (by omega) (by omega) (by omega) rfl ?_
  intro ba
  have hall0 : List.replicate (k + 1) [Value.slice none 0 0] = allV [] (k + 1) := by unfold allV; rfl
  rw [hall0]
  (refine st_D59_1 ?_; intros; rename_i b5)
  refine WL.heap (H' := .blk bh (.cells [.slice a L.length cap, .map (some bm)].toArray 66 (0, 0)) :: .row a cap 71 3 (drs L) :: .blk b5 (.cells [.slice (some ⟨ba, 0, none⟩) (k + 1) (k + 1)].toArray 110 (0, 0)) :: .row (some ⟨ba, 0, none⟩) (k + 1) 67 1 (allV [] (k + 1)) :: .blk b2 (.cells [.pointer (some ⟨bh, 0, none⟩)].toArray 24 (0, 0)) :: H) zpk ?_
  refine w_callF Try.func24 ?_ (hs := line_any hk hL _ _ _ hat hps)
  rintro v m H1 ⟨rfl, bq, rfl, rfl⟩
  (try (refine st_D59_1 ?_; intros))
  generalize hLK : lineK L k = LK at *
  refine WC.loopH [(22, .int .i64 ((0) : Int)), (21, .int .i64 ((k + 1 : Nat) : Int)), (6, .map (some bq)), (5, .pointer (some ⟨b5, 0, none⟩)), (2, .pointer (some ⟨b2, 0, none⟩)), (1, .int .i64 (k : Int))] ?_ ?_ (fun j r ds m' H' => ∃ (i : Nat) (mm : Mem) (Ds : List Nat) (R : List Ro), j = k + 1 - i ∧ r = [(22, .int .i64 (i : Int)), (21, .int .i64 ((k + 1 : Nat) : Int)), (6, .map (some bq)), (5, .pointer (some ⟨b5, 0, none⟩)), (2, .pointer (some ⟨b2, 0, none⟩)), (1, .int .i64 (k : Int))] ∧ ds = (List.map Dfr.mark Ds) ∧ mm = m' ∧ H' = .blk bq (mapO .i64 (lnM LK)) :: .blk bh (.cells [.slice a L.length cap, .map (some bm)].toArray 66 (0, 0)) :: .row a cap 71 3 (drs L) :: .blk b5 (.cells [.slice (some ⟨ba, 0, none⟩) (k + 1) (k + 1)].toArray 110 (0, 0)) :: .row (some ⟨ba, 0, none⟩) (k + 1) 67 1 (allV R (k + 1)) :: .blk b2 (.cells [.pointer (some ⟨bh, 0, none⟩)].toArray 24 (0, 0)) :: (List.map dfr Ds ++ H) ∧ (i ≤ k + 1) ∧ (R.length = i) ∧ (∀ x, x < i → x ∈ LK → ∃ b, R[x]? = some (some (b, orgK L x)) ∧ NumR mm b (orgK L x)) ∧ (m.le mm)) (k + 1 - (0)) ⟨0, m, [], [], rfl, rfl, rfl, rfl, rfl, by omega, rfl, by intro x hx; omega, Mem.le.refl _⟩ ?_
  · (repeat (first | exact Env.Sub.nil | refine Env.Sub.cons rfl ?_))
  · exact zpk
  rintro j r ds m' H' ⟨i, mm, Ds, R, rfl, rfl, rfl, rfl, rfl, hi, hRl, hR, hle⟩
  have hvl := allV_length (R := R) (k := k + 1) (by omega)
  by_cases hlt : i < k + 1
  · (refine st_D59_1 ?_; intros; rename_i b7)
    refine WL.look1 (q := .i64) (q' := .i64) (k := (i : Int)) (z := .bool false) (kvs := lnM LK) rfl rfl zhs rfl rfl (fun _ => rfl) rfl ?_
    rw [lnM_lookup]
    by_cases hin : i ∈ LK
    · rw [if_pos hin]
      simp only [Option.getD_some]
      (try (refine st_D59_1 ?_; intros))
      obtain ⟨d, hd⟩ : ∃ d, L[i]? = some d := ⟨_, List.getElem?_eq_getElem (by omega)⟩
      obtain ⟨sa, sc, hv, hr⟩ := hat d (List.mem_of_getElem? hd)
      have hr2 := fun w0 H => (hr w0 H).le hle
      have hgd := drs_get hd
      unfold drE at hgd
      rw [hv] at hgd
      have hnp := nums_length d.ps
      generalize hE : drs L = E at *
      refine WC.rowSome (a := a) zhs (by omega) ?_
      rintro a0 rfl
      refine WC.drawE 9 ([.blk b2 (.cells [.pointer (some ⟨bh, 0, none⟩)].toArray 24 (0, 0)), .blk bh (.cells [.slice (some a0) L.length cap, .map (some bm)].toArray 66 (0, 0)), .row (some a0) cap 71 3 E, .blk b7 (.cells [.int .i64 (i : Int)].toArray 3 (0, 0))]) (.blk bq (mapO .i64 (lnM LK)) :: .blk b5 (.cells [.slice (some ⟨ba, 0, none⟩) (k + 1) (k + 1)].toArray 110 (0, 0)) :: .row (some ⟨ba, 0, none⟩) (k + 1) 67 1 (allV R (k + 1)) :: (List.map dfr Ds ++ H)) rfl (by decide +kernel) zpk ?_
      (refine cm_D59_1 ?_)
      refine WE.act1 7 (by decide +kernel) rfl rfl (fun c h => by cases h) ?_
      (refine st_D59_1 ?_; intros; rename_i b8)
      refine WQ.acted (B := []) (U := .blk b8 (.cells [.int .i64 0, .slice none 0 0, str []].toArray 71 (0, 0)) :: .blk bq (mapO .i64 (lnM LK)) :: .blk b5 (.cells [.slice (some ⟨ba, 0, none⟩) (k + 1) (k + 1)].toArray 110 (0, 0)) :: .row (some ⟨ba, 0, none⟩) (k + 1) 67 1 (allV R (k + 1)) :: (List.map dfr Ds ++ H)) rfl (Mem.le.refl _) zpk ?_
      (refine cm_D59_1 ?_)
      refine WE.act0 8 (by decide +kernel) rfl rfl (fun c h => by cases h) ?_
      (try (refine st_D59_1 ?_; intros))
      refine WQ.stored (B := []) (U := .blk b8 (.cells [.int .i64 (d.h : Int), .slice sa d.ps.length sc, str d.t].toArray 71 (0, 0)) :: .blk bq (mapO .i64 (lnM LK)) :: .blk b5 (.cells [.slice (some ⟨ba, 0, none⟩) (k + 1) (k + 1)].toArray 110 (0, 0)) :: .row (some ⟨ba, 0, none⟩) (k + 1) 67 1 (allV R (k + 1)) :: (List.map dfr Ds ++ H)) (Mem.le.refl _) zpk ?_
      (refine cm_D59_1 ?_)
      refine WE.done (by decide +kernel) ?_
      (try (refine st_D59_1 ?_; intros))
      have hpar := hok.par i d hd
      refine w_callF Try.func21 ?_ (hs := toks_any d.t (by omega) _ _ _)
      rintro v m2 H2 ⟨hle2, a9, cp9, rfl, rfl⟩
      refine WL.rowCap (a := a9) (cap := cp9) (T := 9) (sz := 1) (es := strs (toks d.t)) zhs ?_
      intro hc9
      have hst9 : (strs (toks d.t)).length = (toks d.t).length := by simp [strs]
      refine WL.persistRow (a := a9) (by (repeat (first | exact Out.here | apply Out.there))) ?_
      intro m3 hle3 hown
      (refine st_D59_1 ?_; intros; rename_i b9)
      have hn0 : (toks d.t).length ≤ 65536 := Nat.le_trans (toks_length d.t) (by omega)
      obtain ⟨n0, hn0e⟩ : ∃ n0, n0 = (toks d.t).length := ⟨_, rfl⟩
      rw [← hn0e]
      refine WC.drawE 9 ([.blk b5 (.cells [.slice (some ⟨ba, 0, none⟩) (k + 1) (k + 1)].toArray 110 (0, 0)), .blk b7 (.cells [.int .i64 (i : Int)].toArray 3 (0, 0)), .blk b9 (.cells [.slice a9 n0 cp9].toArray 26 (0, 0))]) (.blk b2 (.cells [.pointer (some ⟨bh, 0, none⟩)].toArray 24 (0, 0)) :: .blk bh (.cells [.slice (some a0) L.length cap, .map (some bm)].toArray 66 (0, 0)) :: .row (some a0) cap 71 3 E :: .blk b8 (.cells [.int .i64 (d.h : Int), .slice sa d.ps.length sc, str d.t].toArray 71 (0, 0)) :: .blk bq (mapO .i64 (lnM LK)) :: .row (some ⟨ba, 0, none⟩) (k + 1) 67 1 (allV R (k + 1)) :: (List.map dfr Ds ++ H)) rfl (by decide +kernel) zpk ?_
      (refine cm_D59_1 ?_)
      refine WE.act1 3 (by decide +kernel) rfl rfl (fun c h => by cases h) ?_
      (refine st_D59_1 ?_; intros; rename_i b42)
      refine WQ.acted (B := []) (U := .blk b42 (.cells [.int .i64 (i : Int)].toArray 3 (0, 0)) :: .blk b2 (.cells [.pointer (some ⟨bh, 0, none⟩)].toArray 24 (0, 0)) :: .blk bh (.cells [.slice (some a0) L.length cap, .map (some bm)].toArray 66 (0, 0)) :: .row (some a0) cap 71 3 E :: .blk b8 (.cells [.int .i64 (d.h : Int), .slice sa d.ps.length sc, str d.t].toArray 71 (0, 0)) :: .blk bq (mapO .i64 (lnM LK)) :: .row (some ⟨ba, 0, none⟩) (k + 1) 67 1 (allV R (k + 1)) :: (List.map dfr Ds ++ H)) rfl (Mem.le.refl _) zpk ?_
      (refine cm_D59_1 ?_)
      refine WE.act1 6 (by decide +kernel) rfl rfl (fun c h => by cases h) ?_
      refine WL.heap (H' := .blk b42 (.cells [.int .i64 (i : Int)].toArray 3 (0, 0)) :: .blk b5 (.cells [.slice (some ⟨ba, 0, none⟩) (k + 1) (k + 1)].toArray 110 (0, 0)) :: .blk b7 (.cells [.int .i64 (i : Int)].toArray 3 (0, 0)) :: .blk b9 (.cells [.slice a9 n0 cp9].toArray 26 (0, 0)) :: .blk b2 (.cells [.pointer (some ⟨bh, 0, none⟩)].toArray 24 (0, 0)) :: .blk bh (.cells [.slice (some a0) L.length cap, .map (some bm)].toArray 66 (0, 0)) :: .row (some a0) cap 71 3 E :: .blk b8 (.cells [.int .i64 (d.h : Int), .slice sa d.ps.length sc, str d.t].toArray 71 (0, 0)) :: .blk bq (mapO .i64 (lnM LK)) :: .row (some ⟨ba, 0, none⟩) (k + 1) 67 1 (allV R (k + 1)) :: (List.map dfr Ds ++ H)) zpk ?_
      refine w_callF Try.func39 ?_ (hs := repeat1_any (i : Int) n0 (by omega) 3 _ _ _)
      rintro v m4 H4 ⟨rfl, bo, rfl, rfl⟩
      have hrep : List.replicate n0 [Value.int .i64 (i : Int)] = nums (List.replicate n0 i) := by unfold nums; rw [List.map_replicate]
      rw [hrep]
      (try (refine st_D59_1 ?_; intros))
      refine WQ.acted (B := []) (U := .row (some ⟨bo, 0, none⟩) n0 3 1 (nums (List.replicate n0 i)) :: .blk b2 (.cells [.pointer (some ⟨bh, 0, none⟩)].toArray 24 (0, 0)) :: .blk bh (.cells [.slice (some a0) L.length cap, .map (some bm)].toArray 66 (0, 0)) :: .row (some a0) cap 71 3 E :: .blk b8 (.cells [.int .i64 (d.h : Int), .slice sa d.ps.length sc, str d.t].toArray 71 (0, 0)) :: .blk bq (mapO .i64 (lnM LK)) :: .row (some ⟨ba, 0, none⟩) (k + 1) 67 1 (allV R (k + 1)) :: (List.map dfr Ds ++ H)) rfl (Mem.le.refl _) zpk ?_
      (refine cm_D59_1 ?_)
      refine WE.act0 8 (by decide +kernel) rfl rfl (fun c h => by cases h) ?_
      (try (refine st_D59_1 ?_; intros))
      have hset : (allV R (k + 1)).set i [.slice (some ⟨bo, 0, none⟩) n0 n0] = allV (R ++ [some (bo, List.replicate n0 i)]) (k + 1) := by
        rw [← allV_set (by omega), hRl]
        simp [roV]
      rw [hset]
      refine WQ.stored (B := []) (U := .row (some ⟨bo, 0, none⟩) n0 3 1 (nums (List.replicate n0 i)) :: .blk b2 (.cells [.pointer (some ⟨bh, 0, none⟩)].toArray 24 (0, 0)) :: .blk bh (.cells [.slice (some a0) L.length cap, .map (some bm)].toArray 66 (0, 0)) :: .row (some a0) cap 71 3 E :: .blk b8 (.cells [.int .i64 (d.h : Int), .slice sa d.ps.length sc, str d.t].toArray 71 (0, 0)) :: .blk bq (mapO .i64 (lnM LK)) :: .row (some ⟨ba, 0, none⟩) (k + 1) 67 1 (allV (R ++ [some (bo, List.replicate n0 i)]) (k + 1)) :: (List.map dfr Ds ++ H)) (Mem.le.refl _) zpk ?_
      (refine cm_D59_1 ?_)
      refine WE.done (by decide +kernel) ?_
      (try (refine st_D59_1 ?_; intros))
      obtain ⟨RV, hRV⟩ : ∃ RV, RV = allV (R ++ [some (bo, List.replicate n0 i)]) (k + 1) := ⟨_, rfl⟩
      have hRVl : RV.length = k + 1 := by rw [hRV]; exact allV_length (by rw [List.length_append, List.length_singleton]; omega)
      have hRVi : RV[i]? = some [.slice (some ⟨bo, 0, none⟩) n0 n0] := by
        rw [hRV, allV_get (x := some (bo, List.replicate n0 i)) (by rw [← hRl, List.getElem?_append_right (Nat.le_refl _), Nat.sub_self]; rfl)]
        simp [roV]
      have hRVp : ∀ x, x < i → x ∈ LK → ∃ b, RV[x]? = some [.slice (some ⟨b, 0, none⟩) (orgK L x).length (orgK L x).length] ∧ NumR mm b (orgK L x) := by
        intro x hx hx2
        obtain ⟨b, h1, h2⟩ := hR x hx hx2
        exact ⟨b, by rw [hRV, allV_get (x := some (b, orgK L x)) (by rw [List.getElem?_append_left (by omega)]; exact h1)]; rfl, h2⟩
      rw [← hRV]
      refine w_callF Try.func40 ?_ (hs := backward_any _ _ _)
      rintro v m5 H5 ⟨rfl, bb, rfl, rfl⟩
      (try (refine st_D59_1 ?_; intros))
      refine WC.persist (b := bb) (by (repeat (first | exact Out.here | apply Out.there))) ?_
      intro m6 hle6 hbb
      have hle06 : mm.le m6 := (hle2.trans hle3).trans hle6
      have hnum : NumsAt bb sa sc 67 d.ps m6 := ⟨hbb, fun w0 H => (hr2 w0 H).le hle06⟩
      have hown6 : ∀ (w1 : World) (H2 : SHeap), RowR w1 m6 H2 1 a9 (strs (toks d.t)) := fun w1 H2 => (hown w1 H2).le hle6
      have hips := hps i d hd
      refine WC.heap (H' := .row (some ⟨bo, 0, none⟩) n0 3 1 (nums (List.replicate n0 i)) :: .blk b2 (.cells [.pointer (some ⟨bh, 0, none⟩)].toArray 24 (0, 0)) :: .blk bh (.cells [.slice (some a0) L.length cap, .map (some bm)].toArray 66 (0, 0)) :: .row (some a0) cap 71 3 E :: .blk b8 (.cells [.int .i64 (d.h : Int), .slice sa d.ps.length sc, str d.t].toArray 71 (0, 0)) :: .blk bq (mapO .i64 (lnM LK)) :: .blk b5 (.cells [.slice (some ⟨ba, 0, none⟩) (k + 1) (k + 1)].toArray 110 (0, 0)) :: .blk b7 (.cells [.int .i64 (i : Int)].toArray 3 (0, 0)) :: .blk b9 (.cells [.slice a9 n0 cp9].toArray 26 (0, 0)) :: .row (some ⟨ba, 0, none⟩) (k + 1) 67 1 RV :: (List.map dfr Ds ++ H)) zpk ?_
      refine WC.rangeFuncM (encs := fun x : Nat × Nat => [.int .i64 (x.2 : Int), .int .i64 (x.1 : Int)]) (xs := backs d.ps) (Cap := NumsAt bb sa sc 67 d.ps) (lb := [.pointer (some ⟨bb, 0, none⟩)]) (ps := [51, 52]) (Hc := List.map dfr Ds ++ H)
        (J := fun pre m' Hl => m6.le m' ∧ Hl = .row (some ⟨bo, 0, none⟩) n0 3 1 (nums ((pre.map (·.1)).foldl (orgStep L (orgK L) i) (List.replicate n0 i))) :: .blk b2 (.cells [.pointer (some ⟨bh, 0, none⟩)].toArray 24 (0, 0)) :: .blk bh (.cells [.slice (some a0) L.length cap, .map (some bm)].toArray 66 (0, 0)) :: .row (some a0) cap 71 3 E :: .blk b8 (.cells [.int .i64 (d.h : Int), .slice sa d.ps.length sc, str d.t].toArray 71 (0, 0)) :: .blk bq (mapO .i64 (lnM LK)) :: .blk b5 (.cells [.slice (some ⟨ba, 0, none⟩) (k + 1) (k + 1)].toArray 110 (0, 0)) :: .blk b7 (.cells [.int .i64 (i : Int)].toArray 3 (0, 0)) :: .blk b9 (.cells [.slice a9 n0 cp9].toArray 26 (0, 0)) :: .row (some ⟨ba, 0, none⟩) (k + 1) 67 1 RV :: []) (Jx := fun _ _ _ _ => False)
        rfl Try.func55 rfl rfl (backward_seq (by omega) bb) hnum (fun _ => rfl) rfl (fun _ _ _ _ h hm => ⟨h.1.trans hm, h.2⟩) (fun _ _ _ _ _ h _ => h) (.cons (.cons (.cons (.cons (.cons (.cons (.cons (.cons (.cons (.cons .nil)))))))))) ⟨Mem.le.refl _, rfl⟩ ?_ ?_ ?_
      · rintro lp pre ⟨p, q⟩ post hx m7 Hl ⟨hle7, rfl⟩ hm7 Hfr hfr
        have hpm : p ∈ d.ps := by
          have h1 : (p, q) ∈ backs d.ps := by rw [hx]; simp
          exact List.fst_mem_of_mem_zipIdx (List.mem_reverse.1 h1)
        have hpi : p < i := hpar.1 p hpm
        obtain ⟨dp, hdp⟩ : ∃ dp, L[p]? = some dp := ⟨_, List.getElem?_eq_getElem (by omega)⟩
        have hparp := hok.par p dp hdp
        have hgp : E[p]? = some [.int .i64 (dp.h : Int), dp.v, str dp.t] := by rw [← hE]; exact drs_get hdp
        have hpLK : p ∈ LK := by rw [← hLK]; exact lineK_up hf (by rw [hLK]; exact hin) (by rw [parsOf_at hd]; exact hpm)
        obtain ⟨bp, hRp1, hRp2⟩ := hRVp p hpi hpLK
        obtain ⟨O, hO⟩ : ∃ O, O = (pre.map (·.1)).foldl (orgStep L (orgK L) i) (List.replicate n0 i) := ⟨_, rfl⟩
        have hOl : O.length = n0 := by rw [hO, orgFold_length, List.length_replicate]
        obtain ⟨M, hM⟩ : ∃ M, M = matchL (toks dp.t) (toks d.t) := ⟨_, rfl⟩
        have hMok := match_ok (toks dp.t) (toks d.t)
        rw [← hM] at hMok
        have hOn : ((pre ++ [(p, q)]).map (·.1)).foldl (orgStep L (orgK L) i) (List.replicate n0 i) = setAll (orgK L p) M O := by
          rw [List.map_append, List.foldl_append, ← hO, hM, ← txOf_at hdp, ← txOf_at hd]; rfl
        have hpt := toks_length dp.t
        have hKl := orgK_length L p
        rw [txOf_at hdp] at hKl
        rw [← hO]
        (try (refine st_D59_1 ?_; intros))
        refine WQ.assigned (.cons (.cons (.cons (.cons (.cons (.cons (.cons (.cons (.cons (.cons .nil)))))))))) (Mem.le.refl _) ?_
        intro Hfr2
        (try (refine st_D59_1 ?_; intros))
        simp only [List.cons_append, List.nil_append]
        refine WC.drawE 13 ([.blk b2 (.cells [.pointer (some ⟨bh, 0, none⟩)].toArray 24 (0, 0)), .blk bh (.cells [.slice (some a0) L.length cap, .map (some bm)].toArray 66 (0, 0)), .row (some a0) cap 71 3 E, .blk b9 (.cells [.slice a9 n0 cp9].toArray 26 (0, 0))]) (.row (some ⟨bo, 0, none⟩) n0 3 1 (nums O) :: .blk b8 (.cells [.int .i64 (d.h : Int), .slice sa d.ps.length sc, str d.t].toArray 71 (0, 0)) :: .blk bq (mapO .i64 (lnM LK)) :: .blk b5 (.cells [.slice (some ⟨ba, 0, none⟩) (k + 1) (k + 1)].toArray 110 (0, 0)) :: .blk b7 (.cells [.int .i64 (i : Int)].toArray 3 (0, 0)) :: .row (some ⟨ba, 0, none⟩) (k + 1) 67 1 RV :: Hfr2) rfl (by decide +kernel) zpk ?_
        (refine cm_D59_1 ?_)
        refine WE.act1 8 (by decide +kernel) rfl rfl (fun c h => by cases h) ?_
        refine w_callF Try.func21 ?_ (hs := toks_any dp.t (by omega) _ _ _)
        rintro v m8 H8 ⟨hle8, a61, cp61, rfl, rfl⟩
        (try (refine st_D59_1 ?_; intros))
        refine WQ.acted (B := [.row a61 cp61 9 1 (strs (toks dp.t))]) (U := .row (some ⟨bo, 0, none⟩) n0 3 1 (nums O) :: .blk b8 (.cells [.int .i64 (d.h : Int), .slice sa d.ps.length sc, str d.t].toArray 71 (0, 0)) :: .blk bq (mapO .i64 (lnM LK)) :: .blk b5 (.cells [.slice (some ⟨ba, 0, none⟩) (k + 1) (k + 1)].toArray 110 (0, 0)) :: .blk b7 (.cells [.int .i64 (i : Int)].toArray 3 (0, 0)) :: .row (some ⟨ba, 0, none⟩) (k + 1) 67 1 RV :: Hfr2) rfl hle8 zpk ?_
        (refine cm_D59_1 ?_)
        refine WE.act1 10 (by decide +kernel) rfl rfl (fun c h => by cases h) ?_
        refine WL.rowCap (a := a61) (cap := cp61) (T := 9) (sz := 1) (es := strs (toks dp.t)) zhs ?_
        intro hc61
        have hst61 : (strs (toks dp.t)).length = (toks dp.t).length := by simp [strs]
        rw [hn0e]
        refine w_callF Try.func31 ?_ (hs := match_any (by omega) (by omega) (by omega) (by omega) (RowR.row zhs) ((hown6 _ _).le (hle7.trans hle8)))
        rintro v m9 H9 ⟨rfl, am, cpm, rfl, rfl⟩
        rw [← hn0e, ← hM]
        (try (refine st_D59_1 ?_; intros))
        refine WQ.acted (B := [.row am cpm 93 2 (M.map prE)]) (U := .row (some ⟨bo, 0, none⟩) n0 3 1 (nums O) :: .blk b8 (.cells [.int .i64 (d.h : Int), .slice sa d.ps.length sc, str d.t].toArray 71 (0, 0)) :: .blk bq (mapO .i64 (lnM LK)) :: .blk b5 (.cells [.slice (some ⟨ba, 0, none⟩) (k + 1) (k + 1)].toArray 110 (0, 0)) :: .blk b7 (.cells [.int .i64 (i : Int)].toArray 3 (0, 0)) :: .row (some ⟨ba, 0, none⟩) (k + 1) 67 1 RV :: Hfr2) rfl (Mem.le.refl _) zpk ?_
        (refine cm_D59_1 ?_)
        refine WE.done (by decide +kernel) ?_
        (try (refine st_D59_1 ?_; intros))
        have hMl : M.length ≤ 65536 := by have := hMok.len; omega
        refine WC.weak zsb zpk (org_fill (Hr := .blk b2 (.cells [.pointer (some ⟨bh, 0, none⟩)].toArray 24 (0, 0)) :: .blk bh (.cells [.slice (some a0) L.length cap, .map (some bm)].toArray 66 (0, 0)) :: .row (some a0) cap 71 3 E :: .blk b9 (.cells [.slice a9 n0 cp9].toArray 26 (0, 0)) :: .blk b8 (.cells [.int .i64 (d.h : Int), .slice sa d.ps.length sc, str d.t].toArray 71 (0, 0)) :: .blk bq (mapO .i64 (lnM LK)) :: Hfr2)
          (by rw [hKl, hOl, hn0e]; exact hMok) hMl hRVl hi (by omega) hOl hRVi hRp1 (hRp2.le ((hle06.trans hle7).trans hle8)) ?_)
        (try (refine st_D59_1 ?_; intros))
        refine WQ.roundOn (Hl := .row (some ⟨bo, 0, none⟩) n0 3 1 (nums (setAll (orgK L p) M O)) :: .blk b2 (.cells [.pointer (some ⟨bh, 0, none⟩)].toArray 24 (0, 0)) :: .blk bh (.cells [.slice (some a0) L.length cap, .map (some bm)].toArray 66 (0, 0)) :: .row (some a0) cap 71 3 E :: .blk b8 (.cells [.int .i64 (d.h : Int), .slice sa d.ps.length sc, str d.t].toArray 71 (0, 0)) :: .blk bq (mapO .i64 (lnM LK)) :: .blk b5 (.cells [.slice (some ⟨ba, 0, none⟩) (k + 1) (k + 1)].toArray 110 (0, 0)) :: .blk b7 (.cells [.int .i64 (i : Int)].toArray 3 (0, 0)) :: .blk b9 (.cells [.slice a9 n0 cp9].toArray 26 (0, 0)) :: .row (some ⟨ba, 0, none⟩) (k + 1) 67 1 RV :: []) zpk hle8 ⟨hle7.trans hle8, ?_⟩
        rw [hOn]
      · rintro D m7 Hl ⟨hle7, rfl⟩ hm7
        have hb1 : (backs d.ps).map (·.1) = d.ps.reverse := by unfold backs; rw [List.map_reverse]; simp
        have hfold : (d.ps.reverse).foldl (orgStep L (orgK L) i) (List.replicate n0 i) = orgK L i := by rw [orgK_eq hf i, parsOf_at hd, txOf_at hd, hn0e]
        have hKl := orgK_length L i
        rw [txOf_at hd] at hKl
        have hRV2 : RV = allV (R ++ [some (bo, orgK L i)]) (k + 1) := by
          rw [hRV]; unfold allV
          rw [List.map_append, List.map_append]
          simp [roV, hKl, hn0e]
        rw [hb1, hfold]
        simp only [List.cons_append, List.nil_append]
        refine WQ.persistRow (a := some ⟨bo, 0, none⟩) (by (repeat (first | exact Out.here | apply Out.there))) ?_
        intro m8 hle8 hO
        rw [hRV2]
        rw [show Item.blk D (.deferred (some [])) :: (List.map dfr Ds ++ H) = List.map dfr (D :: Ds) ++ H from rfl]
        (try (refine st_D59_1 ?_; intros))
        refine WQ.next (k + 1 - (i + 1)) ⟨i + 1, m8, D :: Ds, R ++ [some (bo, orgK L i)], rfl, rfl, rfl, rfl, rfl, ?_, ?_, ?_, ?_⟩ (by omega) zsb zpk
        · omega
        · simp [hRl]
        · intro x hx hx2
          by_cases hxi : x < i
          · obtain ⟨b, h1, h2⟩ := hR x hxi hx2
            exact ⟨b, by rw [List.getElem?_append_left (by omega)]; exact h1, h2.le ((hle06.trans hle7).trans hle8)⟩
          · obtain rfl : x = i := by omega
            exact ⟨bo, by rw [← hRl, List.getElem?_append_right (Nat.le_refl _), Nat.sub_self]; rfl, hO⟩
        · exact ((hle.trans hle06).trans hle7).trans hle8
      · rintro D c pre m7 Hl _ h _
        exact h.elim
    · rw [if_neg hin]
      simp only [Option.getD_none]
      have hn := allV_none (R := R) (k := k + 1) (by omega)
      rw [← hn]
      (try (refine st_D59_1 ?_; intros))
      refine WQ.next (k + 1 - (i + 1)) ⟨i + 1, mm, Ds, R ++ [none], rfl, rfl, rfl, rfl, rfl, ?_, ?_, ?_, ?_⟩ (by omega) zsb zpk
      · omega
      · simp [hRl]
      · intro x hx hx2
        have hxi : x ≠ i := fun e => hin (e ▸ hx2)
        obtain ⟨b, h1, h2⟩ := hR x (by omega) hx2
        exact ⟨b, by rw [List.getElem?_append_left (by omega)]; exact h1, h2⟩
      · exact hle
  · obtain rfl : i = k + 1 := by omega
    have hkin : k ∈ LK := by rw [← hLK]; exact (lineK_mem hf).2 (.self k)
    obtain ⟨b, h1, h2⟩ := hR k (by omega) hkin
    have hg := allV_get (k := k + 1) h1
    generalize allV R (k + 1) = AV at *
    (try (refine st_D59_1 ?_; intros))
    refine WQ.heapX (H' := List.map dfr Ds ++ (.blk bh (.cells [.slice a L.length cap, .map (some bm)].toArray 66 (0, 0)) :: .row a cap 71 3 (drs L) :: H)) ?_ ?_
    · intro w hw
      have h9 := (zpk : ∀ w, Sat w0 mm _ w → Sat w0 mm (.blk bh (.cells [.slice a L.length cap, .map (some bm)].toArray 66 (0, 0)) :: .row a cap 71 3 (drs L) :: (List.map dfr Ds ++ H)) w) w hw
      exact h9.perm (List.perm_append_comm_assoc [_, _] (List.map dfr Ds) H)
    refine WQ.marks (H1 := .blk bh (.cells [.slice a L.length cap, .map (some bm)].toArray 66 (0, 0)) :: .row a cap 71 3 (drs L) :: H) (List.Perm.refl _) ?_
    exact q_fin0 (H0 := .blk bh (.cells [.slice a L.length cap, .map (some bm)].toArray 66 (0, 0)) :: .row a cap 71 3 (drs L) :: H) ⟨hle, b, rfl, h2, rfl⟩ (hd := zpk)
end Go.Proofs.Ytgckeelnhafgaaa

/-
  The walk of a history's Origins. No condition.
-/
namespace Go.Eng
open Go
def Og.cs (x : Og) : List Value := [.int .i64 (x.a : Int), .int .i64 (x.z : Int), .int .i64 (x.d : Int)]
def ogs (G : Gp) : List (List Value) := (ogL 0 G).map Og.cs
theorem ogs_length (G : Gp) : (ogs G).length = G.length := by unfold ogs; rw [List.length_map, ogL_length]
theorem ogs_snoc (F : Gp) (g : List (List UInt8) × Nat) : ogs (F ++ [g]) = ogs F ++ [[Value.int .i64 (Gp.size F : Int), Value.int .i64 ((Gp.size F + g.1.flatten.length : Nat) : Int), Value.int .i64 (g.2 : Int)]] := by
  unfold ogs
  rw [ogL_app, List.map_append, Nat.zero_add]; rfl
theorem ogs_last (F : Gp) (g : List (List UInt8) × Nat) : (ogs (F ++ [g]))[F.length]? = some [Value.int .i64 (Gp.size F : Int), Value.int .i64 ((Gp.size F + g.1.flatten.length : Nat) : Int), Value.int .i64 (g.2 : Int)] := by
  rw [ogs_snoc, List.getElem?_append_right (by rw [ogs_length]; exact Nat.le_refl _), ogs_length, Nat.sub_self]; rfl
theorem ogs_set (F : Gp) (g h : List (List UInt8) × Nat) (e : h.2 = g.2) : (ogs (F ++ [g])).set F.length [Value.int .i64 (Gp.size F : Int), Value.int .i64 ((Gp.size F + h.1.flatten.length : Nat) : Int), Value.int .i64 (g.2 : Int)] = ogs (F ++ [h]) := by
  rw [ogs_snoc, ogs_snoc, List.set_append_right _ _ (by rw [ogs_length]; exact Nat.le_refl _), ogs_length, Nat.sub_self, e]; rfl
theorem ogs_new (G : Gp) (t : List UInt8) (d z : Nat) (hz : z = Gp.size G + t.length) : (ogs G ++ [[Value.int .i64 (Gp.size G : Int), Value.int .i64 0, Value.int .i64 (d : Int)]]).set G.length [Value.int .i64 (Gp.size G : Int), Value.int .i64 (z : Int), Value.int .i64 (d : Int)] = ogs (G ++ [([t], d)]) := by
  rw [ogs_snoc, List.set_append_right _ _ (by rw [ogs_length]; exact Nat.le_refl _), ogs_length, Nat.sub_self, hz]
  simp
theorem gAdd_len (G : Gp) (x : List UInt8 × Nat) : (gAdd G x).length ≤ G.length + 1 := by
  obtain ⟨t, e⟩ := x
  rcases List.eq_nil_or_concat G with rfl | ⟨F, ⟨ts, d⟩, rfl⟩
  · rw [gAdd_nil]; simp
  · rw [List.concat_eq_append]
    by_cases h : d = e
    · subst h; rw [gAdd_same]; simp
    · rw [gAdd_new h]; simp
theorem gOf_len (Z : List (List UInt8 × Nat)) : (gOf Z).length ≤ Z.length := by
  have h : ∀ (Z : List (List UInt8 × Nat)) (G : Gp), (Z.foldl gAdd G).length ≤ G.length + Z.length := by
    intro Z
    induction Z with
    | nil => intro G; exact Nat.le_refl _
    | cons x Z ih =>
      intro G
      rw [List.foldl_cons]
      have := ih (gAdd G x)
      have := gAdd_len G x
      rw [List.length_cons]; omega
  have := h Z []
  rw [List.length_nil, Nat.zero_add] at this
  exact this
theorem size_take (L : List Dr) (k i : Nat) : Gp.size (gOf ((orgZ L k).take i)) = ((toks (txOf L k)).take i).flatten.length := by
  rw [size_texts, ← (gOf_ok _).texts, List.map_take, orgZ_texts]
theorem flatten_take_le (l : List (List UInt8)) (i : Nat) : (l.take i).flatten.length ≤ l.flatten.length := by
  have : l.flatten = (l.take i).flatten ++ (l.drop i).flatten := by rw [← List.flatten_append, List.take_append_drop]
  rw [this, List.length_append]; omega
theorem Gp.size_snoc (F : Gp) (g : List (List UInt8) × Nat) : Gp.size (F ++ [g]) = Gp.size F + g.1.flatten.length := by unfold Gp.size; simp
end Go.Eng
namespace Go.Proofs.Ytgckeelnhafgaaa
open Go Go.Eng
set_option maxRecDepth 100000
set_option maxHeartbeats 4000000
set_option linter.all false
attribute [local irreducible] WL WC WQ QFun QLoop Does Q1 QRound QAssign Go.Addr.add
attribute [local irreducible] orgK toks orgZ gOf ogs
theorem originsIn_any {bh bm cap c : Nat} {B : Br} {a : Option Addr} {L : List Dr} {k : Nat} (hk : k < L.length) (w0 : World) (m : Mem) (H : SHeap) (hok : HsOk m L B c) :
    Does Try.prog 8 #[.pointer (some ⟨bh, 0, none⟩), .int .i64 (k : Int)] w0 m (.blk bh (.cells [.slice a L.length cap, .map (some bm)].toArray 66 (0, 0)) :: .row a cap 71 3 (drs L) :: H) (fun v m' H' => m.le m' ∧ ∃ al cl, v = .tuple #[.slice al (orgG L k).length cl, .int .i64 0] ∧ H' = .row al cl 41 3 (ogs (orgG L k)) :: .blk bh (.cells [.slice a L.length cap, .map (some bm)].toArray 66 (0, 0)) :: .row a cap 71 3 (drs L) :: H) := by
  refine Does.of_body (args := [.pointer (some ⟨bh, 0, none⟩), .int .i64 (k : Int)]) Try.func8 rfl Try.ntmps8 rfl ?_
  obtain ⟨d, hd⟩ : ∃ d, L[k]? = some d := ⟨_, List.getElem?_eq_getElem hk⟩
  obtain ⟨sa, sc, hv, hr⟩ := hok.at_ d (List.mem_of_getElem? hd)
  have hpar := hok.par k d hd
  have hZt := orgZ_texts L k
  have hZl := orgZ_length L k
  have hKl := orgK_length L k
  have htx := txOf_at hd
  rw [htx] at hZt hZl hKl
  have htl := toks_length d.t
  (try (refine st ?_; intros))
  refine w_callF Try.func19 ?_ (hs := atIn_any hd hv _ _ _)
  rintro v m H1 ⟨rfl, rfl, rfl⟩
  unfold drE
  rw [hv]
  (refine st ?_; intros; rename_i b6)
  refine WL.heap (H' := .blk bh (.cells [.slice a L.length cap, .map (some bm)].toArray 66 (0, 0)) :: .row a cap 71 3 (drs L) :: .blk b6 (.cells [.int .i64 (d.h : Int), .slice sa d.ps.length sc, str d.t].toArray 71 (0, 0)) :: H) zpk ?_
  refine w_callF Try.func20 ?_ (hs := origins_any hk _ _ _ hok)
  rintro v m1 H1 ⟨hle1, bo, rfl, hO, rfl⟩
  (try (refine st ?_; intros))
  refine w_callF Try.func21 ?_ (hs := toks_any d.t (by omega) _ _ _)
  rintro v m2 H2 ⟨hle2, a9, cp9, rfl, rfl⟩
  (try (refine st ?_; intros))
  have hO2 := hO.le hle2
  unfold NumR at hO2
  have hnK := nums_length (orgK L k)
  have hst : (strs (toks d.t)).length = (toks d.t).length := by simp [strs]
  refine WC.newRow (T := 41) (sz := 3) ?_
  refine WC.loopH [(30, .int .i64 ((0) : Int)), (29, .int .i64 ((toks d.t).length : Int)), (28, .slice a9 (toks d.t).length cp9), (10, .slice (some ⟨bo, 0, none⟩) (orgK L k).length (orgK L k).length), (9, .int .i64 (0)), (8, .slice (none) (0) (0))] ?_ ?_ (fun j r ds m' H' => ∃ (i : Nat) (al : Option Addr) (cl : Nat) (z : Int) (g : Nat) (G : Gp) (E : List (List Value)), j = (toks d.t).length - i ∧ r = [(30, .int .i64 (i : Int)), (29, .int .i64 ((toks d.t).length : Int)), (28, .slice a9 (toks d.t).length cp9), (10, .slice (some ⟨bo, 0, none⟩) (orgK L k).length (orgK L k).length), (9, .int .i64 z), (8, .slice al g cl)] ∧ ds = [] ∧ m2 = m' ∧ H' = .row al cl 41 3 E :: .row a9 cp9 9 1 (strs (toks d.t)) :: .blk bh (.cells [.slice a L.length cap, .map (some bm)].toArray 66 (0, 0)) :: .row a cap 71 3 (drs L) :: .blk b6 (.cells [.int .i64 (d.h : Int), .slice sa d.ps.length sc, str d.t].toArray 71 (0, 0)) :: H ∧ (i ≤ (toks d.t).length) ∧ (G = gOf ((orgZ L k).take i)) ∧ (E = ogs G) ∧ (z = (Gp.size G : Int)) ∧ (g = G.length)) ((toks d.t).length - (0)) ⟨0, none, 0, 0, 0, [], [], rfl, rfl, rfl, rfl, rfl, by omega, by unfold gOf; rfl, by unfold ogs; rfl, rfl, rfl⟩ ?_
  · (repeat (first | exact Env.Sub.nil | refine Env.Sub.cons rfl ?_))
  · exact zpk
  rintro j r ds m' H' ⟨i, al, cl, z, g, G, E, rfl, rfl, rfl, rfl, rfl, hi, hG, hE, hz, hg⟩
  have hsz : Gp.size G ≤ d.t.length := by
    rw [hG, size_take, htx]
    exact Nat.le_trans (flatten_take_le _ _) (by rw [toks_join]; exact Nat.le_refl _)
  have hGl : G.length ≤ i := by rw [hG]; exact Nat.le_trans (gOf_len _) (by rw [List.length_take]; omega)
  have hEl : E.length = G.length := by rw [hE, ogs_length]
  by_cases hlt : i < (toks d.t).length
  · obtain ⟨t, ht⟩ : ∃ t, (toks d.t)[i]? = some t := ⟨_, List.getElem?_eq_getElem hlt⟩
    obtain ⟨o, ho⟩ : ∃ o, (orgK L k)[i]? = some o := ⟨_, List.getElem?_eq_getElem (by omega)⟩
    have hgt : (strs (toks d.t))[i]? = some [str t] := by unfold strs; rw [List.getElem?_map, ht]; rfl
    have hgo := nums_get ho
    have hzi : (orgZ L k)[i]? = some (t, o) := by
      unfold orgZ
      rw [htx, List.getElem?_zip_eq_some]
      exact ⟨ht, ho⟩
    have hG1 : gOf ((orgZ L k).take (i + 1)) = gAdd G (t, o) := by rw [List.take_succ, hzi, hG]; exact gOf_snoc _ _
    have hz1 : Gp.size (gAdd G (t, o)) = Gp.size G + t.length := by
      rw [← hG1, hG, size_take, size_take, htx, List.take_succ, ht, List.flatten_append, List.length_append]; simp
    have hz2 : Gp.size (gAdd G (t, o)) ≤ d.t.length := by
      rw [← hG1, size_take, htx]
      exact Nat.le_trans (flatten_take_le _ _) (by rw [toks_join]; exact Nat.le_refl _)
    generalize strs (toks d.t) = ST at *
    generalize nums (orgK L k) = NK at *
    refine WC.rowSome (a := a9) zhs (by omega) ?_
    rintro a9 rfl
    obtain ⟨gs, hgs⟩ : ∃ gs, gs = Gp.size G := ⟨_, rfl⟩
    rw [← hgs] at hz hz1 hsz
    have hrk := hO2 w0 (.row al cl 41 3 E :: .row (some a9) cp9 9 1 ST :: .blk bh (.cells [.slice a L.length cap, .map (some bm)].toArray 66 (0, 0)) :: .row a cap 71 3 (drs L) :: .blk b6 (.cells [.int .i64 (d.h : Int), .slice sa d.ps.length sc, str d.t].toArray 71 (0, 0)) :: H)
    rcases List.eq_nil_or_concat G with rfl | ⟨F, ⟨ts, d0⟩, rfl⟩
    · have hg0 : g = 0 := hg
      subst hg0
      have hgs0 : gs = 0 := hgs
      have hEl0 : E.length = 0 := hEl
      (refine st ?_; intros; rename_i b8 a8 c8)
      refine WL.rowSome (a := a8) zhs (by simp) ?_
      rintro a8 rfl
      have hel : (E ++ [[Value.int .i64 z, .int .i64 0, .int .i64 (o : Int)]])[E.length + 1 - 1]? = some [Value.int .i64 z, .int .i64 0, .int .i64 (o : Int)] := by simp
      (try (refine st ?_; intros))
      have hfin : (E ++ [[Value.int .i64 z, .int .i64 0, .int .i64 (o : Int)]]).set (E.length + 1 - 1) [Value.int .i64 z, .int .i64 (z + (t.length : Int)), .int .i64 (o : Int)] = ogs [([t], o)] := by
        have := ogs_new [] t o t.length (by show t.length = 0 + t.length; omega)
        rw [← hE, show Gp.size [] = 0 from rfl] at this
        rw [hz, hgs0, hEl0]
        simpa using this
      rw [hfin]
      refine WQ.next ((toks d.t).length - (i + 1)) ⟨i + 1, some a8, c8, z + (t.length : Int), E.length + 1, [([t], o)], ogs [([t], o)], rfl, rfl, rfl, rfl, rfl, ?_, ?_, ?_, ?_, ?_⟩ (by omega) zsb zpk
      · omega
      · rw [hG1]; rfl
      · rfl
      · rw [← gAdd_nil (t, o), hz1]; omega
      · rw [hEl0]; rfl
    · rw [List.concat_eq_append] at *
      have hgl := ogs_last F (ts, d0)
      have hgl2 := ogs_set F (ts, d0) (ts ++ [t], d0) rfl
      have hgl3 := ogs_new (F ++ [(ts, d0)]) t o
      rw [← hE] at hgl hgl2 hgl3
      simp only at hgl hgl2
      have hgF : g = F.length + 1 := by rw [hg, List.length_append, List.length_singleton]
      have hEF : E.length = F.length + 1 := by rw [hEl, List.length_append, List.length_singleton]
      rw [List.length_append, List.length_singleton] at hgl3
      subst hgF
      refine WC.rowSome (a := al) zhs (by omega) ?_
      rintro al rfl
      have hrk := hO2 w0 (.row (some al) cl 41 3 E :: .row (some a9) cp9 9 1 ST :: .blk bh (.cells [.slice a L.length cap, .map (some bm)].toArray 66 (0, 0)) :: .row a cap 71 3 (drs L) :: .blk b6 (.cells [.int .i64 (d.h : Int), .slice sa d.ps.length sc, str d.t].toArray 71 (0, 0)) :: H)
      have hF1 : F.length + 1 - 1 = F.length := by omega
      by_cases hs : d0 = o
      · subst hs
        (try (refine st ?_; intros))
        rw [hF1]
        have hz3 : Gp.size F + (ts ++ [t]).flatten.length = gs + t.length := by
          rw [hgs, Gp.size_snoc]; simp; omega
        have hz4 : z + (t.length : Int) = ((gs + t.length : Nat) : Int) := by omega
        rw [hz3] at hgl2
        rw [hz4, hgl2]
        refine WQ.next ((toks d.t).length - (i + 1)) ⟨i + 1, some al, cl, ((gs + t.length : Nat) : Int), F.length + 1, F ++ [(ts ++ [t], d0)], ogs (F ++ [(ts ++ [t], d0)]), rfl, rfl, rfl, rfl, rfl, ?_, ?_, ?_, ?_, ?_⟩ (by omega) zsb zpk
        · omega
        · rw [hG1, gAdd_same]
        · rfl
        · rw [← gAdd_same, hz1]
        · simp
      · (refine st ?_; intros; rename_i b8 a8 c8)
        refine WL.rowSome (a := a8) zhs (by simp) ?_
        rintro a8 rfl
        have hel : (E ++ [[Value.int .i64 z, .int .i64 0, .int .i64 (o : Int)]])[E.length + 1 - 1]? = some [Value.int .i64 z, .int .i64 0, .int .i64 (o : Int)] := by simp
        (try (refine st ?_; intros))
        have hfin : (E ++ [[Value.int .i64 z, .int .i64 0, .int .i64 (o : Int)]]).set (E.length + 1 - 1) [Value.int .i64 z, .int .i64 (z + (t.length : Int)), .int .i64 (o : Int)] = ogs (F ++ [(ts, d0)] ++ [([t], o)]) := by
          have := hgl3 (gs + t.length) (by rw [hgs])
          rw [hz, show E.length + 1 - 1 = F.length + 1 by omega, show (gs : Int) + (t.length : Int) = ((gs + t.length : Nat) : Int) by omega, hgs]
          rw [hgs] at this
          exact this
        rw [hfin]
        refine WQ.next ((toks d.t).length - (i + 1)) ⟨i + 1, some a8, c8, z + (t.length : Int), E.length + 1, F ++ [(ts, d0)] ++ [([t], o)], ogs (F ++ [(ts, d0)] ++ [([t], o)]), rfl, rfl, rfl, rfl, rfl, ?_, ?_, ?_, ?_, ?_⟩ (by omega) zsb zpk
        · omega
        · rw [hG1, gAdd_new hs]
        · rfl
        · rw [← gAdd_new hs, hz1]; omega
        · rw [hEF]; simp
  · obtain rfl : i = (toks d.t).length := by omega
    rw [← hZl, List.take_length] at hG
    have hG2 : G = orgG L k := hG
    subst hE
    subst hG2
    subst hg
    (try (refine st ?_; intros))
    exact q_fin0 (H0 := .row al cl 41 3 (ogs (orgG L k)) :: .blk bh (.cells [.slice a L.length cap, .map (some bm)].toArray 66 (0, 0)) :: .row a cap 71 3 (drs L) :: H) ⟨hle1.trans hle2, al, cl, rfl, rfl⟩ (hd := zpk)
end Go.Proofs.Ytgckeelnhafgaaa

/-
  A walk's engine: iterators that read what their caller holds, while the caller's rounds may change it. No condition.
-/
set_option linter.all false
namespace Go.Eng
open Go Go.RowKit
/-- an iterator that hands over xs, one after the other; what the loop keeps (J) tells it what it reads (R) -/
def SeqR {α : Type} (P : Program) (gf : FuncId) (lb : List Value) (encs : α → List Value) (xs : List α) (R : List α → Mem → SHeap → Prop) : Prop :=
  ∀ (w0 : World) (l : Nat) (J Jx : List α → Mem → SHeap → Prop) (m : Mem) (H : SHeap), (∀ pre m m' H, J pre m H → m.le m' → J pre m' H) → (∀ pre m m' H, Jx pre m H → m.le m' → Jx pre m' H) →
    (∀ pre m H, J pre m H → R pre m H) → J [] m H →
    (∀ pre x post, xs = pre ++ x :: post → ∀ m1 H1 Hit, J pre m1 H1 → m.le m1 →
      YieldOK P w0 l (encs x).toArray m1 (Hit ++ H1) (fun m' H' => ∃ H2, H' = Hit ++ H2 ∧ J (pre ++ [x]) m' H2 ∧ m1.le m') (fun m' H' => ∃ H2, H' = Hit ++ H2 ∧ Jx (pre ++ [x]) m' H2 ∧ m1.le m')) →
    Does P gf (.func (.yield l) #[] #[] :: lb).toArray w0 m H (fun _ m' H' => m.le m' ∧ (J xs m' H' ∨ ∃ pre, pre <+: xs ∧ Jx pre m' H'))
section
variable {P : Program} {ro : Option Nat} {n : Nat} {w0 : World} {Q : Exit → Act → World → Prop} {r : Env} {ds : List Dfr} {m : Mem} {H : SHeap}
  {ops : Array Oper} {l : List Oper} {d : Nat} {ty : TypeId} {pos : String} {after : Array Edge}
theorem range_coreR {α : Type} {gf : FuncId} {lb : List Value} {encs : α → List Value} {xs : List α} {R : List α → Mem → SHeap → Prop} {ps : List Nat} {assign body : Code} {fnd : FuncId} {tmps : Array Value} {L D : Nat} {Hb : SHeap}
    (hseq : SeqR P gf lb encs xs R) (hps : ∀ x, (encs x).length = ps.length) (hpn : ∀ p ∈ ps, p < n) (hok : r.ok n tmps)
    (J : List α → Mem → SHeap → Prop) (Jx : Code → List α → Mem → SHeap → Prop) (hmJ : ∀ pre m m' Hl, J pre m Hl → m.le m' → J pre m' Hl) (hRJ : ∀ pre m Hl i, J pre m Hl → R pre m (i :: (Hl ++ Hb))) (hmX : ∀ c pre m m' Hl, Jx c pre m Hl → m.le m' → Jx c pre m' Hl) {Hl0 : SHeap} (h0 : J [] m Hl0)
    (hround : ∀ lp pre x post, xs = pre ++ x :: post → ∀ m1 Hl, J pre m1 Hl → m.le m1 → ∀ Hfr, (∃ rec, Item.blk lp (.loop rec) ∈ Hfr ∧ rec.defers = D) → WC P (some lp) n w0 assign (QAssign P n w0 lp body J Jx (pre ++ [x]) m1 Hfr) (Env.given ps (encs x) r) [] m1 (Hl ++ Hfr))
    {w : World} (hs : Sat w0 m (.blk L (.loop { state := .ready, pending := none, fn := fnd, tmps := tmps, params := ps.toArray, assign := assign, body := body, defers := D }) :: (Hl0 ++ Hb)) w) :
    CallsIn (FW none) 0 P gf (.func (.yield L) #[] #[] :: lb).toArray w fun e w' => ∃ v m', e = .returned v ∧ m.le m' ∧
      ((∃ Hl, J xs m' Hl ∧ Sat w0 m' (.blk L (.loop { state := .ready, pending := none, fn := fnd, tmps := tmps, params := ps.toArray, assign := assign, body := body, defers := D }) :: (Hl ++ Hb)) w') ∨
       (∃ c pre Hl, pre <+: xs ∧ Jx c pre m' Hl ∧ Sat w0 m' (.blk L (.loop { state := .done, pending := some c, fn := fnd, tmps := tmps, params := ps.toArray, assign := assign, body := body, defers := D }) :: (Hl ++ Hb)) w')) := by
  obtain ⟨rec, hrec⟩ : ∃ rec : LoopState → Option Code → Loop, rec = fun st pe => { state := st, pending := pe, fn := fnd, tmps := tmps, params := ps.toArray, assign := assign, body := body, defers := D } := ⟨_, rfl⟩
  have hs1 : Sat w0 m (.blk L (.loop (rec .ready none)) :: (Hl0 ++ Hb)) w := by rw [hrec]; exact hs
  have := hseq w0 L (fun pre m H => ∃ Hl, H = .blk L (.loop (rec .ready none)) :: (Hl ++ Hb) ∧ J pre m Hl)
    (fun pre m H => ∃ c Hl, H = .blk L (.loop (rec .done (some c))) :: (Hl ++ Hb) ∧ Jx c pre m Hl) m _ (fun _ _ _ _ ⟨Hl, e, h⟩ hm => ⟨Hl, e, hmJ _ _ _ _ h hm⟩) (fun _ _ _ _ ⟨c, Hl, e, h⟩ hm => ⟨c, Hl, e, hmX _ _ _ _ _ h hm⟩) (fun pre m H ⟨Hl, e, h⟩ => by rw [e]; exact hRJ _ _ _ _ h) ⟨Hl0, rfl, h0⟩ ?_ w hs1
  · refine this.mono ?_
    rintro e w' ⟨v, m', H', rfl, ⟨hle, hP⟩, hs'⟩
    refine ⟨v, m', rfl, hle, ?_⟩
    rcases hP with ⟨Hl, rfl, hJ⟩ | ⟨pre, hpre, c, Hl, rfl, hJ⟩
    · exact .inl ⟨Hl, hJ, by rw [hrec] at hs'; exact hs'⟩
    · exact .inr ⟨c, pre, Hl, hpre, hJ, by rw [hrec] at hs'; exact hs'⟩
  · rintro pre x post hx m1 H1 Hit ⟨Hl, rfl, hJ⟩ hle W hW
    have hL : W.heap[L]? = some (.loop (rec .ready none)) := hW.own (.blk L _) (by simp)
    have hy := run_yield (P := P) (args := (encs x).toArray) hL (by rw [hrec]; simp [hps x])
    refine ⟨fnd, (ps.zip (encs x)).foldl (fun t (p : Nat × Value) => t.setIfInBounds p.1 p.2) tmps, assign, body, ?_, roundIn_of_wpIn (FW_fn none fnd) ?_⟩
    · rw [hy, hrec]
      congr 2
      simp
    · have hsat1 := hW.perm (perm_round Hit (.blk L (.loop (rec .ready none))) Hl Hb)
      have hr := hround L pre x post hx m1 Hl hJ hle (.blk L (.loop (rec .ready none)) :: (Hb ++ Hit)) ⟨_, List.mem_cons_self, by rw [hrec]⟩ _ W (hok.given ps (encs x) hpn) hsat1
      refine wpIn_mono hr ?_
      intro e a1 W1 hq
      cases e with
      | normal =>
        obtain ⟨r1, m2, Hl1, hok1, hdf, hs2, hle2, hbody⟩ := hq
        have hs2' := hs2.perm (List.perm_middle (a := Item.blk L (.loop (rec .ready none))) (l₁ := Hl1) (l₂ := Hb ++ Hit))
        have hL1 : W1.heap[L]? = some (.loop (rec .ready none)) := hs2'.own _ List.mem_cons_self
        refine ⟨_, run_beginRound hL1 (by rw [hrec]), ?_⟩
        have hs3 := (hs2'.putObj (o' := .loop { rec .ready none with state := .busy })).perm (List.perm_middle (a := Item.blk L (.loop { rec .ready none with state := .busy })) (l₁ := Hl1) (l₂ := Hb ++ Hit)).symm
        obtain ⟨tm1, df1⟩ := a1
        simp only at hdf
        subst hdf
        refine wpIn_mono (hbody (.blk L (.loop { rec .ready none with state := .busy }) :: (Hb ++ Hit)) ⟨_, List.mem_cons_self⟩ tm1 _ hok1 hs3) ?_
        have fin : ∀ (jump : Option Code) (m3 : Mem) (Hl3 : SHeap) (W3 : World), Sat w0 m3 (Hl3 ++ (.blk L (.loop { rec .ready none with state := .busy }) :: (Hb ++ Hit))) W3 →
            ∃ w4, (Instr.endRound L jump).run P W3 = .ok (.bool jump.isNone) w4 ∧ Sat w0 m3 (Hit ++ (.blk L (.loop (rec (if jump.isNone then .ready else .done) jump)) :: (Hl3 ++ Hb))) w4 := by
          intro jump m3 Hl3 W3 hs4
          have hs5 := hs4.perm (List.perm_middle (a := Item.blk L (.loop { rec .ready none with state := .busy })) (l₁ := Hl3) (l₂ := Hb ++ Hit))
          have hL3 : W3.heap[L]? = some (.loop { rec .ready none with state := .busy }) := hs5.own _ List.mem_cons_self
          refine ⟨_, run_endRound jump hL3, ?_⟩
          have hs6 := hs5.putObj (o' := .loop { { rec .ready none with state := .busy } with state := if jump.isNone then .ready else .done, pending := jump })
          have e1 : ({ { rec .ready none with state := .busy } with state := if jump.isNone then .ready else .done, pending := jump } : Loop) = rec (if jump.isNone then .ready else .done) jump := by rw [hrec]
          rw [e1] at hs6
          rw [e1]
          exact hs6.perm ((List.perm_middle (a := Item.blk L (.loop (rec (if jump.isNone then .ready else .done) jump))) (l₁ := Hl3) (l₂ := Hb ++ Hit)).symm.trans (perm_round Hit _ Hl3 Hb).symm)
        intro e3 a3 W3 hq3
        cases e3 with
        | normal =>
          obtain ⟨m3, Hl3, hJ3, hle3, hs4⟩ := hq3
          obtain ⟨w4, h4, hs5⟩ := fin none m3 Hl3 W3 hs4
          exact ⟨_, w4, h4, .inl ⟨rfl, m3, _, ⟨_, rfl, ⟨Hl3, rfl, hJ3⟩, hle3⟩, hs5⟩⟩
        | ret =>
          obtain ⟨m3, Hl3, hJ3, hle3, hs4⟩ := hq3
          obtain ⟨w4, h4, hs5⟩ := fin (some .ret) m3 Hl3 W3 hs4
          exact ⟨_, w4, h4, .inr ⟨rfl, m3, _, ⟨_, rfl, ⟨.ret, Hl3, rfl, hJ3⟩, hle3⟩, hs5⟩⟩
        | exit id =>
          obtain ⟨m3, Hl3, hJ3, hle3, hs4⟩ := hq3
          obtain ⟨w4, h4, hs5⟩ := fin (some (.exit id)) m3 Hl3 W3 hs4
          exact ⟨_, w4, h4, .inr ⟨rfl, m3, _, ⟨_, rfl, ⟨.exit id, Hl3, rfl, hJ3⟩, hle3⟩, hs5⟩⟩
        | goto t =>
          obtain ⟨m3, Hl3, hJ3, hle3, hs4⟩ := hq3
          obtain ⟨w4, h4, hs5⟩ := fin (some (.goto t)) m3 Hl3 W3 hs4
          exact ⟨_, w4, h4, .inr ⟨rfl, m3, _, ⟨_, rfl, ⟨.goto t, Hl3, rfl, hJ3⟩, hle3⟩, hs5⟩⟩
        | panic ch => exact hq3.elim
        | outgrown => exact hq3.elim
      | _ => exact hq.elim
theorem WC.rangeFuncR {α : Type} {g : Operand} {gf : FuncId} {fn : Func} {cb : Code} {lb : List Value} {encs : α → List Value} {xs : List α} {R : List α → Mem → SHeap → Prop} {ps : List Nat} {assign body : Code} {Hl0 Hc : SHeap}
    (hg : r.ev g = some (.func (.func gf) #[] lb.toArray)) (hf : P.funcs[gf]? = some fn) (hname : (fn.name == "runtime.NumGoroutine") = false) (hb : fn.body = some cb)
    (hseq : SeqR P gf lb encs xs R) (hps : ∀ x, (encs x).length = ps.length) (hpn : ps.all (fun p => Nat.blt p n) = true)
    (J : List α → Mem → SHeap → Prop) (Jx : Code → List α → Mem → SHeap → Prop) (hmJ : ∀ pre m m' Hl, J pre m Hl → m.le m' → J pre m' Hl) (hRJ : ∀ pre m Hl i j, J pre m Hl → R pre m (i :: (Hl ++ (j :: Hc)))) (hmX : ∀ c pre m m' Hl, Jx c pre m Hl → m.le m' → Jx c pre m' Hl) (ht : Tail Hc H Hl0) (h0 : J [] m Hl0)
    (hround : ∀ lp pre x post, xs = pre ++ x :: post → ∀ m1 Hl, J pre m1 Hl → m.le m1 → ∀ Hfr, (∃ rec, Item.blk lp (.loop rec) ∈ Hfr) → WC P (some lp) n w0 assign (QAssign P n w0 lp body J Jx (pre ++ [x]) m1 Hfr) (Env.given ps (encs x) r) [] m1 (Hl ++ Hfr))
    (hdone : ∀ (D : Nat) m' Hl, J xs m' Hl → m.le m' → WQ n w0 Q .normal r (D :: ds) m' (Hl ++ (.blk D (.deferred (some [])) :: Hc)))
    (hstop : ∀ (D : Nat) c pre m' Hl, pre <+: xs → Jx c pre m' Hl → m.le m' → WC P none n w0 c Q r (D :: ds) m' (Hl ++ (.blk D (.deferred (some [])) :: Hc))) :
    WC P none n w0 (.rangeFunc g ps.toArray assign body) Q r ds m H := by
  intro tmps w ho hs
  rw [ht.eq] at hs
  have hpn' : ∀ p ∈ ps, p < n := fun p hp => by have := List.all_eq_true.1 hpn p hp; simpa [Nat.blt_eq] using this
  have h1 : fn.name ≠ "runtime.NumGoroutine" := by simpa using hname
  have h2 : ∀ (a : Array Value) (w : World), (callFunc gf a).run P w = .ok (.enter gf a) w := fun a w => by simp [callFunc, hf, h1, hb]
  refine wpIn_rangeFunc (fun fnd _ => ?_)
  have hs1 := (hs.alloc (.deferred (some []))).alloc (.loop { state := .ready, pending := none, fn := fnd, tmps := tmps, params := ps.toArray, assign := assign, body := body, defers := w.heap.size })
  rw [World.size_alloc] at hs1
  have hs2 := hs1.perm (List.Perm.cons _ (List.perm_middle (a := Item.blk w.heap.size (.deferred (some []))) (l₁ := Hl0) (l₂ := Hc)).symm)
  have hcall := range_coreR (P := P) hseq hps hpn' ho J Jx hmJ (fun pre m Hl i h => hRJ pre m Hl i _ h) hmX h0 (fun lp pre x post hx m1 Hl hJ hle Hfr ⟨rec, hr, _⟩ => hround lp pre x post hx m1 Hl hJ hle Hfr ⟨rec, hr⟩) hs2
  have henter := run_enterLoop_outer (P := P) (w := w) fnd tmps ps.toArray assign body
  generalize (w.alloc (.deferred (some []))).alloc (.loop { state := .ready, pending := none, fn := fnd, tmps := tmps, params := ps.toArray, assign := assign, body := body, defers := w.heap.size }) = W1 at henter hcall
  refine ⟨w.heap.size + 1, [{ target := .collected w.heap.size, args := #[] }], W1, { target := .fn (.func gf) lb.toArray, args := #[.func (.yield (w.heap.size + 1)) #[] #[]] }, W1, gf, (.func (.yield (w.heap.size + 1)) #[] #[] :: lb).toArray, W1,
    henter, ?_, fun f _ => FW_fn none f, ?_, FW_depth none, ?_⟩
  · have e0 : ∀ v, (Act.mk tmps (marks ds)).eval (.const v) = v := fun _ => rfl
    simp [resolve, ho.ev hg, e0, Deferred.ofValue]
  · simp [invoke, h2]
  · have hc : CallsIn (FW none) (0 - 1) P gf (.func (.yield (w.heap.size + 1)) #[] #[] :: lb).toArray _ _ := hcall
    refine hc.mono ?_
    rintro e w' ⟨v, m', rfl, hle, (⟨Hl, hJ, hs3⟩ | ⟨c, pre, Hl, hpre, hJ, hs3⟩)⟩
    · obtain ⟨w4, h4, hs4⟩ := end_loop (P := P) hs3 (by simp)
      exact ⟨none, w4, h4, hdone _ m' Hl hJ hle tmps w4 ho hs4⟩
    · obtain ⟨w4, h4, hs4⟩ := end_loop (P := P) hs3 (by simp)
      exact ⟨some c, w4, h4, hstop _ c pre m' Hl hpre hJ hle tmps w4 ho hs4⟩
end
end Go.Eng

/-
  The walk of a history's Log. No condition.
-/
namespace Go.Eng
open Go Go.RowKit
theorem Does.mem2 {P : Program} {w0 : World} {m : Mem} {H : SHeap} {f : FuncId} {args : Array Value} {Post : Value → Mem → Item → Prop} {i k : Item} (hi : i ∈ H) (hk : k ∈ H) (hne : i ≠ k)
    (h : ∀ H1, Does P f args w0 m (i :: k :: H1) (fun v m' H' => ∃ j, Post v m' j ∧ H' = j :: i :: k :: H1)) : Does P f args w0 m H (fun v m' H' => ∃ j, Post v m' j ∧ H' = j :: H) := by
  intro w hs
  obtain ⟨H1, hp⟩ := hs.at_ hi
  have hk1 : k ∈ H1 := by
    rcases List.mem_cons.1 ((hp.mem_iff).1 hk) with e | e
    · exact absurd e.symm hne
    · exact e
  obtain ⟨H2, hp2⟩ := (hs.perm hp).drop.at_ hk1
  have hp3 : List.Perm H (i :: k :: H2) := hp.trans (List.Perm.cons _ hp2)
  refine (h H2 w (hs.perm hp3)).mono ?_
  rintro e w' ⟨v', m', H', he, ⟨j, hj, rfl⟩, hs'⟩
  exact ⟨_, _, _, he, ⟨j, hj, rfl⟩, hs'.perm (List.Perm.cons _ hp3.symm)⟩
/-- the numbers below n that are in a list, falling -/
def logGo (S : List Nat) : Nat → List Nat
  | 0 => []
  | n + 1 => if n ∈ S then n :: logGo S n else logGo S n
def logK (L : List Dr) (k : Nat) : List Nat := logGo (lineK L k) (k + 1)
theorem logGo_in {S : List Nat} {n : Nat} (h : n ∈ S) : logGo S (n + 1) = n :: logGo S n := by rw [logGo, if_pos h]
theorem logGo_out {S : List Nat} {n : Nat} (h : n ∉ S) : logGo S (n + 1) = logGo S n := by rw [logGo, if_neg h]
theorem logGo_mem {S : List Nat} {x : Nat} : ∀ {n : Nat}, x ∈ logGo S n ↔ x < n ∧ x ∈ S
  | 0 => by simp [logGo]
  | n + 1 => by
    by_cases h : n ∈ S
    · rw [logGo_in h, List.mem_cons, logGo_mem]
      constructor
      · rintro (rfl | ⟨h1, h2⟩)
        · exact ⟨Nat.lt_succ_self _, h⟩
        · exact ⟨by omega, h2⟩
      · rintro ⟨h1, h2⟩
        by_cases e : x = n
        · exact .inl e
        · exact .inr ⟨by omega, h2⟩
    · rw [logGo_out h, logGo_mem]
      constructor
      · rintro ⟨h1, h2⟩; exact ⟨by omega, h2⟩
      · rintro ⟨h1, h2⟩
        have : x ≠ n := fun e => h (e ▸ h2)
        exact ⟨by omega, h2⟩
end Go.Eng
namespace Go.Proofs.Ytgckeelnhafgaaa
open Go Go.Eng
set_option maxRecDepth 100000
set_option maxHeartbeats 4000000
set_option linter.all false
attribute [local irreducible] WL WC WQ QFun QLoop Does Q1 QRound QAssign Go.Addr.add
/-- a history lies here, with drafts whose parents stay -/
def HistIn (bh bm cap : Nat) (a : Option Addr) (L : List Dr) (m : Mem) (H : SHeap) : Prop :=
  Eng.Item.blk bh (.cells [.slice a L.length cap, .map (some bm)].toArray 66 (0, 0)) ∈ H ∧ Eng.Item.row a cap 71 3 (drs L) ∈ H ∧ ∀ d ∈ L, PsAt m d
theorem line_mem {bh bm cap : Nat} {a : Option Addr} {L : List Dr} {k : Nat} (hk : k < L.length) (hL : L.length ≤ 256) {w0 : World} {m : Mem} {H : SHeap} (hps : ∀ (i : Nat) (d : Dr), L[i]? = some d → d.ps.length ≤ 2) (hh : HistIn bh bm cap a L m H) :
    Does Try.prog 24 #[.pointer (some ⟨bh, 0, none⟩), .int .i64 (k : Int)] w0 m H (fun v m' H' => ∃ j, (m' = m ∧ ∃ b, v = .map (some b) ∧ j = Eng.Item.blk b (mapO .i64 (lnM (lineK L k)))) ∧ H' = j :: H) := by
  refine Does.mem2 hh.1 hh.2.1 (fun h => by cases h) fun H1 => ?_
  refine (line_any hk hL w0 m H1 hh.2.2 hps).mono ?_
  rintro v m' H' ⟨rfl, b, rfl, rfl⟩
  exact ⟨_, ⟨rfl, b, rfl, rfl⟩, rfl⟩
theorem log_any {bh k : Nat} (w0 : World) (m : Mem) (H : SHeap) : Does Try.prog 9 #[.pointer (some ⟨bh, 0, none⟩), .int .i64 (k : Int)] w0 m H (fun v m' H' => m' = m ∧ ∃ b2 b3, v = .func (.func 22) #[] #[.pointer (some ⟨b2, 0, none⟩), .pointer (some ⟨b3, 0, none⟩)] ∧
    H' = .blk b2 (.cells [.pointer (some ⟨bh, 0, none⟩)].toArray 24 (0, 0)) :: .blk b3 (.cells [.int .i64 (k : Int)].toArray 3 (0, 0)) :: H) := by
  refine Does.of_body (args := [.pointer (some ⟨bh, 0, none⟩), .int .i64 (k : Int)]) Try.func9 rfl Try.ntmps9 rfl ?_
  (refine st ?_; intros; rename_i b2 b3)
  exact q_fin0 (H0 := .blk b2 (.cells [.pointer (some ⟨bh, 0, none⟩)].toArray 24 (0, 0)) :: .blk b3 (.cells [.int .i64 (k : Int)].toArray 3 (0, 0)) :: H) ⟨rfl, b2, b3, rfl, rfl⟩ (hd := zpk)
attribute [local irreducible] lnM mapO lineK
theorem log_seq {bh bm cap : Nat} {a : Option Addr} {L : List Dr} {k : Nat} (hk : k < L.length) (hL : L.length ≤ 256) (hps : ∀ (i : Nat) (d : Dr), L[i]? = some d → d.ps.length ≤ 2) (b2 b3 : Nat) :
    SeqR Try.prog 22 [.pointer (some ⟨b2, 0, none⟩), .pointer (some ⟨b3, 0, none⟩)] (fun x : Nat => [.int .i64 (x : Int)]) (logK L k)
      (fun _ m H => HistIn bh bm cap a L m H ∧ m b2 = some (.cells [.pointer (some ⟨bh, 0, none⟩)].toArray 24 (0, 0)) ∧ m b3 = some (.cells [.int .i64 (k : Int)].toArray 3 (0, 0))) := by
  intro w0 lp J Jx m H mJ mX hR h0 hY
  obtain ⟨hh, hb2, hb3⟩ := hR _ _ _ h0
  refine Does.of_body Try.func22 rfl Try.ntmps22 rfl ?_
  (try (refine st ?_; intros))
  refine w_callF Try.func23 ?_ (hs := is_mem (k : Int) hh.1)
  rintro v m H ⟨rfl, rfl, rfl⟩
  rw [dcd_true (show 0 ≤ (k : Int) ∧ (k : Int) < (L.length : Int) from by omega)]
  (try (refine st ?_; intros))
  refine w_callF Try.func24 ?_ (hs := line_mem hk hL hps hh)
  rintro v m H1 ⟨j, ⟨rfl, bq, rfl, rfl⟩, rfl⟩
  (try (refine st ?_; intros))
  have hlk : logK L k = logGo (lineK L k) (k + 1) := rfl
  generalize lineK L k = LK at *
  refine WC.loopH [(5, .int .i64 ((k : Int))), (4, .map (some bq)), (0, .func (.yield lp) #[] #[])] ?_ ?_ (fun j r ds m' H' => ∃ (n : Nat) (mm : Mem) (H2 : SHeap) (z : Int) (pre : List Nat), j = 2 * n ∧ r = [(5, .int .i64 z), (4, .map (some bq)), (0, .func (.yield lp) #[] #[])] ∧ ds = [] ∧ mm = m' ∧ H' = .blk bq (mapO .i64 (lnM LK)) :: H2 ∧ (n ≤ k + 1) ∧ (z = (n : Int) - 1) ∧ (m.le mm) ∧ (J pre mm H2) ∧ (logK L k = pre ++ logGo LK n)) (2 * (k + 1)) ⟨k + 1, m, H, (k : Int), [], rfl, rfl, rfl, rfl, rfl, by omega, by omega, Mem.le.refl _, h0, by rw [hlk]; rfl⟩ ?_
  · (repeat (first | exact Env.Sub.nil | refine Env.Sub.cons rfl ?_))
  · exact zpk
  rintro j r ds m' H' ⟨n, mm, H2, z, pre, rfl, rfl, rfl, rfl, rfl, hn, hz, hle, hJ, hsp⟩
  cases n with
  | zero =>
    have hpre : pre = logK L k := by rw [hsp]; simp [logGo]
    subst hpre
    have hz0 : z = -1 := by omega
    subst hz0
    (try (refine st ?_; intros))
    exact q_finNorm0 (H0 := H2) ⟨hle, .inl hJ⟩ (hd := zpk)
  | succ n =>
    have hz0 : z = (n : Int) := by omega
    subst hz0
    (try (refine st ?_; intros))
    refine WL.look1 (q := .i64) (q' := .i64) (k := (n : Int)) (z := .bool false) (kvs := lnM LK) rfl rfl zhs rfl rfl (fun _ => rfl) rfl ?_
    rw [lnM_lookup]
    by_cases hin : n ∈ LK
    · rw [if_pos hin]
      simp only [Option.getD_some]
      rw [logGo_in hin] at hsp
      (try (refine st ?_; intros))
      refine WL.yield (vs := [.int .i64 (n : Int)]) rfl rfl rfl (hY _ n _ hsp mm H2 [.blk bq (mapO .i64 (lnM LK))] hJ hle) ?_ ?_
      · rintro m2 H9 ⟨H3, rfl, hJ2, hle2⟩
        (try (refine st ?_; intros))
        refine WQ.next (2 * (n)) ⟨n, m2, H3, (n : Int) - 1, pre ++ [n], rfl, rfl, rfl, rfl, rfl, ?_, ?_, ?_, ?_, ?_⟩ (by omega) zsb zpk
        · omega
        · rfl
        · exact hle.trans hle2
        · exact hJ2
        · rw [hsp, List.append_assoc]; rfl
      · rintro m2 H9 ⟨H3, rfl, hJ2, hle2⟩
        (try (refine st ?_; intros))
        exact q_fin0 (H0 := H3) ⟨hle.trans hle2, .inr ⟨pre ++ [n], ⟨logGo LK n, by rw [hsp, List.append_assoc]; rfl⟩, hJ2⟩⟩ (hd := zpk)
    · rw [if_neg hin]
      simp only [Option.getD_none]
      rw [logGo_out hin] at hsp
      (try (refine st ?_; intros))
      refine WQ.next (2 * (n)) ⟨n, mm, H2, (n : Int) - 1, pre, rfl, rfl, rfl, rfl, rfl, ?_, ?_, ?_, ?_, ?_⟩ (by omega) zsb zpk
      · omega
      · rfl
      · exact hle
      · exact hJ
      · exact hsp
end Go.Proofs.Ytgckeelnhafgaaa

/-
  The walk of slices.Sort of texts, by the library's own contract. No condition.
-/
namespace Go.Eng
open Go Go.RowKit
def leT (x y : List UInt8) : Bool := decide (x ≤ y)
theorem strs_ones (Y : List Tx) : ∀ e ∈ strs Y, e.length = 1 := by
  intro e he
  obtain ⟨x, _, rfl⟩ := List.mem_map.1 he
  rfl
end Go.Eng
namespace Go.Proofs.Ytgckeelnhafgaaa
open Go Go.Eng Go.RowKit Go.Sort
theorem sort_any (X : List Tx) (hl : X.length ≤ 1000000) {a : Option Addr} {c cap : Nat} (w0 : World) (m : Mem) (H : SHeap) :
    Does Try.prog 47 #[.slice a X.length c] w0 m (.row a cap 9 1 (strs X) :: H) (fun v m' H' => v = .tuple #[] ∧ m' = m ∧ H' = .row a cap 9 1 (strs (X.mergeSort leT)) :: H) := by
  intro w hs
  have hh := hs.own _ List.mem_cons_self
  by_cases hX : X = []
  · subst hX
    refine (callsIn_wide.2 (sh_slices_Sort_string_none a c w)).mono ?_
    rintro e w' ⟨rfl, rfl⟩
    exact ⟨_, m, _, rfl, ⟨rfl, rfl, rfl⟩, by simpa using hs⟩
  · cases a with
    | none =>
      have h' : strs X = [] ∧ cap = 0 := hh
      exact absurd (List.map_eq_nil_iff.1 h'.1) hX
    | some a =>
      obtain ⟨arr, fz, h1, h2, h3, h4, h5, h6, h7, h8⟩ := hh
      have hfl := strs_flat X
      have hflS := strs_flat (X.mergeSort leT)
      have hsl : (strs X).length = X.length := by simp [strs]
      rw [hsl] at h4 h5
      rw [Nat.mul_one] at h3 h5
      have hSl : (X.mergeSort leT).length = X.length := List.length_mergeSort X
      obtain ⟨ab, ao, ap⟩ := a
      obtain ⟨rfl, rfl⟩ : ao = 0 ∧ ap = none := by simpa using h1
      simp only at h2
      have hlt : ab < w.heap.size := (Array.getElem?_eq_some_iff.1 h2).1
      have hH : Holds encStr w ab 0 X.toArray := by
        intro j hj
        have hj' : j < X.length := by simpa using hj
        constructor
        · have h9 : arr.toList[j]? = some (str X[j]) := by
            rw [← List.getElem?_take_of_lt (l := arr.toList) hj', h5, hfl, List.getElem?_map, List.getElem?_eq_getElem hj']; rfl
          simp only [World.cell?, h2, Nat.zero_add]
          rw [← Array.getElem?_toList, h9, getElem!_pos _ j hj]
          simp [encStr, str]
        · simp only [World.frozen?, h2, Nat.zero_add]
          obtain ⟨f1, f2⟩ := fz
          simp only at h7
          rcases h7 with h7 | h7
          · subst h7
            simp only [Bool.and_eq_false_iff, decide_eq_false_iff_not]
            omega
          · simp only [Bool.and_eq_false_iff, decide_eq_false_iff_not]
            omega
      refine (callsIn_wide.2 (sh_slices_Sort_string ab 0 c X w hH hlt (by omega))).mono ?_
      rintro e w' ⟨rfl, n, os, rfl⟩
      refine ⟨_, m, _, rfl, ⟨rfl, rfl, rfl⟩, ?_⟩
      have s1 : Sat w0 m (.row (some ⟨ab, 0, none⟩) cap 9 1 (strs X) :: H) (Sort.ahead w n) := hs.keep rfl rfl rfl (Nat.le_refl _) (fun _ _ => rfl)
      have s2 : Sat w0 m (.row (some ⟨ab, 0, none⟩) cap 9 1 (strs (X.mergeSort leT)) :: H) (putRow encStr (Sort.ahead w n) ab 0 (X.mergeSort leT).toArray) := by
        refine s1.turn rfl rfl rfl (by simp [putRow, mapBlock]) (fun b _ hb => ?_) ?_ (fun b hb => .inl (by simpa [Item.foot] using hb)) (by simp [Item.foot])
        · have : ab ≠ b := fun e => hb (by simp [Item.foot, e])
          simp [putRow, mapBlock, Array.getElem?_modify, this]
        · refine ⟨putCells encStr 0 (X.mergeSort leT).toArray arr, fz, rfl, ?_, ?_, ?_, ?_, ?_, ?_, ?_⟩
          · have : (Sort.ahead w n).heap[ab]? = some (.cells arr 9 fz) := h2
            simp only [putRow, mapBlock, Array.getElem?_modify, if_true, this]
            rfl
          · rw [Nat.mul_one]
            simp [putCells, h3]
          · rw [strs_length, hSl]; exact h4
          · rw [strs_length, hSl, Nat.mul_one, hflS]
            refine List.ext_getElem? fun j => ?_
            by_cases hj : j < X.length
            · have hj2 : j < (X.mergeSort leT).length := by omega
              have hja : j < arr.size := by omega
              rw [List.getElem?_take_of_lt hj, Array.getElem?_toList, List.getElem?_map, List.getElem?_eq_getElem hj2]
              simp only [putCells, Array.getElem?_mapIdx, Array.getElem?_eq_getElem hja, Option.map_some, Nat.zero_le, true_and, Nat.zero_add, Nat.sub_zero, List.size_toArray]
              rw [if_pos hj2, getElem!_pos _ j (by simpa using hj2)]
              simp [encStr, str]
            · rw [List.getElem?_eq_none (by rw [List.length_take]; omega), List.getElem?_eq_none (by rw [List.length_map, hSl]; omega)]
          · exact strs_ones _
          · simpa [putCells] using h7
          · rw [strs_length, hSl, ← hsl]; exact h8
      have e9 : (X.mergeSort fun x y => decide (x ≤ y)) = X.mergeSort leT := rfl
      rw [e9]
      exact s2.keep rfl rfl rfl (by simp [grow]) (fun b hb => by simp [grow, Array.getElem?_append_left hb])
end Go.Proofs.Ytgckeelnhafgaaa

/-
  A walk's engine: iterators whose order is drawn. No condition.
-/
set_option linter.all false
namespace Go.Eng
open Go Go.RowKit
/-- an iterator that hands over xs, one after the other; what the loop keeps (J) tells it what it reads (R) -/
def SeqD {α : Type} (P : Program) (gf : FuncId) (lb : List Value) (encs : α → List Value) (Nx : List α → α → Prop) (Dn : List α → Prop) (R : List α → Mem → SHeap → Prop) : Prop :=
  ∀ (w0 : World) (l : Nat) (J Jx : List α → Mem → SHeap → Prop) (m : Mem) (H : SHeap), (∀ pre m m' H, J pre m H → m.le m' → J pre m' H) → (∀ pre m m' H, Jx pre m H → m.le m' → Jx pre m' H) →
    (∀ pre m H, J pre m H → R pre m H) → J [] m H →
    (∀ pre x, Nx pre x → ∀ m1 H1 Hit, J pre m1 H1 → m.le m1 →
      YieldOK P w0 l (encs x).toArray m1 (Hit ++ H1) (fun m' H' => ∃ H2, H' = Hit ++ H2 ∧ J (pre ++ [x]) m' H2 ∧ m1.le m') (fun m' H' => ∃ H2, H' = Hit ++ H2 ∧ Jx (pre ++ [x]) m' H2 ∧ m1.le m')) →
    Does P gf (.func (.yield l) #[] #[] :: lb).toArray w0 m H (fun _ m' H' => m.le m' ∧ ((∃ xs, Dn xs ∧ J xs m' H') ∨ ∃ pre, Jx pre m' H'))
section
variable {P : Program} {ro : Option Nat} {n : Nat} {w0 : World} {Q : Exit → Act → World → Prop} {r : Env} {ds : List Dfr} {m : Mem} {H : SHeap}
  {ops : Array Oper} {l : List Oper} {d : Nat} {ty : TypeId} {pos : String} {after : Array Edge}
theorem range_coreD {α : Type} {gf : FuncId} {lb : List Value} {encs : α → List Value} {Nx : List α → α → Prop} {Dn : List α → Prop} {R : List α → Mem → SHeap → Prop} {ps : List Nat} {assign body : Code} {fnd : FuncId} {tmps : Array Value} {L D : Nat} {Hb : SHeap}
    (hseq : SeqD P gf lb encs Nx Dn R) (hps : ∀ x, (encs x).length = ps.length) (hpn : ∀ p ∈ ps, p < n) (hok : r.ok n tmps)
    (J : List α → Mem → SHeap → Prop) (Jx : Code → List α → Mem → SHeap → Prop) (hmJ : ∀ pre m m' Hl, J pre m Hl → m.le m' → J pre m' Hl) (hRJ : ∀ pre m Hl i, J pre m Hl → R pre m (i :: (Hl ++ Hb))) (hmX : ∀ c pre m m' Hl, Jx c pre m Hl → m.le m' → Jx c pre m' Hl) {Hl0 : SHeap} (h0 : J [] m Hl0)
    (hround : ∀ lp pre x, Nx pre x → ∀ m1 Hl, J pre m1 Hl → m.le m1 → ∀ Hfr, (∃ rec, Item.blk lp (.loop rec) ∈ Hfr ∧ rec.defers = D) → WC P (some lp) n w0 assign (QAssign P n w0 lp body J Jx (pre ++ [x]) m1 Hfr) (Env.given ps (encs x) r) [] m1 (Hl ++ Hfr))
    {w : World} (hs : Sat w0 m (.blk L (.loop { state := .ready, pending := none, fn := fnd, tmps := tmps, params := ps.toArray, assign := assign, body := body, defers := D }) :: (Hl0 ++ Hb)) w) :
    CallsIn (FW none) 0 P gf (.func (.yield L) #[] #[] :: lb).toArray w fun e w' => ∃ v m', e = .returned v ∧ m.le m' ∧
      ((∃ xs Hl, Dn xs ∧ J xs m' Hl ∧ Sat w0 m' (.blk L (.loop { state := .ready, pending := none, fn := fnd, tmps := tmps, params := ps.toArray, assign := assign, body := body, defers := D }) :: (Hl ++ Hb)) w') ∨
       (∃ c pre Hl, Jx c pre m' Hl ∧ Sat w0 m' (.blk L (.loop { state := .done, pending := some c, fn := fnd, tmps := tmps, params := ps.toArray, assign := assign, body := body, defers := D }) :: (Hl ++ Hb)) w')) := by
  obtain ⟨rec, hrec⟩ : ∃ rec : LoopState → Option Code → Loop, rec = fun st pe => { state := st, pending := pe, fn := fnd, tmps := tmps, params := ps.toArray, assign := assign, body := body, defers := D } := ⟨_, rfl⟩
  have hs1 : Sat w0 m (.blk L (.loop (rec .ready none)) :: (Hl0 ++ Hb)) w := by rw [hrec]; exact hs
  have := hseq w0 L (fun pre m H => ∃ Hl, H = .blk L (.loop (rec .ready none)) :: (Hl ++ Hb) ∧ J pre m Hl)
    (fun pre m H => ∃ c Hl, H = .blk L (.loop (rec .done (some c))) :: (Hl ++ Hb) ∧ Jx c pre m Hl) m _ (fun _ _ _ _ ⟨Hl, e, h⟩ hm => ⟨Hl, e, hmJ _ _ _ _ h hm⟩) (fun _ _ _ _ ⟨c, Hl, e, h⟩ hm => ⟨c, Hl, e, hmX _ _ _ _ _ h hm⟩) (fun pre m H ⟨Hl, e, h⟩ => by rw [e]; exact hRJ _ _ _ _ h) ⟨Hl0, rfl, h0⟩ ?_ w hs1
  · refine this.mono ?_
    rintro e w' ⟨v, m', H', rfl, ⟨hle, hP⟩, hs'⟩
    refine ⟨v, m', rfl, hle, ?_⟩
    rcases hP with ⟨xs, hD, Hl, rfl, hJ⟩ | ⟨pre, c, Hl, rfl, hJ⟩
    · exact .inl ⟨xs, Hl, hD, hJ, by rw [hrec] at hs'; exact hs'⟩
    · exact .inr ⟨c, pre, Hl, hJ, by rw [hrec] at hs'; exact hs'⟩
  · rintro pre x hx m1 H1 Hit ⟨Hl, rfl, hJ⟩ hle W hW
    have hL : W.heap[L]? = some (.loop (rec .ready none)) := hW.own (.blk L _) (by simp)
    have hy := run_yield (P := P) (args := (encs x).toArray) hL (by rw [hrec]; simp [hps x])
    refine ⟨fnd, (ps.zip (encs x)).foldl (fun t (p : Nat × Value) => t.setIfInBounds p.1 p.2) tmps, assign, body, ?_, roundIn_of_wpIn (FW_fn none fnd) ?_⟩
    · rw [hy, hrec]
      congr 2
      simp
    · have hsat1 := hW.perm (perm_round Hit (.blk L (.loop (rec .ready none))) Hl Hb)
      have hr := hround L pre x hx m1 Hl hJ hle (.blk L (.loop (rec .ready none)) :: (Hb ++ Hit)) ⟨_, List.mem_cons_self, by rw [hrec]⟩ _ W (hok.given ps (encs x) hpn) hsat1
      refine wpIn_mono hr ?_
      intro e a1 W1 hq
      cases e with
      | normal =>
        obtain ⟨r1, m2, Hl1, hok1, hdf, hs2, hle2, hbody⟩ := hq
        have hs2' := hs2.perm (List.perm_middle (a := Item.blk L (.loop (rec .ready none))) (l₁ := Hl1) (l₂ := Hb ++ Hit))
        have hL1 : W1.heap[L]? = some (.loop (rec .ready none)) := hs2'.own _ List.mem_cons_self
        refine ⟨_, run_beginRound hL1 (by rw [hrec]), ?_⟩
        have hs3 := (hs2'.putObj (o' := .loop { rec .ready none with state := .busy })).perm (List.perm_middle (a := Item.blk L (.loop { rec .ready none with state := .busy })) (l₁ := Hl1) (l₂ := Hb ++ Hit)).symm
        obtain ⟨tm1, df1⟩ := a1
        simp only at hdf
        subst hdf
        refine wpIn_mono (hbody (.blk L (.loop { rec .ready none with state := .busy }) :: (Hb ++ Hit)) ⟨_, List.mem_cons_self⟩ tm1 _ hok1 hs3) ?_
        have fin : ∀ (jump : Option Code) (m3 : Mem) (Hl3 : SHeap) (W3 : World), Sat w0 m3 (Hl3 ++ (.blk L (.loop { rec .ready none with state := .busy }) :: (Hb ++ Hit))) W3 →
            ∃ w4, (Instr.endRound L jump).run P W3 = .ok (.bool jump.isNone) w4 ∧ Sat w0 m3 (Hit ++ (.blk L (.loop (rec (if jump.isNone then .ready else .done) jump)) :: (Hl3 ++ Hb))) w4 := by
          intro jump m3 Hl3 W3 hs4
          have hs5 := hs4.perm (List.perm_middle (a := Item.blk L (.loop { rec .ready none with state := .busy })) (l₁ := Hl3) (l₂ := Hb ++ Hit))
          have hL3 : W3.heap[L]? = some (.loop { rec .ready none with state := .busy }) := hs5.own _ List.mem_cons_self
          refine ⟨_, run_endRound jump hL3, ?_⟩
          have hs6 := hs5.putObj (o' := .loop { { rec .ready none with state := .busy } with state := if jump.isNone then .ready else .done, pending := jump })
          have e1 : ({ { rec .ready none with state := .busy } with state := if jump.isNone then .ready else .done, pending := jump } : Loop) = rec (if jump.isNone then .ready else .done) jump := by rw [hrec]
          rw [e1] at hs6
          rw [e1]
          exact hs6.perm ((List.perm_middle (a := Item.blk L (.loop (rec (if jump.isNone then .ready else .done) jump))) (l₁ := Hl3) (l₂ := Hb ++ Hit)).symm.trans (perm_round Hit _ Hl3 Hb).symm)
        intro e3 a3 W3 hq3
        cases e3 with
        | normal =>
          obtain ⟨m3, Hl3, hJ3, hle3, hs4⟩ := hq3
          obtain ⟨w4, h4, hs5⟩ := fin none m3 Hl3 W3 hs4
          exact ⟨_, w4, h4, .inl ⟨rfl, m3, _, ⟨_, rfl, ⟨Hl3, rfl, hJ3⟩, hle3⟩, hs5⟩⟩
        | ret =>
          obtain ⟨m3, Hl3, hJ3, hle3, hs4⟩ := hq3
          obtain ⟨w4, h4, hs5⟩ := fin (some .ret) m3 Hl3 W3 hs4
          exact ⟨_, w4, h4, .inr ⟨rfl, m3, _, ⟨_, rfl, ⟨.ret, Hl3, rfl, hJ3⟩, hle3⟩, hs5⟩⟩
        | exit id =>
          obtain ⟨m3, Hl3, hJ3, hle3, hs4⟩ := hq3
          obtain ⟨w4, h4, hs5⟩ := fin (some (.exit id)) m3 Hl3 W3 hs4
          exact ⟨_, w4, h4, .inr ⟨rfl, m3, _, ⟨_, rfl, ⟨.exit id, Hl3, rfl, hJ3⟩, hle3⟩, hs5⟩⟩
        | goto t =>
          obtain ⟨m3, Hl3, hJ3, hle3, hs4⟩ := hq3
          obtain ⟨w4, h4, hs5⟩ := fin (some (.goto t)) m3 Hl3 W3 hs4
          exact ⟨_, w4, h4, .inr ⟨rfl, m3, _, ⟨_, rfl, ⟨.goto t, Hl3, rfl, hJ3⟩, hle3⟩, hs5⟩⟩
        | panic ch => exact hq3.elim
        | outgrown => exact hq3.elim
      | _ => exact hq.elim
theorem WC.rangeFuncD {α : Type} {g : Operand} {gf : FuncId} {fn : Func} {cb : Code} {lb : List Value} {encs : α → List Value} {Nx : List α → α → Prop} {Dn : List α → Prop} {R : List α → Mem → SHeap → Prop} {ps : List Nat} {assign body : Code} {Hl0 Hc : SHeap}
    (hg : r.ev g = some (.func (.func gf) #[] lb.toArray)) (hf : P.funcs[gf]? = some fn) (hname : (fn.name == "runtime.NumGoroutine") = false) (hb : fn.body = some cb)
    (hseq : SeqD P gf lb encs Nx Dn R) (hps : ∀ x, (encs x).length = ps.length) (hpn : ps.all (fun p => Nat.blt p n) = true)
    (J : List α → Mem → SHeap → Prop) (Jx : Code → List α → Mem → SHeap → Prop) (hmJ : ∀ pre m m' Hl, J pre m Hl → m.le m' → J pre m' Hl) (hRJ : ∀ pre m Hl i j, J pre m Hl → R pre m (i :: (Hl ++ (j :: Hc)))) (hmX : ∀ c pre m m' Hl, Jx c pre m Hl → m.le m' → Jx c pre m' Hl) (ht : Tail Hc H Hl0) (h0 : J [] m Hl0)
    (hround : ∀ lp pre x, Nx pre x → ∀ m1 Hl, J pre m1 Hl → m.le m1 → ∀ Hfr, (∃ rec, Item.blk lp (.loop rec) ∈ Hfr) → WC P (some lp) n w0 assign (QAssign P n w0 lp body J Jx (pre ++ [x]) m1 Hfr) (Env.given ps (encs x) r) [] m1 (Hl ++ Hfr))
    (hdone : ∀ (D : Nat) xs m' Hl, Dn xs → J xs m' Hl → m.le m' → WQ n w0 Q .normal r (D :: ds) m' (Hl ++ (.blk D (.deferred (some [])) :: Hc)))
    (hstop : ∀ (D : Nat) c pre m' Hl, Jx c pre m' Hl → m.le m' → WC P none n w0 c Q r (D :: ds) m' (Hl ++ (.blk D (.deferred (some [])) :: Hc))) :
    WC P none n w0 (.rangeFunc g ps.toArray assign body) Q r ds m H := by
  intro tmps w ho hs
  rw [ht.eq] at hs
  have hpn' : ∀ p ∈ ps, p < n := fun p hp => by have := List.all_eq_true.1 hpn p hp; simpa [Nat.blt_eq] using this
  have h1 : fn.name ≠ "runtime.NumGoroutine" := by simpa using hname
  have h2 : ∀ (a : Array Value) (w : World), (callFunc gf a).run P w = .ok (.enter gf a) w := fun a w => by simp [callFunc, hf, h1, hb]
  refine wpIn_rangeFunc (fun fnd _ => ?_)
  have hs1 := (hs.alloc (.deferred (some []))).alloc (.loop { state := .ready, pending := none, fn := fnd, tmps := tmps, params := ps.toArray, assign := assign, body := body, defers := w.heap.size })
  rw [World.size_alloc] at hs1
  have hs2 := hs1.perm (List.Perm.cons _ (List.perm_middle (a := Item.blk w.heap.size (.deferred (some []))) (l₁ := Hl0) (l₂ := Hc)).symm)
  have hcall := range_coreD (P := P) hseq hps hpn' ho J Jx hmJ (fun pre m Hl i h => hRJ pre m Hl i _ h) hmX h0 (fun lp pre x hx m1 Hl hJ hle Hfr ⟨rec, hr, _⟩ => hround lp pre x hx m1 Hl hJ hle Hfr ⟨rec, hr⟩) hs2
  have henter := run_enterLoop_outer (P := P) (w := w) fnd tmps ps.toArray assign body
  generalize (w.alloc (.deferred (some []))).alloc (.loop { state := .ready, pending := none, fn := fnd, tmps := tmps, params := ps.toArray, assign := assign, body := body, defers := w.heap.size }) = W1 at henter hcall
  refine ⟨w.heap.size + 1, [{ target := .collected w.heap.size, args := #[] }], W1, { target := .fn (.func gf) lb.toArray, args := #[.func (.yield (w.heap.size + 1)) #[] #[]] }, W1, gf, (.func (.yield (w.heap.size + 1)) #[] #[] :: lb).toArray, W1,
    henter, ?_, fun f _ => FW_fn none f, ?_, FW_depth none, ?_⟩
  · have e0 : ∀ v, (Act.mk tmps (marks ds)).eval (.const v) = v := fun _ => rfl
    simp [resolve, ho.ev hg, e0, Deferred.ofValue]
  · simp [invoke, h2]
  · have hc : CallsIn (FW none) (0 - 1) P gf (.func (.yield (w.heap.size + 1)) #[] #[] :: lb).toArray _ _ := hcall
    refine hc.mono ?_
    rintro e w' ⟨v, m', rfl, hle, (⟨xs, Hl, hD, hJ, hs3⟩ | ⟨c, pre, Hl, hJ, hs3⟩)⟩
    · obtain ⟨w4, h4, hs4⟩ := end_loop (P := P) hs3 (by simp)
      exact ⟨none, w4, h4, hdone _ xs m' Hl hD hJ hle tmps w4 ho hs4⟩
    · obtain ⟨w4, h4, hs4⟩ := end_loop (P := P) hs3 (by simp)
      exact ⟨some c, w4, h4, hstop _ c pre m' Hl hJ hle tmps w4 ho hs4⟩
end
end Go.Eng

/-
  The walks of maps.Keys, slices.Collect, slices.Sorted. No condition.
-/
namespace Go.Eng
open Go Go.RowKit
theorem Repl.perms {i j : Item} {H H' : SHeap} (h : Repl i j H H') : ∃ X, List.Perm H (i :: X) ∧ List.Perm H' (j :: X) := by
  induction h with
  | here => exact ⟨_, List.Perm.refl _, List.Perm.refl _⟩
  | there _ ih =>
    obtain ⟨X, h1, h2⟩ := ih
    exact ⟨_ :: X, (List.Perm.cons _ h1).trans (List.Perm.swap _ _ _), (List.Perm.cons _ h2).trans (List.Perm.swap _ _ _)⟩
theorem Repl.head {i j : Item} {H2 H' : SHeap} (h : Repl i j (i :: H2) H') : List.Perm H' (j :: H2) := by
  obtain ⟨X, h1, h2⟩ := h.perms
  exact h2.trans (List.Perm.cons _ ((List.Perm.cons_inv h1).symm))
theorem sortT_perm {X Y : List (List UInt8)} (h : X.Perm Y) : X.mergeSort leT = Y.mergeSort leT := by
  have ht : ∀ a b c : List UInt8, leT a b = true → leT b c = true → leT a c = true := by
    intro a b c h1 h2
    exact decide_eq_true (List.le_trans (of_decide_eq_true h1) (of_decide_eq_true h2))
  have hto : ∀ a b : List UInt8, (leT a b || leT b a) = true := by
    intro a b
    rcases List.le_total a b with h | h
    · simp [leT, h]
    · simp [leT, h]
  refine List.Perm.eq_of_pairwise (le := fun a b => leT a b = true) (fun a b _ _ h1 h2 => List.le_antisymm (of_decide_eq_true h1) (of_decide_eq_true h2)) (List.pairwise_mergeSort ht hto X) (List.pairwise_mergeSort ht hto Y) ?_
  exact (List.mergeSort_perm X leT).trans (h.trans (List.mergeSort_perm Y leT).symm)
end Go.Eng
namespace Go.Proofs.Ytgckeelnhafgaaa
open Go Go.Eng
set_option maxRecDepth 100000
set_option maxHeartbeats 4000000
set_option linter.all false
attribute [local irreducible] WL WC WQ QFun QLoop Does Q1 QRound QAssign Go.Addr.add
attribute [local irreducible] mapT
theorem keys_seq {bm c : Nat} {es : List EntT} (hold : ∀ e ∈ es, e.1 < c) (hn : (es.map (·.1)).Nodup) (bk : Nat) : SeqD Try.prog 48 [.pointer (some ⟨bk, 0, none⟩)] (fun e : EntT => [str e.2.1]) (fun pre e => ∃ rest, ((pre ++ [e]) ++ rest).Perm es) (fun xs => xs.Perm es)
    (fun _ m H => Eng.Item.blk bm (mapT es c) ∈ H ∧ m bk = some (.cells [.map (some bm)].toArray 64 (0, 0))) := by
  intro w0 lp J Jx m H mJ mX hR h0 hY
  obtain ⟨hh, hbk⟩ := hR _ _ _ h0
  refine Does.of_body Try.func48 rfl Try.ntmps48 rfl ?_
  (try (refine st ?_; intros))
  refine WL.rangeT rfl hh rfl rfl ?_
  intro bi
  (try (refine st ?_; intros))
  refine WC.loopH [(5, .pointer (some ⟨bi, 0, none⟩)), (0, .func (.yield lp) #[] #[])] ?_ ?_ (fun j r ds m' H' => ∃ (mm : Mem) (H2 : SHeap) (pre : List EntT) (rest : List EntT), j = 2 * rest.length ∧ r = [(5, .pointer (some ⟨bi, 0, none⟩)), (0, .func (.yield lp) #[] #[])] ∧ ds = [] ∧ mm = m' ∧ H' = .blk bi (.mapIter (some bm) c (pre.map (·.1)).toArray c) :: H2 ∧ (m.le mm) ∧ (J pre mm H2) ∧ ((pre ++ rest).Perm es)) (2 * (es).length) ⟨m, H, [], es, rfl, rfl, rfl, rfl, rfl, Mem.le.refl _, h0, List.Perm.refl _⟩ ?_
  · (repeat (first | exact Env.Sub.nil | refine Env.Sub.cons rfl ?_))
  · exact zpk
  rintro j r ds m' H' ⟨mm, H2, pre, rest, rfl, rfl, rfl, rfl, rfl, hle, hJ, hp⟩
  have hh2 := (hR _ _ _ hJ).1
  have hnd : ((pre ++ rest).map (·.1)).Nodup := (hp.map _).nodup_iff.2 hn
  (try (refine st ?_; intros))
  refine WL.nextT (es := es) (c := c) rfl List.mem_cons_self (List.mem_cons_of_mem _ hh2) hold (Nat.le_refl _) rfl ?_ ?_
  · intro hall
    have hrest : rest = [] := by
      cases rest with
      | nil => rfl
      | cons e rest =>
        have h1 : e ∈ es := hp.mem_iff.1 (by simp)
        have h2 := hall e h1
        rw [List.map_append, List.map_cons, List.nodup_append] at hnd
        have h3 : e.1 ∈ pre.map (·.1) := by simpa using h2
        exact absurd rfl (hnd.2.2 _ h3 _ List.mem_cons_self)
    subst hrest
    rw [List.append_nil] at hp
    (try (refine st ?_; intros))
    exact q_finNorm0 (H0 := H2) ⟨hle, .inl ⟨pre, hp, hJ⟩⟩ (hd := zpk)
  · intro e he hne H3 hrep
    refine WL.heap (H' := .blk bi (.mapIter (some bm) c ((pre.map (·.1)).toArray.push e.1) c) :: H2) (fun w hw => hw.perm hrep.head) ?_
    have hne' : e.1 ∉ pre.map (·.1) := by simpa using hne
    have her : e ∈ rest := by
      rcases List.mem_append.1 (hp.mem_iff.2 he) with h | h
      · exact absurd (List.mem_map.2 ⟨e, h, rfl⟩) hne'
      · exact h
    obtain ⟨r1, r2, hr⟩ := List.append_of_mem her
    have hpn : ((pre ++ [e]) ++ (r1 ++ r2)).Perm es := by
      refine List.Perm.trans ?_ hp
      rw [hr, List.append_assoc]
      exact List.Perm.append_left pre (List.perm_middle (a := e) (l₁ := r1) (l₂ := r2)).symm
    have hrl : rest.length = (r1 ++ r2).length + 1 := by rw [hr]; simp; omega
    have hsn : (pre.map (·.1)).toArray.push e.1 = ((pre ++ [e]).map (·.1)).toArray := by simp
    (try (refine st ?_; intros))
    refine WL.entryT (seen := (pre.map (·.1)).toArray) (es := es) (c := c) (c0 := c) rfl List.mem_cons_self (List.mem_cons_of_mem _ hh2) he hn rfl ?_
    rw [hsn]
    (try (refine st ?_; intros))
    refine WL.yield (vs := [str e.2.1]) rfl rfl rfl (hY pre e ⟨_, hpn⟩ mm H2 [.blk bi (.mapIter (some bm) c ((pre ++ [e]).map (fun x : EntT => x.1)).toArray c)] hJ hle) ?_ ?_
    · rintro m2 H9 ⟨H3, rfl, hJ2, hle2⟩
      (try (refine st ?_; intros))
      refine WQ.next (2 * (r1 ++ r2).length) ⟨m2, H3, pre ++ [e], r1 ++ r2, rfl, rfl, rfl, rfl, rfl, ?_, ?_, ?_⟩ (by omega) zsb zpk
      · exact hle.trans hle2
      · exact hJ2
      · exact hpn
    · rintro m2 H9 ⟨H3, rfl, hJ2, hle2⟩
      (try (refine st ?_; intros))
      exact q_fin0 (H0 := H3) ⟨hle.trans hle2, .inr ⟨pre ++ [e], hJ2⟩⟩ (hd := zpk)
theorem appendSeq_any {bm bk c : Nat} {es : List EntT} (hold : ∀ e ∈ es, e.1 < c) (hn : (es.map (·.1)).Nodup) (hl : es.length ≤ 1000000) (w0 : World) (m : Mem) (H : SHeap) (hbk : m bk = some (.cells [.map (some bm)].toArray 64 (0, 0))) :
    Does Try.prog 62 #[.slice none 0 0, .func (.func 48) #[] #[.pointer (some ⟨bk, 0, none⟩)]] w0 m (.blk bm (mapT es c) :: H)
      (fun v m' H' => m.le m' ∧ ∃ (xs : List EntT) (a : Option Addr) (cp : Nat), xs.Perm es ∧ v = .slice a xs.length cp ∧ H' = .row a cp 9 1 (strs (xs.map (·.2.1))) :: .blk bm (mapT es c) :: H) := by
  refine Does.of_body (args := [.slice none 0 0, .func (.func 48) #[] #[.pointer (some ⟨bk, 0, none⟩)]]) Try.func62 rfl Try.ntmps62 rfl ?_
  (refine st ?_; intros; rename_i b2)
  refine WC.newRow (T := 9) (sz := 1) ?_
  refine WC.rangeFuncD (encs := fun e : EntT => [str e.2.1]) (Nx := fun pre e => ∃ rest, ((pre ++ [e]) ++ rest).Perm es) (Dn := fun xs => xs.Perm es) (lb := [.pointer (some ⟨bk, 0, none⟩)]) (ps := [7]) (Hc := H)
    (J := fun pre m' Hl => m.le m' ∧ ∃ a cp, Hl = [.row a cp 9 1 (strs (pre.map (·.2.1))), .blk b2 (.cells [.slice a pre.length cp].toArray 26 (0, 0)), .blk bm (mapT es c)]) (Jx := fun _ _ _ _ => False)
    rfl Try.func48 rfl rfl (keys_seq hold hn bk) (fun _ => rfl) rfl (fun _ _ _ _ h hm => ⟨h.1.trans hm, h.2⟩)
    (fun pre m' Hl i j h => by
      obtain ⟨h1, a, cp, rfl⟩ := h
      exact ⟨by simp, h1 _ _ hbk⟩) (fun _ _ _ _ _ h _ => h) (.cons (.cons (.cons .nil))) ⟨Mem.le.refl _, none, 0, rfl⟩ ?_ ?_ ?_
  · rintro lp pre e ⟨rest, hp⟩ m2 Hl ⟨hle2, a, cp, rfl⟩ hm2 Hfr hfr
    have hpl : pre.length + 1 ≤ es.length := by
      have := hp.length_eq
      simp only [List.length_append, List.length_singleton] at this
      omega
    have hsl : (strs (pre.map (·.2.1))).length = pre.length := by simp [strs]
    have hsn : strs (pre.map (·.2.1)) ++ [[str e.2.1]] = strs ((pre ++ [e]).map (·.2.1)) := by simp [strs]
    (try (refine st ?_; intros))
    refine WQ.assigned (.cons (.cons (.cons .nil))) (Mem.le.refl _) ?_
    intro Hfr2
    (refine st ?_; intros; rename_i b9 a2 cp2)
    rw [hsl, hsn]
    exact WQ.roundOn (Hl := [.row a2 cp2 9 1 (strs ((pre ++ [e]).map (·.2.1))), .blk b2 (.cells [.slice a2 (pre.length + 1) cp2].toArray 26 (0, 0)), .blk bm (mapT es c)]) zpk (Mem.le.refl _) ⟨hle2, a2, cp2, by simp⟩
  · rintro D xs m2 Hl hxs ⟨hle2, a, cp, rfl⟩ hm2
    (try (refine st ?_; intros))
    refine WQ.mark (H1 := [.row a cp 9 1 (strs (xs.map (·.2.1))), .blk b2 (.cells [.slice a xs.length cp].toArray 26 (0, 0)), .blk bm (mapT es c)] ++ H) (List.perm_middle) ?_
    exact q_fin0 (H0 := .row a cp 9 1 (strs (xs.map (·.2.1))) :: .blk bm (mapT es c) :: H) ⟨hle2, xs, a, cp, hxs, rfl, rfl⟩ (hd := zpk)
  · rintro D c2 pre m2 Hl h hm2
    exact h.elim
theorem collect_any {bm bk c : Nat} {es : List EntT} (hold : ∀ e ∈ es, e.1 < c) (hn : (es.map (·.1)).Nodup) (hl : es.length ≤ 1000000) (w0 : World) (m : Mem) (H : SHeap) (hbk : m bk = some (.cells [.map (some bm)].toArray 64 (0, 0))) :
    Does Try.prog 46 #[.func (.func 48) #[] #[.pointer (some ⟨bk, 0, none⟩)]] w0 m (.blk bm (mapT es c) :: H)
      (fun v m' H' => m.le m' ∧ ∃ (xs : List EntT) (a : Option Addr) (cp : Nat), xs.Perm es ∧ v = .slice a xs.length cp ∧ H' = .row a cp 9 1 (strs (xs.map (·.2.1))) :: .blk bm (mapT es c) :: H) := by
  refine Does.of_body (args := [.func (.func 48) #[] #[.pointer (some ⟨bk, 0, none⟩)]]) Try.func46 rfl Try.ntmps46 rfl ?_
  (try (refine st ?_; intros))
  refine w_callF Try.func62 ?_ (hs := appendSeq_any hold hn hl _ _ _ hbk)
  rintro v m2 H2 ⟨hle, xs, a, cp, hxs, rfl, rfl⟩
  (try (refine st ?_; intros))
  exact q_fin0 (H0 := .row a cp 9 1 (strs (xs.map (·.2.1))) :: .blk bm (mapT es c) :: H) ⟨hle, xs, a, cp, hxs, rfl, rfl⟩ (hd := zpk)
theorem sorted_any {bm bk c : Nat} {es : List EntT} (hold : ∀ e ∈ es, e.1 < c) (hn : (es.map (·.1)).Nodup) (hl : es.length ≤ 1000000) (w0 : World) (m : Mem) (H : SHeap) (hbk : m bk = some (.cells [.map (some bm)].toArray 64 (0, 0))) :
    Does Try.prog 27 #[.func (.func 48) #[] #[.pointer (some ⟨bk, 0, none⟩)]] w0 m (.blk bm (mapT es c) :: H)
      (fun v m' H' => m.le m' ∧ ∃ (a : Option Addr) (cp : Nat), v = .slice a es.length cp ∧ H' = .row a cp 9 1 (strs ((es.map (·.2.1)).mergeSort leT)) :: .blk bm (mapT es c) :: H) := by
  refine Does.of_body (args := [.func (.func 48) #[] #[.pointer (some ⟨bk, 0, none⟩)]]) Try.func27 rfl Try.ntmps27 rfl ?_
  (try (refine st ?_; intros))
  refine w_callF Try.func46 ?_ (hs := collect_any hold hn hl _ _ _ hbk)
  rintro v m2 H2 ⟨hle, xs, a, cp, hxs, rfl, rfl⟩
  have hxl : xs.length = (xs.map (·.2.1)).length := (List.length_map _).symm
  have hpe := hxs.length_eq
  (try (refine st ?_; intros))
  rw [hxl]
  refine w_callF Try.func47 ?_ (hs := sort_any (xs.map (·.2.1)) (by omega) _ _ _)
  rintro v m3 H3 ⟨rfl, rfl, rfl⟩
  rw [sortT_perm (hxs.map (·.2.1)), ← hxl, hpe]
  (try (refine st ?_; intros))
  exact q_fin0 (H0 := .row a cp 9 1 (strs ((es.map (·.2.1)).mergeSort leT)) :: .blk bm (mapT es c) :: H) ⟨hle, a, cp, rfl, rfl⟩ (hd := zpk)
end Go.Proofs.Ytgckeelnhafgaaa

/-
  The walk of a history's Branches. No condition.
-/
namespace Go.Eng
open Go Go.RowKit
theorem one_out {i : Item} {H : SHeap} (hi : i ∈ H) : ∃ H1, List.Perm H (i :: H1) := by
  obtain ⟨A, C, rfl⟩ := List.append_of_mem hi
  exact ⟨_, List.perm_middle⟩
theorem two_out {i k : Item} {H : SHeap} (hi : i ∈ H) (hk : k ∈ H) (hne : i ≠ k) : ∃ H1, List.Perm H (i :: k :: H1) := by
  obtain ⟨H1, h1⟩ := one_out hi
  have hk1 : k ∈ H1 := by
    rcases List.mem_cons.1 (h1.mem_iff.1 hk) with e | e
    · exact absurd e.symm hne
    · exact e
  obtain ⟨H2, h2⟩ := one_out hk1
  exact ⟨H2, h1.trans (List.Perm.cons _ h2)⟩
/-- the names of branches, rising -/
def brN (B : Br) : List (List UInt8) := (B.map (·.2.1)).mergeSort leT
def brL (B : Br) : List (List UInt8 × Nat) := (brN B).map fun n => (n, (headB B n).getD 0)
theorem brN_length (B : Br) : (brN B).length = B.length := by unfold brN; rw [List.length_mergeSort, List.length_map]
theorem brL_length (B : Br) : (brL B).length = B.length := by unfold brL; rw [List.length_map, brN_length]
theorem brN_mem {B : Br} {n : List UInt8} : n ∈ brN B ↔ n ∈ B.map (·.2.1) := (List.mergeSort_perm _ _).mem_iff
theorem brN_nodup {B : Br} (h : (B.map (·.2.1)).Nodup) : (brN B).Nodup := (List.mergeSort_perm _ _).nodup_iff.2 h
theorem brL_names (B : Br) : (brL B).map (·.1) = brN B := by unfold brL; rw [List.map_map]; exact (List.map_congr_left fun _ _ => rfl).trans (List.map_id _)
theorem headB_some {s : List UInt8} : ∀ {B : Br}, s ∈ B.map (·.2.1) → ∃ k, headB B s = some k
  | e :: B, h => by
    rw [headB]
    by_cases hs : s = e.2.1
    · exact ⟨_, if_pos hs⟩
    · rw [if_neg hs]
      rw [List.map_cons] at h
      rcases List.mem_cons.1 h with h | h
      · exact absurd h hs
      · exact headB_some h
theorem brE_names (B : Br) : (brE B).map (·.2.1) = B.map (·.2.1) := by unfold brE; rw [List.map_map]; rfl
theorem brE_borns (B : Br) : (brE B).map (·.1) = B.map (·.1) := by unfold brE; rw [List.map_map]; rfl
/-- the next name, and what stands behind it -/
theorem brL_next {B : Br} {i : Nat} {x : List UInt8 × Nat} (hn : (B.map (·.2.1)).Nodup) (h : (brL B)[i]? = some x) :
    headB B x.1 = some x.2 ∧ x.1 ∉ ((brL B).take i).map (·.1) ∧ brL B = (brL B).take i ++ x :: (brL B).drop (i + 1) ∧ (brN B)[i]? = some x.1 := by
  obtain ⟨hi, hx⟩ := List.getElem?_eq_some_iff.1 h
  have hN : (brN B)[i]? = some x.1 := by rw [← brL_names, List.getElem?_map, h]; rfl
  have hsp : brL B = (brL B).take i ++ x :: (brL B).drop (i + 1) := by rw [← hx, ← List.drop_eq_getElem_cons hi, List.take_append_drop]
  have hxe : x = (x.1, (headB B x.1).getD 0) := by
    have hm : x ∈ brL B := List.mem_of_getElem? h
    unfold brL at hm
    obtain ⟨n, _, hn2⟩ := List.mem_map.1 hm
    subst hn2
    rfl
  refine ⟨?_, ?_, hsp, hN⟩
  · obtain ⟨k, hk⟩ := headB_some (brN_mem.1 (List.mem_of_getElem? hN))
    have := congrArg Prod.snd hxe
    rw [hk] at this ⊢
    simp at this
    rw [this]
  · have hnd := brN_nodup hn
    rw [← brL_names, hsp, List.map_append, List.map_cons, List.nodup_append] at hnd
    exact fun hin => hnd.2.2 _ hin _ List.mem_cons_self rfl
end Go.Eng
namespace Go.Proofs.Ytgckeelnhafgaaa
open Go Go.Eng
set_option maxRecDepth 100000
set_option maxHeartbeats 4000000
set_option linter.all false
attribute [local irreducible] WL WC WQ QFun QLoop Does Q1 QRound QAssign Go.Addr.add
theorem hist_ne {b b2 c : Nat} {L : List Value} {T : TypeId} {es : List EntT} : Eng.Item.blk b (.cells L.toArray T (0, 0)) ≠ Eng.Item.blk b2 (mapT es c) := fun h => by cases h
theorem keys_any {bm : Nat} (w0 : World) (m : Mem) (H : SHeap) : Does Try.prog 28 #[.map (some bm)] w0 m H (fun v m' H' => m' = m ∧ ∃ bk, v = .func (.func 48) #[] #[.pointer (some ⟨bk, 0, none⟩)] ∧
    H' = .blk bk (.cells [.map (some bm)].toArray 64 (0, 0)) :: H) := by
  refine Does.of_body (args := [.map (some bm)]) Try.func28 rfl Try.ntmps28 rfl ?_
  (refine st ?_; intros; rename_i bk)
  exact q_fin0 (H0 := .blk bk (.cells [.map (some bm)].toArray 64 (0, 0)) :: H) ⟨rfl, bk, rfl, rfl⟩ (hd := zpk)
theorem branches_any {bh : Nat} (w0 : World) (m : Mem) (H : SHeap) : Does Try.prog 11 #[.pointer (some ⟨bh, 0, none⟩)] w0 m H (fun v m' H' => m' = m ∧ ∃ b1, v = .func (.func 26) #[] #[.pointer (some ⟨b1, 0, none⟩)] ∧
    H' = .blk b1 (.cells [.pointer (some ⟨bh, 0, none⟩)].toArray 24 (0, 0)) :: H) := by
  refine Does.of_body (args := [.pointer (some ⟨bh, 0, none⟩)]) Try.func11 rfl Try.ntmps11 rfl ?_
  (refine st ?_; intros; rename_i b1)
  exact q_fin0 (H0 := .blk b1 (.cells [.pointer (some ⟨bh, 0, none⟩)].toArray 24 (0, 0)) :: H) ⟨rfl, b1, rfl, rfl⟩ (hd := zpk)
attribute [local irreducible] mapT brN brL
/-- what the iterator over branches reads -/
def BrIn (bh bm c b1 : Nat) (B : Br) (pre : List (Tx × Nat)) (m : Mem) (H : SHeap) : Prop :=
  (∃ sa sn sc, Eng.Item.blk bh (.cells [.slice sa sn sc, .map (some bm)].toArray 66 (0, 0)) ∈ H) ∧ (∃ B' c', Eng.Item.blk bm (mapT (brE B') c') ∈ H ∧ (∀ n, n ∉ pre.map (·.1) → headB B' n = headB B n) ∧ (pre = [] → B' = B ∧ c' = c)) ∧
    m b1 = some (.cells [.pointer (some ⟨bh, 0, none⟩)].toArray 24 (0, 0))
theorem branches_seq {bh bm c : Nat} {B : Br} (hold : ∀ e ∈ B, e.1 < c) (hn : (B.map (·.1)).Nodup) (hN : (B.map (·.2.1)).Nodup) (hl : B.length ≤ 1000000) (b1 : Nat) :
    SeqR Try.prog 26 [.pointer (some ⟨b1, 0, none⟩)] (fun x : Tx × Nat => [str x.1, .int .i64 (x.2 : Int)]) (brL B) (BrIn bh bm c b1 B) := by
  intro w0 lp J Jx m H mJ mX hR h0 hY
  obtain ⟨⟨sa, sn, sc, hb⟩, ⟨B', c', hm, _, hB⟩, hb1⟩ := hR _ _ _ h0
  obtain ⟨rfl, rfl⟩ := hB rfl
  refine Does.of_body Try.func26 rfl Try.ntmps26 rfl ?_
  obtain ⟨H1, hp1⟩ := two_out hb hm hist_ne
  refine WC.heap (H' := .blk bh (.cells [.slice sa sn sc, .map (some bm)].toArray 66 (0, 0)) :: .blk bm (mapT (brE B') c') :: H1) (fun w hw => hw.perm hp1) ?_
  (try (refine st ?_; intros))
  refine w_callF Try.func28 ?_ (hs := keys_any _ _ _)
  rintro v m H9 ⟨rfl, bk, rfl, rfl⟩
  refine WL.persist (b := bk) (by (repeat (first | exact Out.here | apply Out.there))) ?_
  intro m1 hle1 hbk
  (try (refine st ?_; intros))
  refine WL.heap (H' := .blk bm (mapT (brE B') c') :: .blk bh (.cells [.slice sa sn sc, .map (some bm)].toArray 66 (0, 0)) :: H1) zpk ?_
  have hel := brE_length B'
  refine w_callF Try.func27 ?_ (hs := sorted_any (es := brE B') (fun e he => by
    obtain ⟨x, hx, rfl⟩ := List.mem_map.1 he
    exact hold x hx) (by rw [brE_borns]; exact hn) (by omega) _ _ _ hbk)
  rintro v m2 H9 ⟨hle2, a, cp, rfl, rfl⟩
  rw [hel, brE_names]
  have hNm : (B'.map (·.2.1)).mergeSort leT = brN B' := by unfold brN; rfl
  rw [hNm]
  (try (refine st ?_; intros))
  refine WC.heap (H' := .row a cp 9 1 (strs (brN B')) :: H) (fun w hw => hw.perm (List.Perm.cons _ ((List.Perm.swap _ _ _).trans hp1.symm))) ?_
  have hLl := brL_length B'
  have hNl := brN_length B'
  have hsl : (strs (brN B')).length = B'.length := by rw [strs_length, hNl]
  have hle02 : m.le m2 := hle1.trans hle2
  refine WC.loopH [(14, .int .i64 ((0) : Int)), (13, .int .i64 (B'.length : Int)), (12, .slice a B'.length cp), (1, .pointer (some ⟨b1, 0, none⟩)), (0, .func (.yield lp) #[] #[])] ?_ ?_ (fun j r ds m' H' => ∃ (i : Nat) (mm : Mem) (H2 : SHeap), j = B'.length - i ∧ r = [(14, .int .i64 (i : Int)), (13, .int .i64 (B'.length : Int)), (12, .slice a B'.length cp), (1, .pointer (some ⟨b1, 0, none⟩)), (0, .func (.yield lp) #[] #[])] ∧ ds = [] ∧ mm = m' ∧ H' = .row a cp 9 1 (strs (brN B')) :: H2 ∧ (i ≤ B'.length) ∧ (m.le mm) ∧ (J ((brL B').take i) mm H2)) (B'.length - (0)) ⟨0, m2, H, rfl, rfl, rfl, rfl, rfl, by omega, hle02, mJ _ _ _ _ h0 hle02⟩ ?_
  · (repeat (first | exact Env.Sub.nil | refine Env.Sub.cons rfl ?_))
  · exact zpk
  rintro j r ds m' H' ⟨i, mm, H2, rfl, rfl, rfl, rfl, rfl, hi, hle, hJ⟩
  by_cases hlt : i < B'.length
  · obtain ⟨x, hx⟩ : ∃ x, (brL B')[i]? = some x := ⟨_, List.getElem?_eq_getElem (by omega)⟩
    obtain ⟨x1, x2, x3, x4⟩ := brL_next hN hx
    obtain ⟨⟨sa2, sn2, sc2, hb2⟩, ⟨B2, c2, hm2, hd2, _⟩, hb12⟩ := hR _ _ _ hJ
    have hd3 := hd2 _ x2
    have hgx : (strs (brN B'))[i]? = some [str x.1] := by unfold strs; rw [List.getElem?_map, x4]; rfl
    have htk : (brL B').take (i + 1) = (brL B').take i ++ [x] := by rw [List.take_succ, hx]; rfl
    obtain ⟨H3, hp3⟩ := two_out hb2 hm2 hist_ne
    generalize strs (brN B') = SN at *
    refine WC.heap (H' := .row a cp 9 1 SN :: .blk bh (.cells [.slice sa2 sn2 sc2, .map (some bm)].toArray 66 (0, 0)) :: .blk bm (mapT (brE B2) c2) :: H3) (fun w hw => hw.perm (List.Perm.cons _ hp3)) ?_
    refine WC.rowSome (a := a) zhs (by omega) ?_
    rintro a rfl
    (try (refine st ?_; intros))
    refine WL.lookT1 (es := brE B2) (k := x.1) (z := .int .i64 0) rfl rfl zhs rfl rfl (fun _ => rfl) rfl ?_
    rw [getT_br, hd3, x1]
    simp only [Option.map_some, Option.getD_some]
    (try (refine st ?_; intros))
    refine WL.heap (H' := [.row (some a) cp 9 1 SN] ++ H2) (fun w hw => hw.perm (List.Perm.cons _ hp3.symm)) ?_
    refine WL.yield (vs := [str x.1, .int .i64 (x.2 : Int)]) rfl rfl rfl (hY _ x _ x3 mm H2 [.row (some a) cp 9 1 SN] hJ hle) ?_ ?_
    · rintro m3 H9 ⟨H4, rfl, hJ2, hle3⟩
      (try (refine st ?_; intros))
      refine WQ.next (B'.length - (i + 1)) ⟨i + 1, m3, H4, rfl, rfl, rfl, rfl, rfl, ?_, ?_, ?_⟩ (by omega) zsb zpk
      · omega
      · exact hle.trans hle3
      · rw [htk]; exact hJ2
    · rintro m3 H9 ⟨H4, rfl, hJ2, hle3⟩
      (try (refine st ?_; intros))
      exact q_fin0 (H0 := H4) ⟨hle.trans hle3, .inr ⟨(brL B').take i ++ [x], ⟨(brL B').drop (i + 1), by rw [List.append_assoc]; exact x3.symm⟩, hJ2⟩⟩ (hd := zpk)
  · rw [List.take_of_length_le (by omega)] at hJ
    (try (refine st ?_; intros))
    exact q_finNorm0 (H0 := H2) ⟨hle, .inl hJ⟩ (hd := zpk)
end Go.Proofs.Ytgckeelnhafgaaa

/-
  What is done to a history: the laws' scripts, in plain. No condition.
-/
namespace Go.Eng
open Go
structure Hop where
  kind : Int
  br : List UInt8
  fr : List UInt8
  hand : Int
  at_ : Int
  text : List UInt8
instance : Inhabited Hop := ⟨⟨0, [], [], 0, 0, []⟩⟩
def Hop.cs (x : Hop) : List Value := [.int .i64 x.kind, str x.br, str x.fr, .int .i64 x.hand, .int .i64 x.at_, str x.text]
def Hop.Ok (x : Hop) : Prop := (-9223372036854775808 ≤ x.kind ∧ x.kind ≤ 9223372036854775807) ∧ (-9223372036854775808 ≤ x.hand ∧ x.hand ≤ 9223372036854775807) ∧ (-9223372036854775808 ≤ x.at_ ∧ x.at_ ≤ 9223372036854775807) ∧ x.br.length ≤ 9223372036854775807 ∧ x.fr.length ≤ 9223372036854775807 ∧ x.text.length ≤ 9223372036854775807
end Go.Eng

/-
  The walk of the laws' script. No condition.
-/
namespace Go.Eng
open Go
/-- a script's step, cut -/
def cutO (o : Hop) : Hop := if o.text.length ≤ 65536 then { o with text := o.text.take 600 } else o
def scr (S : List Hop) : List Hop := (S.take 40).map cutO
end Go.Eng
namespace Go.Proofs.Ytgckeelnhafgaaa
open Go Go.Eng
set_option maxRecDepth 100000
set_option maxHeartbeats 4000000
set_option linter.all false
attribute [local irreducible] WL WC WQ QFun QLoop Does Q1 QRound QAssign Go.Addr.add
theorem sq_D65_1 {G : Prop} (h : G := by (repeat (first | (refine sp ?_; (repeat intro zzc)) | (refine WL.append1 (by':=72) rfl rfl rfl rfl (by (repeat (first | exact Out.here | apply Out.there))) zhs (by exact rfl) (by exact rfl) (by exact rfl) (by exact rfl) (by exact rfl) (by exact rfl) (by first | exact rfl | omega) (by first | omega | (simp; omega)) (by decide) (by exact rfl) ?_; intro zzc zzc))); exact WQ.q1 rfl) : G := h
theorem st_D65_1 {G G' : Prop} (next : G') (h : Bx G' → G := by intro zzn; (first | ((refine st ?_; (repeat intro zzc)); (try ((first | (refine WL.append1 (by':=72) rfl rfl rfl rfl (by (repeat (first | exact Out.here | apply Out.there))) zhs (by exact rfl) (by exact rfl) (by exact rfl) (by exact rfl) (by exact rfl) (by exact rfl) (by first | exact rfl | omega) (by first | omega | (simp; omega)) (by decide) (by exact rfl) ?_; intro zzc zzc) | ((refine iDraw ?_; (first | refine WC.drawAll rfl (by decide +kernel) ?_ | refine WC.draw 1 rfl (by decide +kernel) ?_ | refine WC.draw 2 rfl (by decide +kernel) ?_ | refine WC.draw 3 rfl (by decide +kernel) ?_ | refine WC.draw 4 rfl (by decide +kernel) ?_ | refine WC.draw 5 rfl (by decide +kernel) ?_ | refine WC.draw 6 rfl (by decide +kernel) ?_ | refine WC.draw 7 rfl (by decide +kernel) ?_ | refine WC.draw 8 rfl (by decide +kernel) ?_ | refine WC.draw 9 rfl (by decide +kernel) ?_ | refine WC.draw 10 rfl (by decide +kernel) ?_ | refine WC.draw 11 rfl (by decide +kernel) ?_ | refine WC.draw 12 rfl (by decide +kernel) ?_ | refine WC.draw 13 rfl (by decide +kernel) ?_ | refine WC.draw 14 rfl (by decide +kernel) ?_ | refine WC.draw 15 rfl (by decide +kernel) ?_ | refine WC.draw 16 rfl (by decide +kernel) ?_ | refine WC.draw 17 rfl (by decide +kernel) ?_ | refine WC.draw 18 rfl (by decide +kernel) ?_ | refine WC.draw 19 rfl (by decide +kernel) ?_ | refine WC.draw 20 rfl (by decide +kernel) ?_ | refine WC.draw 21 rfl (by decide +kernel) ?_ | refine WC.draw 22 rfl (by decide +kernel) ?_ | refine WC.draw 23 rfl (by decide +kernel) ?_ | refine WC.draw 24 rfl (by decide +kernel) ?_)); (repeat (refine WD.cons rfl (fun c h => by cases h) sq_D65_1 ?_)); refine WD.nil ?_)); (try (refine st ?_; (repeat intro zzc)))))) | ((first | (refine WL.append1 (by':=72) rfl rfl rfl rfl (by (repeat (first | exact Out.here | apply Out.there))) zhs (by exact rfl) (by exact rfl) (by exact rfl) (by exact rfl) (by exact rfl) (by exact rfl) (by first | exact rfl | omega) (by first | omega | (simp; omega)) (by decide) (by exact rfl) ?_; intro zzc zzc) | ((refine iDraw ?_; (first | refine WC.drawAll rfl (by decide +kernel) ?_ | refine WC.draw 1 rfl (by decide +kernel) ?_ | refine WC.draw 2 rfl (by decide +kernel) ?_ | refine WC.draw 3 rfl (by decide +kernel) ?_ | refine WC.draw 4 rfl (by decide +kernel) ?_ | refine WC.draw 5 rfl (by decide +kernel) ?_ | refine WC.draw 6 rfl (by decide +kernel) ?_ | refine WC.draw 7 rfl (by decide +kernel) ?_ | refine WC.draw 8 rfl (by decide +kernel) ?_ | refine WC.draw 9 rfl (by decide +kernel) ?_ | refine WC.draw 10 rfl (by decide +kernel) ?_ | refine WC.draw 11 rfl (by decide +kernel) ?_ | refine WC.draw 12 rfl (by decide +kernel) ?_ | refine WC.draw 13 rfl (by decide +kernel) ?_ | refine WC.draw 14 rfl (by decide +kernel) ?_ | refine WC.draw 15 rfl (by decide +kernel) ?_ | refine WC.draw 16 rfl (by decide +kernel) ?_ | refine WC.draw 17 rfl (by decide +kernel) ?_ | refine WC.draw 18 rfl (by decide +kernel) ?_ | refine WC.draw 19 rfl (by decide +kernel) ?_ | refine WC.draw 20 rfl (by decide +kernel) ?_ | refine WC.draw 21 rfl (by decide +kernel) ?_ | refine WC.draw 22 rfl (by decide +kernel) ?_ | refine WC.draw 23 rfl (by decide +kernel) ?_ | refine WC.draw 24 rfl (by decide +kernel) ?_)); (repeat (refine WD.cons rfl (fun c h => by cases h) sq_D65_1 ?_)); refine WD.nil ?_)); (try (refine st ?_; (repeat intro zzc))))); (repeat ((first | (refine WL.append1 (by':=72) rfl rfl rfl rfl (by (repeat (first | exact Out.here | apply Out.there))) zhs (by exact rfl) (by exact rfl) (by exact rfl) (by exact rfl) (by exact rfl) (by exact rfl) (by first | exact rfl | omega) (by first | omega | (simp; omega)) (by decide) (by exact rfl) ?_; intro zzc zzc) | ((refine iDraw ?_; (first | refine WC.drawAll rfl (by decide +kernel) ?_ | refine WC.draw 1 rfl (by decide +kernel) ?_ | refine WC.draw 2 rfl (by decide +kernel) ?_ | refine WC.draw 3 rfl (by decide +kernel) ?_ | refine WC.draw 4 rfl (by decide +kernel) ?_ | refine WC.draw 5 rfl (by decide +kernel) ?_ | refine WC.draw 6 rfl (by decide +kernel) ?_ | refine WC.draw 7 rfl (by decide +kernel) ?_ | refine WC.draw 8 rfl (by decide +kernel) ?_ | refine WC.draw 9 rfl (by decide +kernel) ?_ | refine WC.draw 10 rfl (by decide +kernel) ?_ | refine WC.draw 11 rfl (by decide +kernel) ?_ | refine WC.draw 12 rfl (by decide +kernel) ?_ | refine WC.draw 13 rfl (by decide +kernel) ?_ | refine WC.draw 14 rfl (by decide +kernel) ?_ | refine WC.draw 15 rfl (by decide +kernel) ?_ | refine WC.draw 16 rfl (by decide +kernel) ?_ | refine WC.draw 17 rfl (by decide +kernel) ?_ | refine WC.draw 18 rfl (by decide +kernel) ?_ | refine WC.draw 19 rfl (by decide +kernel) ?_ | refine WC.draw 20 rfl (by decide +kernel) ?_ | refine WC.draw 21 rfl (by decide +kernel) ?_ | refine WC.draw 22 rfl (by decide +kernel) ?_ | refine WC.draw 23 rfl (by decide +kernel) ?_ | refine WC.draw 24 rfl (by decide +kernel) ?_)); (repeat (refine WD.cons rfl (fun c h => by cases h) sq_D65_1 ?_)); refine WD.nil ?_)); (try (refine st ?_; (repeat intro zzc))))); (repeat revert zzc); exact zzn.out) : G := h ⟨next⟩
theorem script_any {S : List Hop} {a : Option Addr} {cap : Nat} (hx : ∀ x ∈ S, x.Ok) (w0 : World) (m : Mem) (H : SHeap) (hr : ∀ w1 H1, RowR w1 m H1 6 a (S.map Hop.cs)) :
    Does Try.prog 15 #[.slice a S.length cap] w0 m H (fun v m' H' => m' = m ∧ ∃ a2 c2, v = .slice a2 (scr S).length c2 ∧ H' = .row a2 c2 57 6 ((scr S).map Hop.cs) :: H) := by
  refine Does.of_body (args := [.slice a S.length cap]) Try.func15 rfl Try.ntmps15 rfl ?_
  have hsl : (S.map Hop.cs).length = S.length := List.length_map _
  (try (refine st_D65_1 ?_; intros))
  refine WC.newRow (T := 57) (sz := 6) ?_
  refine WC.loopH [(8, .int .i64 ((0) : Int)), (7, .int .i64 (S.length : Int)), (6, .slice a S.length cap), (3, .slice (none) (0) (0))] ?_ ?_ (fun j r ds m' H' => ∃ (i : Nat) (al : Option Addr) (cl : Nat) (g : Nat) (E : List (List Value)), j = S.length - i ∧ r = [(8, .int .i64 (i : Int)), (7, .int .i64 (S.length : Int)), (6, .slice a S.length cap), (3, .slice al g cl)] ∧ ds = [] ∧ m = m' ∧ H' = .row al cl 57 6 E :: H ∧ (i ≤ S.length ∧ i ≤ 40) ∧ (E = ((S.take i).map cutO).map Hop.cs) ∧ (g = i)) (S.length - (0)) ⟨0, none, 0, 0, [], rfl, rfl, rfl, rfl, rfl, by omega, rfl, rfl⟩ ?_
  · (repeat (first | exact Env.Sub.nil | refine Env.Sub.cons rfl ?_))
  · exact zpk
  rintro j r ds m' H' ⟨i, al, cl, g, E, rfl, rfl, rfl, rfl, rfl, hi, hE, hg⟩
  subst hg
  have hEl : E.length = g := by rw [hE, List.length_map, List.length_map, List.length_take]; omega
  by_cases hlt : g < S.length
  · obtain ⟨x, hgx⟩ : ∃ x, S[g]? = some x := ⟨_, List.getElem?_eq_getElem hlt⟩
    have hxo := hx x (List.mem_of_getElem? hgx)
    have hgc : (S.map Hop.cs)[g]? = some x.cs := by rw [List.getElem?_map, hgx]; rfl
    have hr1 := hr w0 (.row al cl 57 6 E :: H)
    generalize S.map Hop.cs = SC at *
    unfold Hop.cs at hgc
    refine WC.rSome hr1 (by omega) ?_
    rintro a rfl
    have htk : (S.take (g + 1)).map cutO = (S.take g).map cutO ++ [cutO x] := by rw [List.take_succ, hgx, List.map_append]; rfl
    have hEn : ∀ y : Hop, y = cutO x → E ++ [y.cs] = ((S.take (g + 1)).map cutO).map Hop.cs := by
      rintro y rfl
      rw [htk, List.map_append, hE]; rfl
    by_cases h40 : g = 40
    · subst h40
      have hscr : scr S = (S.take 40).map cutO := rfl
      have hsl2 : (scr S).length = 40 := by rw [hscr, List.length_map, List.length_take]; omega
      (refine st_D65_1 ?_; intros; rename_i b5)
      rw [hE, ← hscr]
      exact q_fin0 (H0 := .row al cl 57 6 ((scr S).map Hop.cs) :: H) ⟨rfl, al, cl, by rw [hsl2], rfl⟩ (hd := zpk)
    · obtain ⟨x0, x1, x2, x3, x4, x5⟩ := x
      unfold Hop.Ok at hxo
      simp only at hgc hxo hEn
      by_cases hlen : x5.length ≤ 65536
      · have hn : E ++ [[Value.int .i64 x0, str x1, str x2, .int .i64 x3, .int .i64 x4, str (x5.take 600)]] = ((S.take (g + 1)).map cutO).map Hop.cs := hEn ⟨x0, x1, x2, x3, x4, x5.take 600⟩ (by unfold cutO; rw [if_pos hlen])
        have htk6 : x5.take (min (x5.length : Int) 600).toNat = x5.take 600 := by
          by_cases h6 : x5.length ≤ 600
          · rw [List.take_of_length_le (by omega), List.take_of_length_le h6]
          · congr 1; omega
        (refine st_D65_1 ?_; intros; rename_i b5 b9 a2 c2)
        rw [htk6, hn]
        refine WQ.next (S.length - (g + 1)) ⟨g + 1, a2, c2, E.length + 1, ((S.take (g + 1)).map cutO).map Hop.cs, rfl, rfl, rfl, rfl, rfl, ?_, ?_, ?_⟩ (by omega) zsb zpk
        · omega
        · rfl
        · omega
      · have hn : E ++ [[Value.int .i64 x0, str x1, str x2, .int .i64 x3, .int .i64 x4, str x5]] = ((S.take (g + 1)).map cutO).map Hop.cs := hEn ⟨x0, x1, x2, x3, x4, x5⟩ (by unfold cutO; rw [if_neg hlen])
        (refine st_D65_1 ?_; intros; rename_i b5 b9 a2 c2)
        rw [hn]
        refine WQ.next (S.length - (g + 1)) ⟨g + 1, a2, c2, E.length + 1, ((S.take (g + 1)).map cutO).map Hop.cs, rfl, rfl, rfl, rfl, rfl, ?_, ?_, ?_⟩ (by omega) zsb zpk
        · omega
        · rfl
        · omega
  · have hscr : scr S = (S.take 40).map cutO := rfl
    have hsl2 : (scr S).length = g := by rw [hscr, List.length_map, List.length_take]; omega
    have hE2 : E = (scr S).map Hop.cs := by rw [hE, hscr, List.take_of_length_le (by omega), List.take_of_length_le (by omega)]
    rw [hE2]
    (try (refine st_D65_1 ?_; intros))
    exact q_fin0 (H0 := .row al cl 57 6 ((scr S).map Hop.cs) :: H) ⟨rfl, al, cl, by rw [hsl2], rfl⟩ (hd := zpk)
end Go.Proofs.Ytgckeelnhafgaaa

/-
  The walk of the laws' history: what comes of a script. No condition.
-/
namespace Go.Eng
open Go
theorem HsOk.branch {m : Mem} {L : List Dr} {B : Br} {c : Nat} (h : HsOk m L B c) (s : List UInt8) (k : Int) (e : Nat) (he : e = 0 → headB B s = none ∧ 0 ≤ k ∧ k < (L.length : Int) ∧ B.length ≠ 32) :
    HsOk m L (if e = 0 then putB B c s k.toNat else B) (if e = 0 then clkB B c s else c) := by
  by_cases h0 : e = 0
  · obtain ⟨h1, h2, h3, h4⟩ := he h0
    rw [if_pos h0, if_pos h0]
    have := h.most
    exact h.put (by omega) (.inr (by omega))
  · rw [if_neg h0, if_neg h0]
    exact h
theorem HsOk.add {m : Mem} {L : List Dr} {B : Br} {c k : Nat} (h : HsOk m L B c) {s : List UInt8} {d : Dr} (hl : L.length < 256) (hp : ∀ p ∈ d.ps, p < L.length) (h0 : d.ps ≠ []) (h2 : d.ps.length ≤ 2) (ht : d.t.length ≤ 65536) (hh : d.h ≤ 999999999999999999) (hd : PsAt m d)
    (hk : headB B s = some k) : HsOk m (L ++ [d]) (putB B c s L.length) (clkB B c s) :=
  (h.more hl hp h0 h2 ht hh hd).put (by rw [List.length_append, List.length_singleton]; omega) (.inl (by rw [hk]; rfl))
theorem HsOk.fresh {m : Mem} {t : List UInt8} (ht : t.length ≤ 65536) : HsOk m [⟨0, [], .slice none 0 0, t⟩] [(0, mainN, 0)] 1 where
  some_ := by simp
  few := by simp
  par := fun i d h => by
    cases i with
    | zero =>
      simp at h
      subst h
      exact ⟨fun p hp => (by cases hp), fun h0 => absurd h0 (Nat.lt_irrefl _), by simp, ht, by simp⟩
    | succ i => simp at h
  at_ := fun d hd => by
    rw [List.mem_singleton] at hd
    subst hd
    exact PsAt.nil
  heads := fun e he => by rw [List.mem_singleton] at he; subst he; simp
  names := by simp
  borns := by simp
  old := fun e he => by rw [List.mem_singleton] at he; subst he; simp
  most := by simp
end Go.Eng
namespace Go.Proofs.Ytgckeelnhafgaaa
open Go Go.Eng
set_option maxRecDepth 100000
set_option maxHeartbeats 4000000
set_option linter.all false
attribute [local irreducible] WL WC WQ QFun QLoop Does Q1 QRound QAssign Go.Addr.add
theorem wres_len (s t u : List UInt8) : (wres s t u).1.length ≤ 65536 := by
  unfold wres
  split
  · simp
  · split
    · simp
    · simp only; omega
theorem history_any (s : Tx) {S : List Hop} {sa : Option Addr} {sc : Nat} (hs : s.length ≤ 9223372036854775807) (hx : ∀ x ∈ S, x.Ok) (w0 : World) (m : Mem) (H : SHeap) (hr : ∀ w1 H1, RowR w1 m H1 6 sa (S.map Hop.cs)) :
    Does Try.prog 5 #[str s, .slice sa S.length sc] w0 m H (fun v m' H' => m.le m' ∧ ∃ (bh bm cap c : Nat) (a : Option Addr) (L : List Dr) (B : Br), v = .pointer (some ⟨bh, 0, none⟩) ∧ HsOk m' L B c ∧ H' = .blk bh (.cells [.slice a L.length cap, .map (some bm)].toArray 66 (0, 0)) :: .row a cap 71 3 (drs L) :: .blk bm (mapT (brE B) c) :: H) := by
  refine Does.of_body (args := [str s, .slice sa S.length sc]) Try.func5 rfl Try.ntmps5 rfl ?_
  have hm6 : (s.take (min (s.length : Int) 600).toNat).length ≤ 65536 := by rw [List.length_take]; omega
  (try (refine st ?_; intros))
  generalize s.take (min (s.length : Int) 600).toNat = t at *
  refine w_callF Try.func14 ?_ (hs := hnew_any t hm6 _ _ _)
  rintro v m H1 ⟨rfl, bh, bm, bd, rfl, rfl⟩
  (try (refine st ?_; intros))
  refine w_callF Try.func15 ?_ (hs := script_any hx _ _ _ hr)
  rintro v m H1 ⟨rfl, a2, c2, rfl, rfl⟩
  (try (refine st ?_; intros))
  have hscl : (scr S).length ≤ 40 := by unfold scr; rw [List.length_map, List.length_take]; omega
  have hml : ((scr S).map Hop.cs).length = (scr S).length := List.length_map _
  have hzo : ∀ x ∈ scr S, x.Ok := by
    intro x hxm
    unfold scr at hxm
    obtain ⟨y, hy, rfl⟩ := List.mem_map.1 hxm
    have hyo := hx y (List.mem_of_mem_take hy)
    unfold cutO
    split
    · unfold Hop.Ok at hyo ⊢
      refine ⟨hyo.1, hyo.2.1, hyo.2.2.1, hyo.2.2.2.1, hyo.2.2.2.2.1, ?_⟩
      rw [List.length_take]; omega
    · exact hyo
  generalize scr S = Z at *
  have hok0 : HsOk m [⟨0, [], .slice none 0 0, t⟩] [(0, mainN, 0)] 1 := HsOk.fresh hm6
  refine WC.loopH [(21, .int .i64 ((0) : Int)), (20, .int .i64 (Z.length : Int)), (19, .slice a2 Z.length c2), (5, .pointer (some ⟨bh, 0, none⟩))] ?_ ?_ (fun j r ds m' H' => ∃ (i : Nat) (mm : Mem) (a : Option Addr) (cap : Nat) (c : Nat) (L : List Dr) (B : Br), j = Z.length - i ∧ r = [(21, .int .i64 (i : Int)), (20, .int .i64 (Z.length : Int)), (19, .slice a2 Z.length c2), (5, .pointer (some ⟨bh, 0, none⟩))] ∧ ds = [] ∧ mm = m' ∧ H' = .blk bh (.cells [.slice a L.length cap, .map (some bm)].toArray 66 (0, 0)) :: .row a cap 71 3 (drs L) :: .blk bm (mapT (brE B) c) :: .row a2 c2 57 6 (Z.map Hop.cs) :: H ∧ (i ≤ Z.length) ∧ (m.le mm) ∧ (HsOk mm L B c)) (Z.length - (0)) ⟨0, m, some ⟨bd, 0, none⟩, 1, 1, [⟨0, [], .slice none 0 0, t⟩], [(0, mainN, 0)], rfl, rfl, rfl, rfl, rfl, by omega, Mem.le.refl _, hok0⟩ ?_
  · (repeat (first | exact Env.Sub.nil | refine Env.Sub.cons rfl ?_))
  · exact zpk
  rintro j r ds m' H' ⟨i, mm, a, cap, c, L, B, rfl, rfl, rfl, rfl, rfl, hi, hle, hok⟩
  by_cases hlt : i < Z.length
  · obtain ⟨x, hgx⟩ : ∃ x, Z[i]? = some x := ⟨_, List.getElem?_eq_getElem hlt⟩
    have hgc : (Z.map Hop.cs)[i]? = some x.cs := by rw [List.getElem?_map, hgx]; rfl
    have hxo : x.Ok := hzo x (List.mem_of_getElem? hgx)
    unfold Hop.Ok at hxo
    have hLf := hok.few
    have hBm := hok.most
    generalize Z.map Hop.cs = ZC at *
    unfold Hop.cs at hgc
    refine WC.rowSome (a := a2) zhs (by omega) ?_
    rintro a2 rfl
    (refine st ?_; intros; rename_i b8)
    obtain ⟨q, hq⟩ : ∃ q, q = x.kind % 18446744073709551616 % 6 := ⟨_, rfl⟩
    rw [← hq]
    have hq6 : 0 ≤ q ∧ q < 6 := by omega
    obtain h | h | h | h | h : q = 0 ∨ q = 1 ∨ q = 2 ∨ q = 3 ∨ 4 ≤ q := by omega
    · (try (refine st ?_; intros))
      refine WL.heap (H' := .blk bh (.cells [.slice a L.length cap, .map (some bm)].toArray 66 (0, 0)) :: .row a cap 71 3 (drs L) :: .blk bm (mapT (brE B) c) :: .row (some a2) c2 57 6 ZC :: H) zpk ?_
      refine w_callF Try.func16 ?_ (hs := branch_any x.br (by omega) x.at_ hBm hLf _ _ _)
      rintro v m5 H5 ⟨rfl, rfl, rfl⟩
      (try (refine st ?_; intros))
      refine WQ.next (Z.length - (i + 1)) ⟨i + 1, m5, a, cap, _, L, _, rfl, rfl, rfl, rfl, rfl, ?_, ?_, ?_⟩ (by omega) zsb zpk
      · omega
      · exact hle
      · refine hok.branch x.br x.at_ _ ?_
        intro h0
        unfold brErr at h0
        by_cases g1 : (headB B x.br).isSome ∨ ¬ NameOk x.br
        · rw [if_pos g1] at h0; omega
        · rw [if_neg g1] at h0
          by_cases g2 : ¬ (0 ≤ x.at_ ∧ x.at_ < (L.length : Int))
          · rw [if_pos g2] at h0; omega
          · rw [if_neg g2] at h0
            by_cases g3 : B.length = 32
            · rw [if_pos g3] at h0; omega
            · have g4 : ¬ (headB B x.br).isSome := fun h => g1 (.inl h)
              exact ⟨by simpa using g4, by omega, by omega, g3⟩
    · (try (refine st ?_; intros))
      refine WL.heap (H' := .blk bh (.cells [.slice a L.length cap, .map (some bm)].toArray 66 (0, 0)) :: .row a cap 71 3 (drs L) :: .blk bm (mapT (brE B) c) :: .row (some a2) c2 57 6 ZC :: H) zpk ?_
      refine w_callF Try.func17 ?_ (hs := drop_any x.br _ _ _)
      rintro v m5 H5 ⟨rfl, rfl, rfl⟩
      (try (refine st ?_; intros))
      refine WQ.next (Z.length - (i + 1)) ⟨i + 1, m5, a, cap, c, L, eraseB B x.br, rfl, rfl, rfl, rfl, rfl, ?_, ?_, ?_⟩ (by omega) zsb zpk
      · omega
      · exact hle
      · exact hok.erase _
    · (try (refine st ?_; intros))
      refine WL.heap (H' := .blk bh (.cells [.slice a L.length cap, .map (some bm)].toArray 66 (0, 0)) :: .row a cap 71 3 (drs L) :: .blk bm (mapT (brE B) c) :: .row (some a2) c2 57 6 ZC :: H) zpk ?_
      refine w_callF Try.func12 ?_ (hs := commit_any x.br x.hand x.text hLf _ _ _)
      rintro v m5 H5 ⟨hle5, (⟨e, he, hne, rfl, rfl, rfl⟩ | ⟨k, d, a', cap', he, rfl, hk, hps, ht, hh, hpa, rfl⟩)⟩
      · (try (refine st ?_; intros))
        refine WQ.next (Z.length - (i + 1)) ⟨i + 1, m5, a, cap, c, L, B, rfl, rfl, rfl, rfl, rfl, ?_, ?_, ?_⟩ (by omega) zsb zpk
        · omega
        · exact hle.trans hle5
        · exact hok
      · (try (refine st ?_; intros))
        refine WQ.next (Z.length - (i + 1)) ⟨i + 1, m5, a', cap', clkB B c x.br, L ++ [d], putB B c x.br L.length, rfl, rfl, rfl, rfl, rfl, ?_, ?_, ?_⟩ (by omega) zsb zpk
        · omega
        · exact hle.trans hle5
        · have hkl := hok.head hk
          have hcom : ¬ (x.hand < 0 ∨ 999999999999999999 < x.hand) ∧ ¬ (65536 < x.text.length ∨ L.length = 256) := by
            unfold comErr at he
            rw [if_neg (by rw [hk]; simp)] at he
            by_cases g1 : x.hand < 0 ∨ 999999999999999999 < x.hand
            · rw [if_pos g1] at he; omega
            · rw [if_neg g1] at he
              by_cases g2 : 65536 < x.text.length ∨ L.length = 256
              · rw [if_pos g2] at he; omega
              · exact ⟨g1, g2⟩
          exact (hok.le hle5).add (by omega) (by rw [hps]; intro p hp; rw [List.mem_singleton] at hp; subst hp; exact hkl) (by rw [hps]; simp) (by rw [hps]; simp) (by rw [ht]; omega) (by omega) hpa hk
    · (try (refine st ?_; intros))
      refine WL.heap (H' := .blk bh (.cells [.slice a L.length cap, .map (some bm)].toArray 66 (0, 0)) :: .row a cap 71 3 (drs L) :: .blk bm (mapT (brE B) c) :: .row (some a2) c2 57 6 ZC :: H) zpk ?_
      refine w_callF Try.func18 ?_ (hs := merge_any x.br x.fr x.hand _ _ _ hok)
      rintro v m5 H5 ⟨hle5, al, cl, (⟨e, he, hne, rfl, rfl⟩ | ⟨k, k2, d, a', cap', he, hk, hk2, hres, rfl, hps, ht, hh, hpa, rfl⟩)⟩
      · (try (refine st ?_; intros))
        refine WQ.next (Z.length - (i + 1)) ⟨i + 1, m5, a, cap, c, L, B, rfl, rfl, rfl, rfl, rfl, ?_, ?_, ?_⟩ (by omega) zsb zpk
        · omega
        · exact hle.trans hle5
        · exact hok.le hle5
      · (try (refine st ?_; intros))
        refine WQ.next (Z.length - (i + 1)) ⟨i + 1, m5, a', cap', clkB B c x.br, L ++ [d], putB B c x.br L.length, rfl, rfl, rfl, rfl, rfl, ?_, ?_, ?_⟩ (by omega) zsb zpk
        · omega
        · exact hle.trans hle5
        · have hkl := hok.head hk
          have hkl2 := hok.head hk2
          have hmer : ¬ (x.hand < 0 ∨ 999999999999999999 < x.hand) ∧ ¬ (L.length = 256) := by
            unfold merErr at he
            rw [hk, hk2] at he
            simp only at he
            by_cases g1 : x.hand < 0 ∨ 999999999999999999 < x.hand
            · rw [if_pos g1] at he; omega
            · rw [if_neg g1] at he
              by_cases g2 : L.length = 256
              · rw [if_pos g2] at he; omega
              · exact ⟨g1, g2⟩
          exact (hok.le hle5).add (by omega) (by rw [hps]; intro p hp; simp at hp; omega) (by rw [hps]; simp) (by rw [hps]; simp) (by rw [ht]; exact wres_len _ _ _) (by omega) hpa hk
    · (try (refine st ?_; intros))
      refine WQ.next (Z.length - (i + 1)) ⟨i + 1, mm, a, cap, c, L, B, rfl, rfl, rfl, rfl, rfl, ?_, ?_, ?_⟩ (by omega) zsb zpk
      · omega
      · exact hle
      · exact hok
  · (try (refine st ?_; intros))
    exact q_fin0 (H0 := .blk bh (.cells [.slice a L.length cap, .map (some bm)].toArray 66 (0, 0)) :: .row a cap 71 3 (drs L) :: .blk bm (mapT (brE B) c) :: H) ⟨hle, bh, bm, cap, c, a, L, B, rfl, hok, rfl⟩ (hd := zpk)
end Go.Proofs.Ytgckeelnhafgaaa

/-
  The walk of the law DraftOrigins: its inner loops. No condition.
-/
namespace Go.Eng
open Go
theorem getT_set {k j : List UInt8} {v : Value} : ∀ {es : List EntT}, (getT es k).isSome → getT (setT es k v) j = if j = k then some v else getT es j
  | [], h => by cases h
  | e :: es, h => by
    unfold getT at h
    by_cases hk : k = e.2.1
    · show getT (if k = e.2.1 then (e.1, e.2.1, v) :: es else e :: setT es k v) j = _
      rw [if_pos hk]
      show (if j = e.2.1 then some v else getT es j) = _
      by_cases hj : j = k
      · rw [if_pos (hj.trans hk), if_pos hj]
      · rw [if_neg (fun e2 => hj (e2.trans hk.symm)), if_neg hj]
        show _ = (if j = e.2.1 then some e.2.2 else getT es j)
        rw [if_neg (fun e2 => hj (e2.trans hk.symm))]
    · rw [if_neg hk] at h
      show getT (if k = e.2.1 then (e.1, e.2.1, v) :: es else e :: setT es k v) j = _
      rw [if_neg hk]
      show (if j = e.2.1 then some e.2.2 else getT (setT es k v) j) = _
      by_cases hj : j = e.2.1
      · rw [if_pos hj, if_neg (fun e2 => hk (e2.symm.trans hj))]
        show _ = (if j = e.2.1 then some e.2.2 else getT es j)
        rw [if_pos hj]
      · rw [if_neg hj, getT_set h]
        show _ = (if j = k then some v else (if j = e.2.1 then some e.2.2 else getT es j))
        rw [if_neg hj]
theorem getT_app {k j : List UInt8} {v : Value} {c : Nat} : ∀ {es : List EntT}, getT es k = none → getT (es ++ [(c, k, v)]) j = if j = k then some v else getT es j
  | [], _ => rfl
  | e :: es, h => by
    have h' : (if k = e.2.1 then some e.2.2 else getT es k) = none := h
    by_cases hk : k = e.2.1
    · rw [if_pos hk] at h'; cases h'
    · rw [if_neg hk] at h'
      show (if j = e.2.1 then some e.2.2 else getT (es ++ [(c, k, v)]) j) = if j = k then some v else (if j = e.2.1 then some e.2.2 else getT es j)
      by_cases hj : j = e.2.1
      · rw [if_pos hj, if_neg (fun e2 => hk (e2.symm.trans hj)), if_pos hj]
      · rw [if_neg hj, getT_app h', if_neg hj]
theorem getT_putM {k j : List UInt8} {v : Value} {c : Nat} {es : List EntT} : getT (putM es c k v) j = if j = k then some v else getT es j := by
  unfold putM
  split
  · next h => exact getT_set h
  · next h => exact getT_app (by simpa using h)
end Go.Eng
namespace Go.Proofs.Ytgckeelnhafgaaa
open Go Go.Eng
set_option maxRecDepth 100000
set_option maxHeartbeats 4000000
set_option linter.all false
attribute [local irreducible] WL WC WQ QFun QLoop Does Q1 QRound QAssign Go.Addr.add
theorem wtoks_any (l : List UInt8) (hl : l.length ≤ 4194304) (w0 : World) (m : Mem) (H : SHeap) : Does Try.prog 10 #[str l] w0 m H (fun v m' H' => m.le m' ∧ ∃ a cp, v = .slice a (toks l).length cp ∧ H' = .row a cp 9 1 (strs (toks l)) :: H) := by
  refine Does.of_body (args := [str l]) Try.func10 rfl Try.ntmps10 rfl ?_
  (refine st ?_; intros; rename_i b1 b3)
  refine w_callF Try.func25 ?_ (hs := scan_any _ _ _ _)
  rintro v m H ⟨b, rfl, rfl, rfl⟩
  (try (refine st ?_; intros))
  refine WC.persist (b := b) (by (repeat (first | exact Out.here | apply Out.there))) ?_
  intro m1 hle1 hb
  refine WC.newRow (T := 9) (sz := 1) ?_
  refine WC.rangeFuncM (encs := fun t : Tk => [t.v]) (xs := tokens l) (Cap := TextAt b l) (lb := [.pointer (some ⟨b, 0, none⟩)]) (ps := [7])
    (J := fun pre m' Hl => m.le m' ∧ ∃ a cp, Hl = [.row a cp 9 1 (strs (pre.map (tokT l))), .blk b3 (.cells [.slice a pre.length cp].toArray 26 (0, 0)), .blk b1 (.cells [str l].toArray 9 (0, 0))]) (Jx := fun _ _ _ _ => False)
    rfl Try.func41 rfl rfl (scan_seq l (by omega) b) hb (fun _ => rfl) rfl (fun _ _ _ _ h hm => ⟨h.1.trans hm, h.2⟩) (fun _ _ _ _ _ h _ => h) (.cons (.cons (.cons .nil))) ⟨hle1, none, 0, rfl⟩ ?_ ?_ ?_
  · rintro lp pre t post hx m2 Hl ⟨hle2, a, cp, rfl⟩ hm2 Hfr hfr
    have htl := (tokens_chain l).mem t (by rw [hx]; simp)
    have hlen : (tokens l).length ≤ l.length := by rw [← toks_length0]; exact toks_length l
    have hpl : pre.length + 1 ≤ 4194304 := by rw [hx] at hlen; simp only [List.length_append, List.length_cons] at hlen; omega
    have hsl : (strs (pre.map (tokT l))).length = pre.length := by simp [strs]
    (try (refine st ?_; intros))
    refine WQ.assigned (.cons (.cons (.cons (.cons .nil)))) (Mem.le.refl _) ?_
    intro Hfr2
    (refine st ?_; intros; rename_i bt)
    simp only [List.cons_append, List.nil_append]
    have hex : (l.take t.z).drop t.a = tokT l t := rfl
    refine WC.drawE 12 ([.blk bt (.cells [.int .i64 (t.k : Int), .int .i64 (t.a : Int), .int .i64 (t.z : Int)].toArray 81 (0, 0)), .blk b1 (.cells [str l].toArray 9 (0, 0))]) (.row a cp 9 1 (strs (pre.map (tokT l))) :: .blk b3 (.cells [.slice a pre.length cp].toArray 26 (0, 0)) :: Hfr2) rfl (by decide +kernel) zpk ?_
    (refine cm0 ?_)
    refine WE.act2 0 9 (by decide +kernel) rfl rfl (fun c h => by cases h) rfl rfl (fun c h => by cases h) ?_ ?_
    · (try (refine st ?_; intros))
      refine WQ.acted (B := []) (U := .row a cp 9 1 (strs (pre.map (tokT l))) :: .blk b3 (.cells [.slice a pre.length cp].toArray 26 (0, 0)) :: Hfr2) rfl (Mem.le.refl _) zpk ?_
      (refine cm0 ?_)
      refine WE.act1 9 (by decide +kernel) rfl rfl (fun c h => by cases h) ?_
      (refine st ?_; intros; rename_i b9)
      refine WQ.acted (B := [.blk b9 (.cells [str (tokT l t)].toArray 9 (0, 0))]) (U := .row a cp 9 1 (strs (pre.map (tokT l))) :: .blk b3 (.cells [.slice a pre.length cp].toArray 26 (0, 0)) :: Hfr2) rfl (Mem.le.refl _) zpk ?_
      (refine cm0 ?_)
      refine WE.act1 10 (by decide +kernel) rfl rfl (fun c h => by cases h) ?_
      (refine st ?_; intros; rename_i a2 cp2)
      rw [hsl]
      refine WQ.acted (B := []) (U := .row a2 cp2 9 1 (strs (pre.map (tokT l)) ++ [[str (tokT l t)]]) :: .blk b3 (.cells [.slice a pre.length cp].toArray 26 (0, 0)) :: Hfr2) rfl (Mem.le.refl _) zpk ?_
      (refine cm0 ?_)
      refine WE.act0 11 (by decide +kernel) rfl rfl (fun c h => by cases h) ?_
      (try (refine st ?_; intros))
      refine WQ.stored (B := []) (U := .row a2 cp2 9 1 (strs (pre.map (tokT l)) ++ [[str (tokT l t)]]) :: .blk b3 (.cells [.slice a2 (pre.length + 1) cp2].toArray 26 (0, 0)) :: Hfr2) (Mem.le.refl _) zpk ?_
      refine WE.done (by decide +kernel) ?_
      (try (refine st ?_; intros))
      exact WQ.roundOn (Hl := [.row a2 cp2 9 1 (strs (pre.map (tokT l)) ++ [[str (tokT l t)]]), .blk b3 (.cells [.slice a2 (pre.length + 1) cp2].toArray 26 (0, 0)), .blk b1 (.cells [str l].toArray 9 (0, 0))]) zpk (Mem.le.refl _) ⟨hle2, a2, cp2, by simp [strs]⟩
    · (refine st ?_; intros; rename_i b9)
      refine WQ.acted (B := [.blk b9 (.cells [str (tokT l t)].toArray 9 (0, 0))]) (U := .row a cp 9 1 (strs (pre.map (tokT l))) :: .blk b3 (.cells [.slice a pre.length cp].toArray 26 (0, 0)) :: Hfr2) rfl (Mem.le.refl _) zpk ?_
      (refine cm0 ?_)
      refine WE.act1 0 (by decide +kernel) rfl rfl (fun c h => by cases h) ?_
      (try (refine st ?_; intros))
      refine WQ.acted (B := []) (U := .row a cp 9 1 (strs (pre.map (tokT l))) :: .blk b3 (.cells [.slice a pre.length cp].toArray 26 (0, 0)) :: Hfr2) rfl (Mem.le.refl _) zpk ?_
      (refine cm0 ?_)
      refine WE.act1 10 (by decide +kernel) rfl rfl (fun c h => by cases h) ?_
      (refine st ?_; intros; rename_i a2 cp2)
      rw [hsl]
      refine WQ.acted (B := []) (U := .row a2 cp2 9 1 (strs (pre.map (tokT l)) ++ [[str (tokT l t)]]) :: .blk b3 (.cells [.slice a pre.length cp].toArray 26 (0, 0)) :: Hfr2) rfl (Mem.le.refl _) zpk ?_
      (refine cm0 ?_)
      refine WE.act0 11 (by decide +kernel) rfl rfl (fun c h => by cases h) ?_
      (try (refine st ?_; intros))
      refine WQ.stored (B := []) (U := .row a2 cp2 9 1 (strs (pre.map (tokT l)) ++ [[str (tokT l t)]]) :: .blk b3 (.cells [.slice a2 (pre.length + 1) cp2].toArray 26 (0, 0)) :: Hfr2) (Mem.le.refl _) zpk ?_
      refine WE.done (by decide +kernel) ?_
      (try (refine st ?_; intros))
      exact WQ.roundOn (Hl := [.row a2 cp2 9 1 (strs (pre.map (tokT l)) ++ [[str (tokT l t)]]), .blk b3 (.cells [.slice a2 (pre.length + 1) cp2].toArray 26 (0, 0)), .blk b1 (.cells [str l].toArray 9 (0, 0))]) zpk (Mem.le.refl _) ⟨hle2, a2, cp2, by simp [strs]⟩
  · rintro D m2 Hl ⟨hle2, a, cp, rfl⟩ hm2
    (try (refine st ?_; intros))
    refine WQ.mark List.perm_middle ?_
    exact q_fin0 (H0 := .row a cp 9 1 (strs (toks l)) :: H) ⟨hle2, a, cp, by rw [toks_length0], rfl⟩ (hd := zpk)
  · intro D cd pre m2 Hl _ h
    exact h.elim
attribute [local irreducible] mapT
theorem has_fill {X : List Tx} {a : Option Addr} {cp bq k90 c90 b18 b5 b12 b7 b4 k6 c6 : Nat} {j92 n91 : Int} {a90 a6 : Option Addr} {s8 : Tx} {dz : List Dfr} {w0 : World} {m : Mem} {Hr : SHeap} {Q : Exit → Act → World → Prop} (hl : X.length ≤ 4194304)
    (hK : ∀ E c, (∀ t ∈ X, getT E t = some (.bool true)) → WQ 210 w0 Q (.exit 6) [(21, .map (some bq)), (92, .int .i64 j92), (91, .int .i64 n91), (90, .slice a90 k90 c90), (8, str s8), (18, .pointer (some ⟨b18, 0, none⟩)), (5, .pointer (some ⟨b5, 0, none⟩)), (12, .pointer (some ⟨b12, 0, none⟩)), (7, .pointer (some ⟨b7, 0, none⟩)), (6, .slice a6 k6 c6), (4, .pointer (some ⟨b4, 0, none⟩))] dz m (.blk bq (mapT E c) :: Hr)) :
    WC Try.prog none 210 w0 ((loopsIn (Try.f3.body.getD .skip)).getD 2 .skip) Q [(132, .int .i64 0), (131, .int .i64 (X.length : Int)), (130, .slice a X.length cp), (21, .map (some bq)), (92, .int .i64 j92), (91, .int .i64 n91), (90, .slice a90 k90 c90), (8, str s8), (18, .pointer (some ⟨b18, 0, none⟩)), (5, .pointer (some ⟨b5, 0, none⟩)), (12, .pointer (some ⟨b12, 0, none⟩)), (7, .pointer (some ⟨b7, 0, none⟩)), (6, .slice a6 k6 c6), (4, .pointer (some ⟨b4, 0, none⟩))] dz m (.blk bq (mapT [] 0) :: .row a cp 9 1 (strs X) :: Hr) := by
  have hsl := strs_length X
  refine WC.loopH [(132, .int .i64 ((0) : Int)), (131, .int .i64 (X.length : Int)), (130, .slice a X.length cp), (21, .map (some bq)), (92, .int .i64 j92), (91, .int .i64 n91), (90, .slice a90 k90 c90), (8, str s8), (18, .pointer (some ⟨b18, 0, none⟩)), (5, .pointer (some ⟨b5, 0, none⟩)), (12, .pointer (some ⟨b12, 0, none⟩)), (7, .pointer (some ⟨b7, 0, none⟩)), (6, .slice a6 k6 c6), (4, .pointer (some ⟨b4, 0, none⟩))] ?_ ?_ (fun j r ds m' H' => ∃ (i : Nat) (E : List EntT) (c : Nat), j = X.length - i ∧ r = [(132, .int .i64 (i : Int)), (131, .int .i64 (X.length : Int)), (130, .slice a X.length cp), (21, .map (some bq)), (92, .int .i64 j92), (91, .int .i64 n91), (90, .slice a90 k90 c90), (8, str s8), (18, .pointer (some ⟨b18, 0, none⟩)), (5, .pointer (some ⟨b5, 0, none⟩)), (12, .pointer (some ⟨b12, 0, none⟩)), (7, .pointer (some ⟨b7, 0, none⟩)), (6, .slice a6 k6 c6), (4, .pointer (some ⟨b4, 0, none⟩))] ∧ ds = dz ∧ m = m' ∧ H' = .blk bq (mapT E c) :: .row a cp 9 1 (strs X) :: Hr ∧ (i ≤ X.length) ∧ (∀ t ∈ X.take i, getT E t = some (.bool true))) (X.length - (0)) ⟨0, [], 0, rfl, rfl, rfl, rfl, rfl, by omega, (by intro t ht; rw [List.take_zero] at ht; cases ht)⟩ ?_
  · (repeat (first | exact Env.Sub.nil | refine Env.Sub.cons rfl ?_))
  · exact zpk
  rintro j r ds m' H' ⟨i, E, c, rfl, rfl, rfl, rfl, rfl, hi, hE⟩
  by_cases hlt : i < X.length
  · obtain ⟨t, ht⟩ : ∃ t, X[i]? = some t := ⟨_, List.getElem?_eq_getElem hlt⟩
    have hgt : (strs X)[i]? = some [str t] := by unfold strs; rw [List.getElem?_map, ht]; rfl
    generalize strs X = SX at *
    refine WC.rowSome (a := a) zhs (by omega) ?_
    rintro a rfl
    (try (refine st ?_; intros))
    refine WL.putU (es := E) (k := t) rfl rfl rfl rfl rfl (by repeat (first | exact Repl.here | apply Repl.there)) ?_
    (try (refine st ?_; intros))
    refine WQ.next (X.length - (i + 1)) ⟨i + 1, putM E c t (.bool true), putC E c t, rfl, rfl, rfl, rfl, rfl, ?_, ?_⟩ (by omega) zsb zpk
    · omega
    · intro x hx
      rw [getT_putM]
      by_cases hxt : x = t
      · rw [if_pos hxt]
      · rw [if_neg hxt]
        rw [List.take_succ, ht] at hx
        rcases List.mem_append.1 hx with hx | hx
        · exact hE x hx
        · exact absurd (by simpa using hx) hxt
  · rw [List.take_of_length_le (by omega)] at hE
    (try (refine st ?_; intros))
    exact WQ.weak zsb zpk (hK E c hE)
theorem has_all {X : List Tx} {a : Option Addr} {cp bq c k90 c90 b18 b5 b12 b7 b4 k6 c6 : Nat} {j92 n91 : Int} {a90 a6 : Option Addr} {s8 : Tx} {E : List EntT} {dz : List Dfr} {w0 : World} {m : Mem} {Hr : SHeap} {Q : Exit → Act → World → Prop} (hl : X.length ≤ 4194304) (hE : ∀ t ∈ X, getT E t = some (.bool true))
    (hK : WQ 210 w0 Q (.exit 8) [(21, .map (some bq)), (92, .int .i64 j92), (91, .int .i64 n91), (90, .slice a90 k90 c90), (8, str s8), (18, .pointer (some ⟨b18, 0, none⟩)), (5, .pointer (some ⟨b5, 0, none⟩)), (12, .pointer (some ⟨b12, 0, none⟩)), (7, .pointer (some ⟨b7, 0, none⟩)), (6, .slice a6 k6 c6), (4, .pointer (some ⟨b4, 0, none⟩))] dz m (.blk bq (mapT E c) :: Hr)) :
    WC Try.prog none 210 w0 ((loopsIn (Try.f3.body.getD .skip)).getD 3 .skip) Q [(152, .int .i64 0), (151, .int .i64 (X.length : Int)), (150, .slice a X.length cp), (21, .map (some bq)), (92, .int .i64 j92), (91, .int .i64 n91), (90, .slice a90 k90 c90), (8, str s8), (18, .pointer (some ⟨b18, 0, none⟩)), (5, .pointer (some ⟨b5, 0, none⟩)), (12, .pointer (some ⟨b12, 0, none⟩)), (7, .pointer (some ⟨b7, 0, none⟩)), (6, .slice a6 k6 c6), (4, .pointer (some ⟨b4, 0, none⟩))] dz m (.blk bq (mapT E c) :: .row a cp 9 1 (strs X) :: Hr) := by
  have hsl := strs_length X
  refine WC.loopH [(152, .int .i64 ((0) : Int)), (151, .int .i64 (X.length : Int)), (150, .slice a X.length cp), (21, .map (some bq)), (92, .int .i64 j92), (91, .int .i64 n91), (90, .slice a90 k90 c90), (8, str s8), (18, .pointer (some ⟨b18, 0, none⟩)), (5, .pointer (some ⟨b5, 0, none⟩)), (12, .pointer (some ⟨b12, 0, none⟩)), (7, .pointer (some ⟨b7, 0, none⟩)), (6, .slice a6 k6 c6), (4, .pointer (some ⟨b4, 0, none⟩))] ?_ ?_ (fun j r ds m' H' => ∃ (i : Nat), j = X.length - i ∧ r = [(152, .int .i64 (i : Int)), (151, .int .i64 (X.length : Int)), (150, .slice a X.length cp), (21, .map (some bq)), (92, .int .i64 j92), (91, .int .i64 n91), (90, .slice a90 k90 c90), (8, str s8), (18, .pointer (some ⟨b18, 0, none⟩)), (5, .pointer (some ⟨b5, 0, none⟩)), (12, .pointer (some ⟨b12, 0, none⟩)), (7, .pointer (some ⟨b7, 0, none⟩)), (6, .slice a6 k6 c6), (4, .pointer (some ⟨b4, 0, none⟩))] ∧ ds = dz ∧ m = m' ∧ H' = .blk bq (mapT E c) :: .row a cp 9 1 (strs X) :: Hr ∧ (i ≤ X.length)) (X.length - (0)) ⟨0, rfl, rfl, rfl, rfl, rfl, by omega⟩ ?_
  · (repeat (first | exact Env.Sub.nil | refine Env.Sub.cons rfl ?_))
  · exact zpk
  rintro j r ds m' H' ⟨i, rfl, rfl, rfl, rfl, rfl, hi⟩
  by_cases hlt : i < X.length
  · obtain ⟨t, ht⟩ : ∃ t, X[i]? = some t := ⟨_, List.getElem?_eq_getElem hlt⟩
    have hgt : (strs X)[i]? = some [str t] := by unfold strs; rw [List.getElem?_map, ht]; rfl
    have hEt := hE t (List.mem_of_getElem? ht)
    generalize strs X = SX at *
    refine WC.rowSome (a := a) zhs (by omega) ?_
    rintro a rfl
    (try (refine st ?_; intros))
    refine WL.lookT1 (es := E) (k := t) (z := .bool false) rfl rfl zhs rfl rfl (fun _ => rfl) rfl ?_
    rw [hEt]
    simp only [Option.getD_some]
    (try (refine st ?_; intros))
    refine WQ.next (X.length - (i + 1)) ⟨i + 1, rfl, rfl, rfl, rfl, rfl, ?_⟩ (by omega) zsb zpk
    · omega
  · (try (refine st ?_; intros))
    exact WQ.weak zsb zpk hK
end Go.Proofs.Ytgckeelnhafgaaa

