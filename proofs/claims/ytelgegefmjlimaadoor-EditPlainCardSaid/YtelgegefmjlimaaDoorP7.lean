/-
  Parts of a walk, joined: EQ5 EQ6 EQR E2 E4 ET7 E6 E8 E9a EQ8 E5 E7 E3. No condition.
-/
import Derived.Test.YtelgegefmjlimaaDoorP4
import Derived.Test.YtelgegefmjlimaaDoorP6
set_option linter.all false
/-
  The walk of the program reader's step. No condition.
-/
namespace Go.Proofs.YtelgegefmjlimaaDoor
open Go Go.Eng
set_option maxRecDepth 100000
set_option maxHeartbeats 4000000
set_option linter.all false
attribute [local irreducible] WL WC WQ QFun QLoop Does Q1 QRound QAssign Go.Addr.add
attribute [local irreducible] numF qokF
theorem sq_EQ5_1 {G : Prop} (h : G := by (repeat (first | (refine sp ?_; (repeat intro zzc)) | (refine iF 28 rfl ?_; refine w_callG Tryd.func28 ?_ (hs := eIs_int zhs (by omega) (by omega) (by omega))))); exact WQ.q1 rfl) : G := h
theorem cm_EQ5_1 {G G' : Prop} (next : G') (h : Bx G' → G := by intro zzn; (try (refine wcal 0 ?_ (hwl := by intro zm zF zle; exact sq_EQ5_1))); (try (refine wcal 1 ?_ (hwl := by intro zm zF zle; exact sq_EQ5_1))); (try (refine wcal 2 ?_ (hwl := by intro zm zF zle; exact sq_EQ5_1))); (try (refine wcal 3 ?_ (hwl := by intro zm zF zle; exact sq_EQ5_1))); (try (refine wcal 4 ?_ (hwl := by intro zm zF zle; exact sq_EQ5_1))); (try (refine wcal 5 ?_ (hwl := by intro zm zF zle; exact sq_EQ5_1))); (try (refine wcal 6 ?_ (hwl := by intro zm zF zle; exact sq_EQ5_1))); (try (refine wcal 7 ?_ (hwl := by intro zm zF zle; exact sq_EQ5_1))); (try (refine wcal 8 ?_ (hwl := by intro zm zF zle; exact sq_EQ5_1))); (try (refine wcal 9 ?_ (hwl := by intro zm zF zle; exact sq_EQ5_1))); (try (refine wcal 10 ?_ (hwl := by intro zm zF zle; exact sq_EQ5_1))); (try (refine wcal 11 ?_ (hwl := by intro zm zF zle; exact sq_EQ5_1))); (try (refine wcal 12 ?_ (hwl := by intro zm zF zle; exact sq_EQ5_1))); (try (refine wcal 13 ?_ (hwl := by intro zm zF zle; exact sq_EQ5_1))); (try (refine wcal 14 ?_ (hwl := by intro zm zF zle; exact sq_EQ5_1))); (try (refine wcal 15 ?_ (hwl := by intro zm zF zle; exact sq_EQ5_1))); (try (refine wcal 16 ?_ (hwl := by intro zm zF zle; exact sq_EQ5_1))); (try (refine wcal 17 ?_ (hwl := by intro zm zF zle; exact sq_EQ5_1))); (try (refine wcal 18 ?_ (hwl := by intro zm zF zle; exact sq_EQ5_1))); (try (refine wcal 19 ?_ (hwl := by intro zm zF zle; exact sq_EQ5_1))); (try (refine wcal 20 ?_ (hwl := by intro zm zF zle; exact sq_EQ5_1))); (try (refine wcal 21 ?_ (hwl := by intro zm zF zle; exact sq_EQ5_1))); (try (refine wcal 22 ?_ (hwl := by intro zm zF zle; exact sq_EQ5_1))); (try (refine wcal 23 ?_ (hwl := by intro zm zF zle; exact sq_EQ5_1))); (try (refine wcal 24 ?_ (hwl := by intro zm zF zle; exact sq_EQ5_1))); (try (refine wcal 25 ?_ (hwl := by intro zm zF zle; exact sq_EQ5_1))); (try (refine wcal 26 ?_ (hwl := by intro zm zF zle; exact sq_EQ5_1))); (try (refine wcal 27 ?_ (hwl := by intro zm zF zle; exact sq_EQ5_1))); (try (refine wcal 28 ?_ (hwl := by intro zm zF zle; exact sq_EQ5_1))); (try (refine wcal 29 ?_ (hwl := by intro zm zF zle; exact sq_EQ5_1))); (try (refine wcal 30 ?_ (hwl := by intro zm zF zle; exact sq_EQ5_1))); (try (refine wcal 31 ?_ (hwl := by intro zm zF zle; exact sq_EQ5_1))); (try (refine wcal 32 ?_ (hwl := by intro zm zF zle; exact sq_EQ5_1))); (try (refine wcal 33 ?_ (hwl := by intro zm zF zle; exact sq_EQ5_1))); (try (refine wcal 34 ?_ (hwl := by intro zm zF zle; exact sq_EQ5_1))); (try (refine wcal 35 ?_ (hwl := by intro zm zF zle; exact sq_EQ5_1))); (try (refine wcal 36 ?_ (hwl := by intro zm zF zle; exact sq_EQ5_1))); (try (refine wcal 37 ?_ (hwl := by intro zm zF zle; exact sq_EQ5_1))); (try (refine wcal 38 ?_ (hwl := by intro zm zF zle; exact sq_EQ5_1))); (try (refine wcal 39 ?_ (hwl := by intro zm zF zle; exact sq_EQ5_1))); (try (refine wcal 40 ?_ (hwl := by intro zm zF zle; exact sq_EQ5_1))); (try (refine wcal 41 ?_ (hwl := by intro zm zF zle; exact sq_EQ5_1))); exact zzn.out) : G := h ⟨next⟩
theorem st_EQ5_1 {G G' : Prop} (next : G') (h : Bx G' → G := by intro zzn; (first | ((refine st ?_; (repeat intro zzc)); (try ((first | (refine iF 28 rfl ?_; refine w_callG Tryd.func28 ?_ (hs := eIs_int zhs (by omega) (by omega) (by omega))) | ((refine iDraw ?_; (first | refine WC.drawAll rfl (by decide +kernel) ?_ | refine WC.draw 1 rfl (by decide +kernel) ?_ | refine WC.draw 2 rfl (by decide +kernel) ?_ | refine WC.draw 3 rfl (by decide +kernel) ?_ | refine WC.draw 4 rfl (by decide +kernel) ?_ | refine WC.draw 5 rfl (by decide +kernel) ?_ | refine WC.draw 6 rfl (by decide +kernel) ?_ | refine WC.draw 7 rfl (by decide +kernel) ?_ | refine WC.draw 8 rfl (by decide +kernel) ?_ | refine WC.draw 9 rfl (by decide +kernel) ?_ | refine WC.draw 10 rfl (by decide +kernel) ?_ | refine WC.draw 11 rfl (by decide +kernel) ?_ | refine WC.draw 12 rfl (by decide +kernel) ?_ | refine WC.draw 13 rfl (by decide +kernel) ?_ | refine WC.draw 14 rfl (by decide +kernel) ?_ | refine WC.draw 15 rfl (by decide +kernel) ?_ | refine WC.draw 16 rfl (by decide +kernel) ?_ | refine WC.draw 17 rfl (by decide +kernel) ?_ | refine WC.draw 18 rfl (by decide +kernel) ?_ | refine WC.draw 19 rfl (by decide +kernel) ?_ | refine WC.draw 20 rfl (by decide +kernel) ?_ | refine WC.draw 21 rfl (by decide +kernel) ?_ | refine WC.draw 22 rfl (by decide +kernel) ?_ | refine WC.draw 23 rfl (by decide +kernel) ?_ | refine WC.draw 24 rfl (by decide +kernel) ?_)); (repeat (refine WD.cons rfl (fun c h => by cases h) sq_EQ5_1 ?_)); refine WD.nil ?_)); (try (refine st ?_; (repeat intro zzc)))))) | ((first | (refine iF 28 rfl ?_; refine w_callG Tryd.func28 ?_ (hs := eIs_int zhs (by omega) (by omega) (by omega))) | ((refine iDraw ?_; (first | refine WC.drawAll rfl (by decide +kernel) ?_ | refine WC.draw 1 rfl (by decide +kernel) ?_ | refine WC.draw 2 rfl (by decide +kernel) ?_ | refine WC.draw 3 rfl (by decide +kernel) ?_ | refine WC.draw 4 rfl (by decide +kernel) ?_ | refine WC.draw 5 rfl (by decide +kernel) ?_ | refine WC.draw 6 rfl (by decide +kernel) ?_ | refine WC.draw 7 rfl (by decide +kernel) ?_ | refine WC.draw 8 rfl (by decide +kernel) ?_ | refine WC.draw 9 rfl (by decide +kernel) ?_ | refine WC.draw 10 rfl (by decide +kernel) ?_ | refine WC.draw 11 rfl (by decide +kernel) ?_ | refine WC.draw 12 rfl (by decide +kernel) ?_ | refine WC.draw 13 rfl (by decide +kernel) ?_ | refine WC.draw 14 rfl (by decide +kernel) ?_ | refine WC.draw 15 rfl (by decide +kernel) ?_ | refine WC.draw 16 rfl (by decide +kernel) ?_ | refine WC.draw 17 rfl (by decide +kernel) ?_ | refine WC.draw 18 rfl (by decide +kernel) ?_ | refine WC.draw 19 rfl (by decide +kernel) ?_ | refine WC.draw 20 rfl (by decide +kernel) ?_ | refine WC.draw 21 rfl (by decide +kernel) ?_ | refine WC.draw 22 rfl (by decide +kernel) ?_ | refine WC.draw 23 rfl (by decide +kernel) ?_ | refine WC.draw 24 rfl (by decide +kernel) ?_)); (repeat (refine WD.cons rfl (fun c h => by cases h) sq_EQ5_1 ?_)); refine WD.nil ?_)); (try (refine st ?_; (repeat intro zzc))))); (repeat ((first | (refine iF 28 rfl ?_; refine w_callG Tryd.func28 ?_ (hs := eIs_int zhs (by omega) (by omega) (by omega))) | ((refine iDraw ?_; (first | refine WC.drawAll rfl (by decide +kernel) ?_ | refine WC.draw 1 rfl (by decide +kernel) ?_ | refine WC.draw 2 rfl (by decide +kernel) ?_ | refine WC.draw 3 rfl (by decide +kernel) ?_ | refine WC.draw 4 rfl (by decide +kernel) ?_ | refine WC.draw 5 rfl (by decide +kernel) ?_ | refine WC.draw 6 rfl (by decide +kernel) ?_ | refine WC.draw 7 rfl (by decide +kernel) ?_ | refine WC.draw 8 rfl (by decide +kernel) ?_ | refine WC.draw 9 rfl (by decide +kernel) ?_ | refine WC.draw 10 rfl (by decide +kernel) ?_ | refine WC.draw 11 rfl (by decide +kernel) ?_ | refine WC.draw 12 rfl (by decide +kernel) ?_ | refine WC.draw 13 rfl (by decide +kernel) ?_ | refine WC.draw 14 rfl (by decide +kernel) ?_ | refine WC.draw 15 rfl (by decide +kernel) ?_ | refine WC.draw 16 rfl (by decide +kernel) ?_ | refine WC.draw 17 rfl (by decide +kernel) ?_ | refine WC.draw 18 rfl (by decide +kernel) ?_ | refine WC.draw 19 rfl (by decide +kernel) ?_ | refine WC.draw 20 rfl (by decide +kernel) ?_ | refine WC.draw 21 rfl (by decide +kernel) ?_ | refine WC.draw 22 rfl (by decide +kernel) ?_ | refine WC.draw 23 rfl (by decide +kernel) ?_ | refine WC.draw 24 rfl (by decide +kernel) ?_)); (repeat (refine WD.cons rfl (fun c h => by cases h) sq_EQ5_1 ?_)); refine WD.nil ?_)); (try (refine st ?_; (repeat intro zzc))))); (repeat revert zzc); exact zzn.out) : G := h ⟨next⟩
theorem eStep_any (b : Nat) (s : List UInt8) (a : Nat) (wr : Int) (fr to : Nat) (hs : s.length ≤ 200000) (ha : a ≤ s.length) (hfr : fr ≤ 65536) (hto : to ≤ 65536) {w0 : World} {m : Mem} {H : SHeap} (hg : GTabs Tryd.prog m) :
    Does Tryd.prog 29 #[.pointer (some ⟨b, 0, none⟩)] w0 m (.blk b (.cells [str s, .int .i64 (a : Int), .int .i64 wr, .int .i64 (fr : Int), .int .i64 (to : Int)].toArray 61 (0, 0)) :: H) (fun v m' H' => m' = m ∧ ((∃ (e : Nat) (x : Stp), stepF s a fr to = .yes e x ∧ v = .tuple #[.agg x.cs.toArray, .bool true] ∧ H' = .blk b (.cells [str s, .int .i64 (e : Int), .int .i64 wr, .int .i64 ((fr + x.k.toNat + x.d.length : Nat) : Int), .int .i64 ((to + x.k.toNat + x.p.length : Nat) : Int)].toArray 61 (0, 0)) :: H) ∨
      (∃ (w e : Nat) (x : Stp) (f2 t2 : Int), stepF s a fr to = .no w ∧ v = .tuple #[.agg x.cs.toArray, .bool false] ∧ H' = .blk b (.cells [str s, .int .i64 (e : Int), .int .i64 (w : Int), .int .i64 f2, .int .i64 t2].toArray 61 (0, 0)) :: H))) := by
  refine Does.of_body (args := [.pointer (some ⟨b, 0, none⟩)]) Tryd.func29 rfl Tryd.ntmps29 rfl ?_
  have ea : (a : Int) + 1 = ((a + 1 : Nat) : Int) := by omega
  by_cases h1 : a < s.length ∧ gb s a = 61
  · have hst : stepF s a fr to = match numF s (a + 1) fr to with | .no w => .no w | .yes e n => .yes e ⟨(n : Int), [], []⟩ := by unfold stepF; rw [if_pos h1]; rfl
    obtain ⟨h1, h11⟩ := h1
    (refine st_EQ5_1 ?_; intros; rename_i bS)
    rw [ea]
    refine WL.heap (H' := .blk b (.cells [str s, .int .i64 ((a + 1 : Nat) : Int), .int .i64 wr, .int .i64 (fr : Int), .int .i64 (to : Int)].toArray 61 (0, 0)) :: .blk bS (.cells [.int .i64 0, str [], str []].toArray 39 (0, 0)) :: H) zpk ?_
    refine w_callF Tryd.func54 ?_ (hs := eNumber_any b s (a + 1) wr fr to (by omega) h1 hfr hto hg)
    rintro v m H1 ⟨rfl, (⟨e, n, hn, rfl, rfl⟩ | ⟨w, e, hn, rfl, rfl⟩)⟩
    · rw [hn] at hst
      simp only at hst
      have hny := numF_yes hn
      have e1 : (fr : Int) + (n : Int) = ((fr + ((n : Int)).toNat + ([] : List UInt8).length : Nat) : Int) := by simp
      have e2 : (to : Int) + (n : Int) = ((to + ((n : Int)).toNat + ([] : List UInt8).length : Nat) : Int) := by simp
      (try (refine st_EQ5_1 ?_; intros))
      refine WC.drawE 20 ([.blk bS (.cells [.int .i64 0, str [], str []].toArray 39 (0, 0))]) (.blk b (.cells [str s, .int .i64 (e : Int), .int .i64 wr, .int .i64 (fr : Int), .int .i64 (to : Int)].toArray 61 (0, 0)) :: H) rfl (by decide +kernel) zpk ?_
      (refine cm_EQ5_1 ?_)
      refine WE.act2 5 11 (by decide +kernel) rfl rfl (fun c h => by cases h) rfl rfl (fun c h => by cases h) ?_ ?_
      · (try (refine st_EQ5_1 ?_; intros))
        refine WQ.acted (B := []) (U := .blk b (.cells [str s, .int .i64 (e : Int), .int .i64 wr, .int .i64 (fr : Int), .int .i64 (to : Int)].toArray 61 (0, 0)) :: H) rfl (Mem.le.refl _) zpk ?_
        (refine cm_EQ5_1 ?_)
        refine WE.act1 11 (by decide +kernel) rfl rfl (fun c h => by cases h) ?_
        (try (refine st_EQ5_1 ?_; intros))
        refine WQ.acted (B := []) (U := .blk b (.cells [str s, .int .i64 (e : Int), .int .i64 wr, .int .i64 (fr : Int), .int .i64 (to : Int)].toArray 61 (0, 0)) :: H) rfl (Mem.le.refl _) zpk ?_
        (refine cm_EQ5_1 ?_)
        refine WE.act0 16 (by decide +kernel) rfl rfl (fun c h => by cases h) ?_
        (try (refine st_EQ5_1 ?_; intros))
        refine WQ.stored (B := []) (U := .blk b (.cells [str s, .int .i64 (e : Int), .int .i64 wr, .int .i64 ((fr : Int) + (n : Int)), .int .i64 (to : Int)].toArray 61 (0, 0)) :: H) (Mem.le.refl _) zpk ?_
        (refine cm_EQ5_1 ?_)
        refine WE.act0 19 (by decide +kernel) rfl rfl (fun c h => by cases h) ?_
        (try (refine st_EQ5_1 ?_; intros))
        refine WQ.stored (B := []) (U := .blk b (.cells [str s, .int .i64 (e : Int), .int .i64 wr, .int .i64 ((fr : Int) + (n : Int)), .int .i64 ((to : Int) + (n : Int))].toArray 61 (0, 0)) :: H) (Mem.le.refl _) zpk ?_
        refine WE.done (by decide +kernel) ?_
        (try (refine st_EQ5_1 ?_; intros))
        rw [e1, e2]
        exact q_fin0 (H0 := .blk b (.cells [str s, .int .i64 (e : Int), .int .i64 wr, .int .i64 ((fr + ((n : Int)).toNat + ([] : List UInt8).length : Nat) : Int), .int .i64 ((to + ((n : Int)).toNat + ([] : List UInt8).length : Nat) : Int)].toArray 61 (0, 0)) :: H) ⟨rfl, .inl ⟨e, ⟨(n : Int), [], []⟩, hst, rfl, rfl⟩⟩ (hd := zpk)
      · (try (refine st_EQ5_1 ?_; intros))
        refine WQ.acted (B := []) (U := .blk b (.cells [str s, .int .i64 (e : Int), .int .i64 wr, .int .i64 (fr : Int), .int .i64 (to : Int)].toArray 61 (0, 0)) :: H) rfl (Mem.le.refl _) zpk ?_
        (refine cm_EQ5_1 ?_)
        refine WE.act1 5 (by decide +kernel) rfl rfl (fun c h => by cases h) ?_
        (try (refine st_EQ5_1 ?_; intros))
        refine WQ.acted (B := []) (U := .blk b (.cells [str s, .int .i64 (e : Int), .int .i64 wr, .int .i64 (fr : Int), .int .i64 (to : Int)].toArray 61 (0, 0)) :: H) rfl (Mem.le.refl _) zpk ?_
        (refine cm_EQ5_1 ?_)
        refine WE.act0 16 (by decide +kernel) rfl rfl (fun c h => by cases h) ?_
        (try (refine st_EQ5_1 ?_; intros))
        refine WQ.stored (B := []) (U := .blk b (.cells [str s, .int .i64 (e : Int), .int .i64 wr, .int .i64 ((fr : Int) + (n : Int)), .int .i64 (to : Int)].toArray 61 (0, 0)) :: H) (Mem.le.refl _) zpk ?_
        (refine cm_EQ5_1 ?_)
        refine WE.act0 19 (by decide +kernel) rfl rfl (fun c h => by cases h) ?_
        (try (refine st_EQ5_1 ?_; intros))
        refine WQ.stored (B := []) (U := .blk b (.cells [str s, .int .i64 (e : Int), .int .i64 wr, .int .i64 ((fr : Int) + (n : Int)), .int .i64 ((to : Int) + (n : Int))].toArray 61 (0, 0)) :: H) (Mem.le.refl _) zpk ?_
        refine WE.done (by decide +kernel) ?_
        (try (refine st_EQ5_1 ?_; intros))
        rw [e1, e2]
        exact q_fin0 (H0 := .blk b (.cells [str s, .int .i64 (e : Int), .int .i64 wr, .int .i64 ((fr + ((n : Int)).toNat + ([] : List UInt8).length : Nat) : Int), .int .i64 ((to + ((n : Int)).toNat + ([] : List UInt8).length : Nat) : Int)].toArray 61 (0, 0)) :: H) ⟨rfl, .inl ⟨e, ⟨(n : Int), [], []⟩, hst, rfl, rfl⟩⟩ (hd := zpk)
    · rw [hn] at hst
      simp only at hst
      (try (refine st_EQ5_1 ?_; intros))
      refine WC.drawE 20 ([.blk bS (.cells [.int .i64 0, str [], str []].toArray 39 (0, 0))]) (.blk b (.cells [str s, .int .i64 (e : Int), .int .i64 (w : Int), .int .i64 (fr : Int), .int .i64 (to : Int)].toArray 61 (0, 0)) :: H) rfl (by decide +kernel) zpk ?_
      (refine cm_EQ5_1 ?_)
      refine WE.act2 5 11 (by decide +kernel) rfl rfl (fun c h => by cases h) rfl rfl (fun c h => by cases h) ?_ ?_
      · (try (refine st_EQ5_1 ?_; intros))
        refine WQ.acted (B := []) (U := .blk b (.cells [str s, .int .i64 (e : Int), .int .i64 (w : Int), .int .i64 (fr : Int), .int .i64 (to : Int)].toArray 61 (0, 0)) :: H) rfl (Mem.le.refl _) zpk ?_
        (refine cm_EQ5_1 ?_)
        refine WE.act1 11 (by decide +kernel) rfl rfl (fun c h => by cases h) ?_
        (try (refine st_EQ5_1 ?_; intros))
        refine WQ.acted (B := []) (U := .blk b (.cells [str s, .int .i64 (e : Int), .int .i64 (w : Int), .int .i64 (fr : Int), .int .i64 (to : Int)].toArray 61 (0, 0)) :: H) rfl (Mem.le.refl _) zpk ?_
        (refine cm_EQ5_1 ?_)
        refine WE.act0 16 (by decide +kernel) rfl rfl (fun c h => by cases h) ?_
        (try (refine st_EQ5_1 ?_; intros))
        refine WQ.stored (B := []) (U := .blk b (.cells [str s, .int .i64 (e : Int), .int .i64 (w : Int), .int .i64 ((fr : Int) + 0), .int .i64 (to : Int)].toArray 61 (0, 0)) :: H) (Mem.le.refl _) zpk ?_
        (refine cm_EQ5_1 ?_)
        refine WE.act0 19 (by decide +kernel) rfl rfl (fun c h => by cases h) ?_
        (try (refine st_EQ5_1 ?_; intros))
        refine WQ.stored (B := []) (U := .blk b (.cells [str s, .int .i64 (e : Int), .int .i64 (w : Int), .int .i64 ((fr : Int) + 0), .int .i64 ((to : Int) + 0)].toArray 61 (0, 0)) :: H) (Mem.le.refl _) zpk ?_
        refine WE.done (by decide +kernel) ?_
        (try (refine st_EQ5_1 ?_; intros))
        exact q_fin0 (H0 := .blk b (.cells [str s, .int .i64 (e : Int), .int .i64 (w : Int), .int .i64 ((fr : Int) + 0), .int .i64 ((to : Int) + 0)].toArray 61 (0, 0)) :: H) ⟨rfl, .inr ⟨w, e, ⟨0, [], []⟩, _, _, hst, rfl, rfl⟩⟩ (hd := zpk)
      · (try (refine st_EQ5_1 ?_; intros))
        refine WQ.acted (B := []) (U := .blk b (.cells [str s, .int .i64 (e : Int), .int .i64 (w : Int), .int .i64 (fr : Int), .int .i64 (to : Int)].toArray 61 (0, 0)) :: H) rfl (Mem.le.refl _) zpk ?_
        (refine cm_EQ5_1 ?_)
        refine WE.act1 5 (by decide +kernel) rfl rfl (fun c h => by cases h) ?_
        (try (refine st_EQ5_1 ?_; intros))
        refine WQ.acted (B := []) (U := .blk b (.cells [str s, .int .i64 (e : Int), .int .i64 (w : Int), .int .i64 (fr : Int), .int .i64 (to : Int)].toArray 61 (0, 0)) :: H) rfl (Mem.le.refl _) zpk ?_
        (refine cm_EQ5_1 ?_)
        refine WE.act0 16 (by decide +kernel) rfl rfl (fun c h => by cases h) ?_
        (try (refine st_EQ5_1 ?_; intros))
        refine WQ.stored (B := []) (U := .blk b (.cells [str s, .int .i64 (e : Int), .int .i64 (w : Int), .int .i64 ((fr : Int) + 0), .int .i64 (to : Int)].toArray 61 (0, 0)) :: H) (Mem.le.refl _) zpk ?_
        (refine cm_EQ5_1 ?_)
        refine WE.act0 19 (by decide +kernel) rfl rfl (fun c h => by cases h) ?_
        (try (refine st_EQ5_1 ?_; intros))
        refine WQ.stored (B := []) (U := .blk b (.cells [str s, .int .i64 (e : Int), .int .i64 (w : Int), .int .i64 ((fr : Int) + 0), .int .i64 ((to : Int) + 0)].toArray 61 (0, 0)) :: H) (Mem.le.refl _) zpk ?_
        refine WE.done (by decide +kernel) ?_
        (try (refine st_EQ5_1 ?_; intros))
        exact q_fin0 (H0 := .blk b (.cells [str s, .int .i64 (e : Int), .int .i64 (w : Int), .int .i64 ((fr : Int) + 0), .int .i64 ((to : Int) + 0)].toArray 61 (0, 0)) :: H) ⟨rfl, .inr ⟨w, e, ⟨0, [], []⟩, _, _, hst, rfl, rfl⟩⟩ (hd := zpk)
  · by_cases h2 : a < s.length ∧ gb s a = 45
    · have hst : stepF s a fr to = match qokF s (a + 1) (65536 - fr) with | .no w => .no w | .yes e t => .yes e ⟨0, t, []⟩ := by unfold stepF; rw [if_neg h1, if_pos h2]; rfl
      obtain ⟨h2, h22⟩ := h2
      (refine st_EQ5_1 ?_; intros; rename_i bS)
      rw [ea]
      refine WL.heap (H' := .blk b (.cells [str s, .int .i64 ((a + 1 : Nat) : Int), .int .i64 wr, .int .i64 (fr : Int), .int .i64 (to : Int)].toArray 61 (0, 0)) :: .blk bS (.cells [.int .i64 0, str [], str []].toArray 39 (0, 0)) :: H) zpk ?_
      refine w_callF Tryd.func55 ?_ (hs := eQuotedR_any b s (a + 1) wr fr to true hs h2 hfr hto hg)
      rintro v m H1 ⟨rfl, (⟨e, t, hn, rfl, rfl⟩ | ⟨w, e, hn, rfl, rfl⟩)⟩
      · rw [if_pos rfl] at hn
        rw [hn] at hst
        simp only at hst
        have hny := qokF_yes hn
        have e1 : (fr : Int) + (t.length : Int) = ((fr + (0 : Int).toNat + t.length : Nat) : Int) := by simp
        have e2 : (to : Int) = ((to + (0 : Int).toNat + ([] : List UInt8).length : Nat) : Int) := by simp
        (try (refine st_EQ5_1 ?_; intros))
        rw [e1]
        exact q_fin0 (H0 := .blk b (.cells [str s, .int .i64 (e : Int), .int .i64 wr, .int .i64 ((fr + (0 : Int).toNat + t.length : Nat) : Int), .int .i64 (to : Int)].toArray 61 (0, 0)) :: H) ⟨rfl, .inl ⟨e, ⟨0, t, []⟩, hst, rfl, by rw [← e2]⟩⟩ (hd := zpk)
      · rw [if_pos rfl] at hn
        rw [hn] at hst
        simp only at hst
        have hl0 : ([] : List UInt8).length = 0 := rfl
        (try (refine st_EQ5_1 ?_; intros))
        exact q_fin0 (H0 := .blk b (.cells [str s, .int .i64 (e : Int), .int .i64 (w : Int), .int .i64 ((fr : Int) + (([] : List UInt8).length : Int)), .int .i64 (to : Int)].toArray 61 (0, 0)) :: H) ⟨rfl, .inr ⟨w, e, ⟨0, [], []⟩, _, _, hst, rfl, rfl⟩⟩ (hd := zpk)
    · by_cases h3 : a < s.length ∧ gb s a = 43
      · have hst : stepF s a fr to = match qokF s (a + 1) (65536 - to) with | .no w => .no w | .yes e t => .yes e ⟨0, [], t⟩ := by unfold stepF; rw [if_neg h1, if_neg h2, if_pos h3]; rfl
        obtain ⟨h3, h33⟩ := h3
        (refine st_EQ5_1 ?_; intros; rename_i bS)
        rw [ea]
        refine WL.heap (H' := .blk b (.cells [str s, .int .i64 ((a + 1 : Nat) : Int), .int .i64 wr, .int .i64 (fr : Int), .int .i64 (to : Int)].toArray 61 (0, 0)) :: .blk bS (.cells [.int .i64 0, str [], str []].toArray 39 (0, 0)) :: H) zpk ?_
        refine w_callF Tryd.func55 ?_ (hs := eQuotedR_any b s (a + 1) wr fr to false hs h3 hfr hto hg)
        rintro v m H1 ⟨rfl, (⟨e, t, hn, rfl, rfl⟩ | ⟨w, e, hn, rfl, rfl⟩)⟩
        · rw [if_neg (by decide)] at hn
          rw [hn] at hst
          simp only at hst
          have hny := qokF_yes hn
          have e1 : (to : Int) + (t.length : Int) = ((to + (0 : Int).toNat + t.length : Nat) : Int) := by simp
          have e2 : (fr : Int) = ((fr + (0 : Int).toNat + ([] : List UInt8).length : Nat) : Int) := by simp
          (try (refine st_EQ5_1 ?_; intros))
          rw [e1]
          exact q_fin0 (H0 := .blk b (.cells [str s, .int .i64 (e : Int), .int .i64 wr, .int .i64 (fr : Int), .int .i64 ((to + (0 : Int).toNat + t.length : Nat) : Int)].toArray 61 (0, 0)) :: H) ⟨rfl, .inl ⟨e, ⟨0, [], t⟩, hst, rfl, by rw [← e2]⟩⟩ (hd := zpk)
        · rw [if_neg (by decide)] at hn
          rw [hn] at hst
          simp only at hst
          have hl0 : ([] : List UInt8).length = 0 := rfl
          (try (refine st_EQ5_1 ?_; intros))
          exact q_fin0 (H0 := .blk b (.cells [str s, .int .i64 (e : Int), .int .i64 (w : Int), .int .i64 (fr : Int), .int .i64 ((to : Int) + (([] : List UInt8).length : Int))].toArray 61 (0, 0)) :: H) ⟨rfl, .inr ⟨w, e, ⟨0, [], []⟩, _, _, hst, rfl, rfl⟩⟩ (hd := zpk)
      · have hst : stepF s a fr to = .no a := by unfold stepF; rw [if_neg h1, if_neg h2, if_neg h3]
        (refine st_EQ5_1 ?_; intros; rename_i bS)
        refine WL.heap (H' := .blk b (.cells [str s, .int .i64 (a : Int), .int .i64 wr, .int .i64 (fr : Int), .int .i64 (to : Int)].toArray 61 (0, 0)) :: .blk bS (.cells [.int .i64 0, str [], str []].toArray 39 (0, 0)) :: H) zpk ?_
        refine w_callF Tryd.func56 ?_ (hs := eFail_any b s a wr (fr : Int) (to : Int) (a : Int) _ _ _)
        rintro v m H1 ⟨rfl, rfl, rfl⟩
        (try (refine st_EQ5_1 ?_; intros))
        exact q_fin0 (H0 := .blk b (.cells [str s, .int .i64 (a : Int), .int .i64 (a : Int), .int .i64 (fr : Int), .int .i64 (to : Int)].toArray 61 (0, 0)) :: H) ⟨rfl, .inr ⟨a, a, ⟨0, [], []⟩, _, _, hst, rfl, rfl⟩⟩ (hd := zpk)
end Go.Proofs.YtelgegefmjlimaaDoor

/-
  The walk of edit.Read. No condition.
-/
namespace Go.Eng
open Go
def rdErr (w : Nat) : Value := .tuple #[.slice none 0 0, .agg #[.int .i64 271, .int .i64 (w : Int)]]
end Go.Eng
namespace Go.Proofs.YtelgegefmjlimaaDoor
open Go Go.Eng
set_option maxRecDepth 100000
set_option maxHeartbeats 4000000
set_option linter.all false
attribute [local irreducible] WL WC WQ QFun QLoop Does Q1 QRound QAssign Go.Addr.add
attribute [local irreducible] stepF
theorem sq_EQ6_1 {G : Prop} (h : G := by (repeat (first | (refine sp ?_; (repeat intro zzc)) | (refine iF 28 rfl ?_; refine w_callG Tryd.func28 ?_ (hs := eIs_int zhs (by omega) (by omega) (by omega))))); exact WQ.q1 rfl) : G := h
theorem st_EQ6_1 {G G' : Prop} (next : G') (h : Bx G' → G := by intro zzn; (first | ((refine st ?_; (repeat intro zzc)); (try ((first | (refine iF 28 rfl ?_; refine w_callG Tryd.func28 ?_ (hs := eIs_int zhs (by omega) (by omega) (by omega))) | ((refine iDraw ?_; (first | refine WC.drawAll rfl (by decide +kernel) ?_ | refine WC.draw 1 rfl (by decide +kernel) ?_ | refine WC.draw 2 rfl (by decide +kernel) ?_ | refine WC.draw 3 rfl (by decide +kernel) ?_ | refine WC.draw 4 rfl (by decide +kernel) ?_ | refine WC.draw 5 rfl (by decide +kernel) ?_ | refine WC.draw 6 rfl (by decide +kernel) ?_ | refine WC.draw 7 rfl (by decide +kernel) ?_ | refine WC.draw 8 rfl (by decide +kernel) ?_ | refine WC.draw 9 rfl (by decide +kernel) ?_ | refine WC.draw 10 rfl (by decide +kernel) ?_ | refine WC.draw 11 rfl (by decide +kernel) ?_ | refine WC.draw 12 rfl (by decide +kernel) ?_ | refine WC.draw 13 rfl (by decide +kernel) ?_ | refine WC.draw 14 rfl (by decide +kernel) ?_ | refine WC.draw 15 rfl (by decide +kernel) ?_ | refine WC.draw 16 rfl (by decide +kernel) ?_ | refine WC.draw 17 rfl (by decide +kernel) ?_ | refine WC.draw 18 rfl (by decide +kernel) ?_ | refine WC.draw 19 rfl (by decide +kernel) ?_ | refine WC.draw 20 rfl (by decide +kernel) ?_ | refine WC.draw 21 rfl (by decide +kernel) ?_ | refine WC.draw 22 rfl (by decide +kernel) ?_ | refine WC.draw 23 rfl (by decide +kernel) ?_ | refine WC.draw 24 rfl (by decide +kernel) ?_)); (repeat (refine WD.cons rfl (fun c h => by cases h) sq_EQ6_1 ?_)); refine WD.nil ?_)); (try (refine st ?_; (repeat intro zzc)))))) | ((first | (refine iF 28 rfl ?_; refine w_callG Tryd.func28 ?_ (hs := eIs_int zhs (by omega) (by omega) (by omega))) | ((refine iDraw ?_; (first | refine WC.drawAll rfl (by decide +kernel) ?_ | refine WC.draw 1 rfl (by decide +kernel) ?_ | refine WC.draw 2 rfl (by decide +kernel) ?_ | refine WC.draw 3 rfl (by decide +kernel) ?_ | refine WC.draw 4 rfl (by decide +kernel) ?_ | refine WC.draw 5 rfl (by decide +kernel) ?_ | refine WC.draw 6 rfl (by decide +kernel) ?_ | refine WC.draw 7 rfl (by decide +kernel) ?_ | refine WC.draw 8 rfl (by decide +kernel) ?_ | refine WC.draw 9 rfl (by decide +kernel) ?_ | refine WC.draw 10 rfl (by decide +kernel) ?_ | refine WC.draw 11 rfl (by decide +kernel) ?_ | refine WC.draw 12 rfl (by decide +kernel) ?_ | refine WC.draw 13 rfl (by decide +kernel) ?_ | refine WC.draw 14 rfl (by decide +kernel) ?_ | refine WC.draw 15 rfl (by decide +kernel) ?_ | refine WC.draw 16 rfl (by decide +kernel) ?_ | refine WC.draw 17 rfl (by decide +kernel) ?_ | refine WC.draw 18 rfl (by decide +kernel) ?_ | refine WC.draw 19 rfl (by decide +kernel) ?_ | refine WC.draw 20 rfl (by decide +kernel) ?_ | refine WC.draw 21 rfl (by decide +kernel) ?_ | refine WC.draw 22 rfl (by decide +kernel) ?_ | refine WC.draw 23 rfl (by decide +kernel) ?_ | refine WC.draw 24 rfl (by decide +kernel) ?_)); (repeat (refine WD.cons rfl (fun c h => by cases h) sq_EQ6_1 ?_)); refine WD.nil ?_)); (try (refine st ?_; (repeat intro zzc))))); (repeat ((first | (refine iF 28 rfl ?_; refine w_callG Tryd.func28 ?_ (hs := eIs_int zhs (by omega) (by omega) (by omega))) | ((refine iDraw ?_; (first | refine WC.drawAll rfl (by decide +kernel) ?_ | refine WC.draw 1 rfl (by decide +kernel) ?_ | refine WC.draw 2 rfl (by decide +kernel) ?_ | refine WC.draw 3 rfl (by decide +kernel) ?_ | refine WC.draw 4 rfl (by decide +kernel) ?_ | refine WC.draw 5 rfl (by decide +kernel) ?_ | refine WC.draw 6 rfl (by decide +kernel) ?_ | refine WC.draw 7 rfl (by decide +kernel) ?_ | refine WC.draw 8 rfl (by decide +kernel) ?_ | refine WC.draw 9 rfl (by decide +kernel) ?_ | refine WC.draw 10 rfl (by decide +kernel) ?_ | refine WC.draw 11 rfl (by decide +kernel) ?_ | refine WC.draw 12 rfl (by decide +kernel) ?_ | refine WC.draw 13 rfl (by decide +kernel) ?_ | refine WC.draw 14 rfl (by decide +kernel) ?_ | refine WC.draw 15 rfl (by decide +kernel) ?_ | refine WC.draw 16 rfl (by decide +kernel) ?_ | refine WC.draw 17 rfl (by decide +kernel) ?_ | refine WC.draw 18 rfl (by decide +kernel) ?_ | refine WC.draw 19 rfl (by decide +kernel) ?_ | refine WC.draw 20 rfl (by decide +kernel) ?_ | refine WC.draw 21 rfl (by decide +kernel) ?_ | refine WC.draw 22 rfl (by decide +kernel) ?_ | refine WC.draw 23 rfl (by decide +kernel) ?_ | refine WC.draw 24 rfl (by decide +kernel) ?_)); (repeat (refine WD.cons rfl (fun c h => by cases h) sq_EQ6_1 ?_)); refine WD.nil ?_)); (try (refine st ?_; (repeat intro zzc))))); (repeat revert zzc); exact zzn.out) : G := h ⟨next⟩
theorem eRead_any (s : List UInt8) (hs : s.length ≤ 200000) {w0 : World} {m : Mem} {H : SHeap} (hg : GTabs Tryd.prog m) :
    Does Tryd.prog 8 #[str s] w0 m H (fun v m' H' => m' = m ∧ ((∃ (e : Nat) (l : List Stp) (a9 : Option Addr) (c9 : Nat), readF s (s.length + 1) 0 0 0 [] = .yes e l ∧ v = .tuple #[.slice a9 l.length c9, .agg #[.int .i64 0, .int .i64 0]] ∧ H' = .row a9 c9 39 3 (l.map Stp.cs) :: H) ∨
      (∃ w, readF s (s.length + 1) 0 0 0 [] = .no w ∧ v = rdErr w ∧ H' = H))) := by
  refine Does.of_body (args := [str s]) Tryd.func8 rfl Tryd.ntmps8 rfl ?_
  generalize hR : readF s (s.length + 1) 0 0 0 [] = R
  refine WC.newRow (T := 39) (sz := 3) ?_
  (refine st_EQ6_1 ?_; intros; rename_i bs b)
  refine WC.loopH [(0, str s), (3, .pointer (some ⟨bs, 0, none⟩)), (4, .pointer (some ⟨b, 0, none⟩)), (5, .slice (none) (0) (0))] ?_ ?_ (fun j r ds m' H' => ∃ (f : Nat) (a : Nat) (fr : Nat) (to : Nat) (l : List Stp) (wr : Int) (a9 : Option Addr) (c9 : Nat) (n9 : Nat), j = 2 * f ∧ r = [(0, str s), (3, .pointer (some ⟨bs, 0, none⟩)), (4, .pointer (some ⟨b, 0, none⟩)), (5, .slice a9 n9 c9)] ∧ ds = [] ∧ m = m' ∧ H' = .row a9 c9 39 3 (l.map Stp.cs) :: .blk b (.cells [str s, .int .i64 (a : Int), .int .i64 wr, .int .i64 (fr : Int), .int .i64 (to : Int)].toArray 61 (0, 0)) :: .blk bs (.cells [.int .i64 0, .int .i64 0].toArray 29 (0, 0)) :: H ∧ (n9 = l.length) ∧ (l.length ≤ a ∧ a ≤ s.length) ∧ (fr ≤ 65536 ∧ to ≤ 65536) ∧ (s.length < a + f) ∧ (readF s f a fr to l = R)) (2 * (s.length + 1)) ⟨s.length + 1, 0, 0, 0, [], 0, none, 0, 0, rfl, rfl, rfl, rfl, rfl, rfl, ⟨by simp, by omega⟩, ⟨by omega, by omega⟩, by omega, hR⟩ ?_
  · (repeat (first | exact Env.Sub.nil | refine Env.Sub.cons rfl ?_))
  · exact zpk
  rintro j r ds m' H' ⟨f, a, fr, to, l, wr, a9, c9, n9, rfl, rfl, rfl, rfl, rfl, hn9, hla, hfr, hf, hQ⟩
  subst hn9
  obtain ⟨f, rfl⟩ : ∃ g, f = g + 1 := ⟨f - 1, by omega⟩
  have hml : (l.map Stp.cs).length = l.length := List.length_map _
  have ea : (a : Int) + 1 = ((a + 1 : Nat) : Int) := by omega
  rw [readF] at hQ
  by_cases hlt : a < s.length
  · rw [if_pos hlt] at hQ
    have hga := gb_lt s a
    by_cases h1 : l ≠ [] ∧ gb s a ≠ 32
    · rw [if_pos h1] at hQ
      have hpos : 0 < l.length := List.length_pos_iff.2 h1.1
      obtain ⟨_, h2⟩ := h1
      (try (refine st_EQ6_1 ?_; intros))
      exact q_fin0 (H0 := H) ⟨rfl, .inr ⟨a, hQ.symm, rfl, rfl⟩⟩ (hd := zpk)
    · rw [if_neg h1] at hQ
      by_cases h3 : l = []
      · rw [if_pos h3] at hQ
        have hpos : l.length = 0 := by rw [h3]; rfl
        (try (refine st_EQ6_1 ?_; intros))
        refine WL.heap (H' := .blk b (.cells [str s, .int .i64 ((a : Nat) : Int), .int .i64 wr, .int .i64 (fr : Int), .int .i64 (to : Int)].toArray 61 (0, 0)) :: .row a9 c9 39 3 (l.map Stp.cs) :: .blk bs (.cells [.int .i64 0, .int .i64 0].toArray 29 (0, 0)) :: H) zpk ?_
        refine w_callF Tryd.func29 ?_ (hs := eStep_any b s (a) wr fr to hs (by omega) hfr.1 hfr.2 hg)
        rintro v m H1 ⟨rfl, (⟨e, x, hst, rfl, rfl⟩ | ⟨w, e, x, f2, t2, hst, rfl, rfl⟩)⟩
        · rw [hst] at hQ
          simp only at hQ
          have hxy := stepF_yes hst hfr.1 hfr.2
          have el : (l.map Stp.cs).length + 1 = (l ++ [x]).length := by simp
          have em : l.map Stp.cs ++ [[Value.int .i64 x.k, str x.d, str x.p]] = (l ++ [x]).map Stp.cs := by rw [List.map_append]; rfl
          have el2 : (l ++ [x]).length = l.length + 1 := by simp
          (refine st_EQ6_1 ?_; intros; rename_i bx q a8 c8)
          rw [em, el]
          refine WQ.next (2 * (f)) ⟨f, e, fr + x.k.toNat + x.d.length, to + x.k.toNat + x.p.length, l ++ [x], wr, a8, c8, (l ++ [x]).length, rfl, rfl, rfl, rfl, rfl, ?_, ?_, ?_, ?_, ?_⟩ (by omega) zsb zpk
          · rfl
          · omega
          · omega
          · omega
          · exact hQ
        · rw [hst] at hQ
          simp only at hQ
          (refine st_EQ6_1 ?_; intros; rename_i bx)
          exact q_fin0 (H0 := H) ⟨rfl, .inr ⟨w, hQ.symm, rfl, rfl⟩⟩ (hd := zpk)
      · rw [if_neg h3] at hQ
        have hpos : 0 < l.length := List.length_pos_iff.2 h3
        have h2 : gb s a = 32 := Decidable.byContradiction fun h => h1 ⟨h3, h⟩
        (try (refine st_EQ6_1 ?_; intros))
        rw [ea]
        refine WL.heap (H' := .blk b (.cells [str s, .int .i64 ((a + 1 : Nat) : Int), .int .i64 wr, .int .i64 (fr : Int), .int .i64 (to : Int)].toArray 61 (0, 0)) :: .row a9 c9 39 3 (l.map Stp.cs) :: .blk bs (.cells [.int .i64 0, .int .i64 0].toArray 29 (0, 0)) :: H) zpk ?_
        refine w_callF Tryd.func29 ?_ (hs := eStep_any b s (a + 1) wr fr to hs (by omega) hfr.1 hfr.2 hg)
        rintro v m H1 ⟨rfl, (⟨e, x, hst, rfl, rfl⟩ | ⟨w, e, x, f2, t2, hst, rfl, rfl⟩)⟩
        · rw [hst] at hQ
          simp only at hQ
          have hxy := stepF_yes hst hfr.1 hfr.2
          have el : (l.map Stp.cs).length + 1 = (l ++ [x]).length := by simp
          have em : l.map Stp.cs ++ [[Value.int .i64 x.k, str x.d, str x.p]] = (l ++ [x]).map Stp.cs := by rw [List.map_append]; rfl
          have el2 : (l ++ [x]).length = l.length + 1 := by simp
          (refine st_EQ6_1 ?_; intros; rename_i bx q a8 c8)
          rw [em, el]
          refine WQ.next (2 * (f)) ⟨f, e, fr + x.k.toNat + x.d.length, to + x.k.toNat + x.p.length, l ++ [x], wr, a8, c8, (l ++ [x]).length, rfl, rfl, rfl, rfl, rfl, ?_, ?_, ?_, ?_, ?_⟩ (by omega) zsb zpk
          · rfl
          · omega
          · omega
          · omega
          · exact hQ
        · rw [hst] at hQ
          simp only at hQ
          (refine st_EQ6_1 ?_; intros; rename_i bx)
          exact q_fin0 (H0 := H) ⟨rfl, .inr ⟨w, hQ.symm, rfl, rfl⟩⟩ (hd := zpk)
  · rw [if_neg hlt] at hQ
    (try (refine st_EQ6_1 ?_; intros))
    exact q_fin0 (H0 := .row a9 c9 39 3 (l.map Stp.cs) :: H) ⟨rfl, .inl ⟨a, l, a9, c9, hQ.symm, rfl, rfl⟩⟩ (hd := zpk)
end Go.Proofs.YtelgegefmjlimaaDoor

/-
  The walk of the law's own copy of a change, of whatever size the change is. No condition.
-/
namespace Go.Eng
open Go
/-- of such size as any machine's memory may hold -/
structure FitW (l : List Stp) : Prop where
  len : l.length ≤ 140737488355328
  k : ∀ s ∈ l, -9223372036854775808 ≤ s.k ∧ s.k ≤ 9223372036854775807
  d : ∀ s ∈ l, s.d.length ≤ 140737488355328
  p : ∀ s ∈ l, s.p.length ≤ 140737488355328
/-- how many bytes a change's steps have -/
def bytesS (l : List Stp) : Nat := (l.map fun x => x.d.length + x.p.length).sum
theorem refN_small : ∀ (l : List Stp) (i : Nat) (n : Int), refN l i n = true → n ≤ 5000 → (bytesS l : Int) + n ≤ 5000 ∧ (l = [] ∨ l.length + i ≤ 5001)
  | [], i, n, _, h => ⟨by simp only [bytesS, List.map_nil, List.sum_nil]; omega, .inl rfl⟩
  | x :: l, i, n, h, h0 => by
    rw [refN] at h
    have h2 : 0 ≤ (if 0 < x.k ∧ x.k ≤ 65536 then x.k / 8 else 0) := by split <;> omega
    generalize (if 0 < x.k ∧ x.k ≤ 65536 then x.k / 8 else 0) = q at h h2
    by_cases h1 : 5000 < n + ((x.d.length : Int) + (x.p.length : Int)) + q ∨ 5000 < i
    · rw [if_pos h1] at h; cases h
    · rw [if_neg h1] at h
      obtain ⟨h3, h4⟩ := refN_small l (i + 1) _ h (by omega)
      have e : bytesS (x :: l) = x.d.length + x.p.length + bytesS l := by simp [bytesS]
      refine ⟨by rw [e]; omega, .inr ?_⟩
      rw [List.length_cons]
      rcases h4 with rfl | h4
      · simp only [List.length_nil]; omega
      · omega
theorem bytesS_mem {l : List Stp} {x : Stp} (h : x ∈ l) : x.d.length + x.p.length ≤ bytesS l := by
  obtain ⟨A, B, rfl⟩ := List.append_of_mem h
  simp only [bytesS, List.map_append, List.map_cons, List.sum_append, List.sum_cons]
  omega
theorem FitW.fit {l : List Stp} (h : FitW l) (hs : smallOf l = true) : Fit l := by
  obtain ⟨h2, h3⟩ := refN_small l 0 0 hs (by omega)
  refine ⟨?_, h.k, fun x hx => ?_, fun x hx => ?_⟩
  · rcases h3 with rfl | h3
    · simp
    · omega
  · have := bytesS_mem hx; omega
  · have := bytesS_mem hx; omega
end Go.Eng
namespace Go.Proofs.YtelgegefmjlimaaDoor
open Go Go.Eng
set_option maxRecDepth 100000
set_option maxHeartbeats 4000000
set_option linter.all false
attribute [local irreducible] WL WC WQ QFun QLoop Does Q1 QRound QAssign Go.Addr.add
theorem cmx_EQR_0 {G G' : Prop} (next : G') (h : Bx G' → G := by intro zzn; (try (refine wcal 0 ?_ (hwl := by intro zm zF zle; have hrz := (hr ([] ++ zF)).le zle; ((repeat (refine sp ?_; intros)); exact WQ.q1 rfl)))); (try (refine wcal 1 ?_ (hwl := by intro zm zF zle; have hrz := (hr ([] ++ zF)).le zle; ((repeat (refine sp ?_; intros)); exact WQ.q1 rfl)))); (try (refine wcal 2 ?_ (hwl := by intro zm zF zle; have hrz := (hr ([] ++ zF)).le zle; ((repeat (refine sp ?_; intros)); exact WQ.q1 rfl)))); (try (refine wcal 3 ?_ (hwl := by intro zm zF zle; have hrz := (hr ([] ++ zF)).le zle; ((repeat (refine sp ?_; intros)); exact WQ.q1 rfl)))); (try (refine wcal 4 ?_ (hwl := by intro zm zF zle; have hrz := (hr ([] ++ zF)).le zle; ((repeat (refine sp ?_; intros)); exact WQ.q1 rfl)))); (try (refine wcal 5 ?_ (hwl := by intro zm zF zle; have hrz := (hr ([] ++ zF)).le zle; ((repeat (refine sp ?_; intros)); exact WQ.q1 rfl)))); (try (refine wcal 6 ?_ (hwl := by intro zm zF zle; have hrz := (hr ([] ++ zF)).le zle; ((repeat (refine sp ?_; intros)); exact WQ.q1 rfl)))); (try (refine wcal 7 ?_ (hwl := by intro zm zF zle; have hrz := (hr ([] ++ zF)).le zle; ((repeat (refine sp ?_; intros)); exact WQ.q1 rfl)))); (try (refine wcal 8 ?_ (hwl := by intro zm zF zle; have hrz := (hr ([] ++ zF)).le zle; ((repeat (refine sp ?_; intros)); exact WQ.q1 rfl)))); (try (refine wcal 9 ?_ (hwl := by intro zm zF zle; have hrz := (hr ([] ++ zF)).le zle; ((repeat (refine sp ?_; intros)); exact WQ.q1 rfl)))); (try (refine wcal 10 ?_ (hwl := by intro zm zF zle; have hrz := (hr ([] ++ zF)).le zle; ((repeat (refine sp ?_; intros)); exact WQ.q1 rfl)))); (try (refine wcal 11 ?_ (hwl := by intro zm zF zle; have hrz := (hr ([] ++ zF)).le zle; ((repeat (refine sp ?_; intros)); exact WQ.q1 rfl)))); (try (refine wcal 12 ?_ (hwl := by intro zm zF zle; have hrz := (hr ([] ++ zF)).le zle; ((repeat (refine sp ?_; intros)); exact WQ.q1 rfl)))); (try (refine wcal 13 ?_ (hwl := by intro zm zF zle; have hrz := (hr ([] ++ zF)).le zle; ((repeat (refine sp ?_; intros)); exact WQ.q1 rfl)))); (try (refine wcal 14 ?_ (hwl := by intro zm zF zle; have hrz := (hr ([] ++ zF)).le zle; ((repeat (refine sp ?_; intros)); exact WQ.q1 rfl)))); (try (refine wcal 15 ?_ (hwl := by intro zm zF zle; have hrz := (hr ([] ++ zF)).le zle; ((repeat (refine sp ?_; intros)); exact WQ.q1 rfl)))); (try (refine wcal 16 ?_ (hwl := by intro zm zF zle; have hrz := (hr ([] ++ zF)).le zle; ((repeat (refine sp ?_; intros)); exact WQ.q1 rfl)))); (try (refine wcal 17 ?_ (hwl := by intro zm zF zle; have hrz := (hr ([] ++ zF)).le zle; ((repeat (refine sp ?_; intros)); exact WQ.q1 rfl)))); (try (refine wcal 18 ?_ (hwl := by intro zm zF zle; have hrz := (hr ([] ++ zF)).le zle; ((repeat (refine sp ?_; intros)); exact WQ.q1 rfl)))); (try (refine wcal 19 ?_ (hwl := by intro zm zF zle; have hrz := (hr ([] ++ zF)).le zle; ((repeat (refine sp ?_; intros)); exact WQ.q1 rfl)))); (try (refine wcal 20 ?_ (hwl := by intro zm zF zle; have hrz := (hr ([] ++ zF)).le zle; ((repeat (refine sp ?_; intros)); exact WQ.q1 rfl)))); (try (refine wcal 21 ?_ (hwl := by intro zm zF zle; have hrz := (hr ([] ++ zF)).le zle; ((repeat (refine sp ?_; intros)); exact WQ.q1 rfl)))); (try (refine wcal 22 ?_ (hwl := by intro zm zF zle; have hrz := (hr ([] ++ zF)).le zle; ((repeat (refine sp ?_; intros)); exact WQ.q1 rfl)))); (try (refine wcal 23 ?_ (hwl := by intro zm zF zle; have hrz := (hr ([] ++ zF)).le zle; ((repeat (refine sp ?_; intros)); exact WQ.q1 rfl)))); (try (refine wcal 24 ?_ (hwl := by intro zm zF zle; have hrz := (hr ([] ++ zF)).le zle; ((repeat (refine sp ?_; intros)); exact WQ.q1 rfl)))); (try (refine wcal 25 ?_ (hwl := by intro zm zF zle; have hrz := (hr ([] ++ zF)).le zle; ((repeat (refine sp ?_; intros)); exact WQ.q1 rfl)))); (try (refine wcal 26 ?_ (hwl := by intro zm zF zle; have hrz := (hr ([] ++ zF)).le zle; ((repeat (refine sp ?_; intros)); exact WQ.q1 rfl)))); (try (refine wcal 27 ?_ (hwl := by intro zm zF zle; have hrz := (hr ([] ++ zF)).le zle; ((repeat (refine sp ?_; intros)); exact WQ.q1 rfl)))); (try (refine wcal 28 ?_ (hwl := by intro zm zF zle; have hrz := (hr ([] ++ zF)).le zle; ((repeat (refine sp ?_; intros)); exact WQ.q1 rfl)))); (try (refine wcal 29 ?_ (hwl := by intro zm zF zle; have hrz := (hr ([] ++ zF)).le zle; ((repeat (refine sp ?_; intros)); exact WQ.q1 rfl)))); (try (refine wcal 30 ?_ (hwl := by intro zm zF zle; have hrz := (hr ([] ++ zF)).le zle; ((repeat (refine sp ?_; intros)); exact WQ.q1 rfl)))); (try (refine wcal 31 ?_ (hwl := by intro zm zF zle; have hrz := (hr ([] ++ zF)).le zle; ((repeat (refine sp ?_; intros)); exact WQ.q1 rfl)))); (try (refine wcal 32 ?_ (hwl := by intro zm zF zle; have hrz := (hr ([] ++ zF)).le zle; ((repeat (refine sp ?_; intros)); exact WQ.q1 rfl)))); (try (refine wcal 33 ?_ (hwl := by intro zm zF zle; have hrz := (hr ([] ++ zF)).le zle; ((repeat (refine sp ?_; intros)); exact WQ.q1 rfl)))); (try (refine wcal 34 ?_ (hwl := by intro zm zF zle; have hrz := (hr ([] ++ zF)).le zle; ((repeat (refine sp ?_; intros)); exact WQ.q1 rfl)))); (try (refine wcal 35 ?_ (hwl := by intro zm zF zle; have hrz := (hr ([] ++ zF)).le zle; ((repeat (refine sp ?_; intros)); exact WQ.q1 rfl)))); (try (refine wcal 36 ?_ (hwl := by intro zm zF zle; have hrz := (hr ([] ++ zF)).le zle; ((repeat (refine sp ?_; intros)); exact WQ.q1 rfl)))); (try (refine wcal 37 ?_ (hwl := by intro zm zF zle; have hrz := (hr ([] ++ zF)).le zle; ((repeat (refine sp ?_; intros)); exact WQ.q1 rfl)))); (try (refine wcal 38 ?_ (hwl := by intro zm zF zle; have hrz := (hr ([] ++ zF)).le zle; ((repeat (refine sp ?_; intros)); exact WQ.q1 rfl)))); (try (refine wcal 39 ?_ (hwl := by intro zm zF zle; have hrz := (hr ([] ++ zF)).le zle; ((repeat (refine sp ?_; intros)); exact WQ.q1 rfl)))); (try (refine wcal 40 ?_ (hwl := by intro zm zF zle; have hrz := (hr ([] ++ zF)).le zle; ((repeat (refine sp ?_; intros)); exact WQ.q1 rfl)))); (try (refine wcal 41 ?_ (hwl := by intro zm zF zle; have hrz := (hr ([] ++ zF)).le zle; ((repeat (refine sp ?_; intros)); exact WQ.q1 rfl)))); exact zzn.out) : G := h ⟨next⟩
theorem refW_any {a : Option Addr} {cap : Nat} {l : List Stp} (hf : FitW l) (w0 : World) (m : Mem) (H : SHeap) (hr : ∀ Hp, RowR w0 m Hp 3 a (l.map Stp.cs)) :
    Does Tryd.prog 30 #[.slice a l.length cap] w0 m H (fun v m' H' => m' = m ∧ ((smallOf l = true ∧ ∃ c cp, v = .tuple #[.slice c l.length cp, .bool true] ∧ H' = .row c cp 55 3 (l.map Stp.cs) :: H) ∨ (smallOf l = false ∧ v = .tuple #[.slice none 0 0, .bool false] ∧ H' = H))) := by
  refine Does.of_body (args := [.slice a l.length cap]) Tryd.func30 rfl Tryd.ntmps30 rfl ?_
  have hln : (l.map Stp.cs).length = l.length := by simp
  have hlen := hf.len
  (try (refine st ?_; intros))
  refine WC.loopH [(5, .int .i64 ((0) : Int)), (4, .int .i64 (0)), (0, .slice a l.length cap)] ?_ ?_ (fun j r ds m' H' => ∃ (i : _) (n : Int), j = l.length - i ∧ r = [(5, .int .i64 (i : Int)), (4, .int .i64 n), (0, .slice a l.length cap)] ∧ ds = [] ∧ m = m' ∧ H' = H ∧ (i ≤ l.length) ∧ (0 ≤ n ∧ n ≤ 5000) ∧ (refN (l.drop i) i n = smallOf l)) (l.length - (0)) ⟨0, 0, rfl, rfl, rfl, rfl, rfl, by omega, by omega, rfl⟩ ?_
  · (repeat (first | exact Env.Sub.nil | refine Env.Sub.cons rfl ?_))
  · exact zpk
  rintro j r ds m' H' ⟨i, n, rfl, rfl, rfl, rfl, rfl, hi, hn, hs⟩
  generalize H' = H
  by_cases hlt : i < l.length
  · obtain ⟨x, hx, hget, htk, hmem, hdr⟩ := at_idx (f := Stp.cs) hlt
    have hk := hf.k x hmem
    have hd := hf.d x hmem
    have hp := hf.p x hmem
    rw [hdr, refN] at hs
    have hr1 := hr H
    refine WC.rSome hr1 (by omega) ?_
    rintro a0 rfl
    by_cases h1 : 0 < x.k ∧ x.k ≤ 65536
    · simp only [h1, and_self, if_true] at hs
      by_cases h2 : 5000 < n + ((x.d.length : Int) + (x.p.length : Int)) + x.k / 8 ∨ 5000 < (i : Int)
      · rw [if_pos (by omega)] at hs
        rcases Decidable.em (5000 < n + ((x.d.length : Int) + (x.p.length : Int)) + x.k / 8) with h3 | h3
        all_goals ((try (refine st ?_; intros)); exact q_fin0 (H0 := H) ⟨rfl, .inr ⟨hs.symm, rfl, rfl⟩⟩ (hd := zpk))
      · rw [if_neg (by omega)] at hs
        (try (refine st ?_; intros))
        refine WQ.next (l.length - (i + 1)) ⟨i + 1, _, rfl, rfl, rfl, rfl, rfl, ?_, ?_, ?_⟩ (by omega) zsb zpk
        · omega
        · omega
        · exact hs
    · simp only [h1, if_false, Int.add_zero] at hs
      by_cases h2 : 5000 < n + ((x.d.length : Int) + (x.p.length : Int)) ∨ 5000 < (i : Int)
      · rw [if_pos (by omega)] at hs
        rcases Decidable.em (5000 < n + ((x.d.length : Int) + (x.p.length : Int))) with h3 | h3 <;> rcases Decidable.em (0 < x.k) with h4 | h4
        all_goals ((try (refine st ?_; intros)); exact q_fin0 (H0 := H) ⟨rfl, .inr ⟨hs.symm, rfl, rfl⟩⟩ (hd := zpk))
      · rw [if_neg (by omega)] at hs
        rcases Decidable.em (0 < x.k) with h4 | h4
        · (try (refine st ?_; intros))
          refine WQ.next (l.length - (i + 1)) ⟨i + 1, _, rfl, rfl, rfl, rfl, rfl, ?_, ?_, ?_⟩ (by omega) zsb zpk
          · omega
          · omega
          · exact hs
        · (try (refine st ?_; intros))
          refine WQ.next (l.length - (i + 1)) ⟨i + 1, _, rfl, rfl, rfl, rfl, rfl, ?_, ?_, ?_⟩ (by omega) zsb zpk
          · omega
          · omega
          · exact hs
  · obtain rfl : i = l.length := by omega
    rw [List.drop_length, refN] at hs
    have hl5 : l.length ≤ 5001 := by
      rcases (refN_small l 0 0 hs.symm (by omega)).2 with h | h
      · rw [h]; simp
      · omega
    (try (refine st ?_; intros))
    refine WC.newRow (T := 55) (sz := 3) ?_
    refine WC.loopH [(7, .int .i64 ((0) : Int)), (6, .slice (none) (0) (0)), (0, .slice a l.length cap)] ?_ ?_ (fun j r ds m' H' => ∃ i c cp k, j = l.length - i ∧ r = [(7, .int .i64 (i : Int)), (6, .slice c k cp), (0, .slice a l.length cap)] ∧ ds = [] ∧ m = m' ∧ H' = .row c cp 55 3 ((l.map Stp.cs).take i) :: H ∧ (i ≤ l.length) ∧ (k = i)) (l.length - (0)) ⟨0, none, 0, 0, rfl, rfl, rfl, rfl, rfl, by omega, rfl⟩ ?_
    · (repeat (first | exact Env.Sub.nil | refine Env.Sub.cons rfl ?_))
    · exact zpk
    rintro j r ds m' H' ⟨i, c, cp, k, rfl, rfl, rfl, rfl, rfl, hi2, hk⟩
    subst hk
    by_cases hlt : k < l.length
    · obtain ⟨x, hx, hget, htk, hmem, hdr⟩ := at_idx (f := Stp.cs) hlt
      have hr1 := hr (.row c cp 55 3 ((l.map Stp.cs).take k) :: H)
      have htl : ((l.map Stp.cs).take k).length = k := by simp; omega
      have e : (l.map Stp.cs).take k ++ [x.cs] = (l.map Stp.cs).take (k + 1) := by rw [List.take_add_one, hget]; rfl
      refine WC.rSome hr1 (by omega) ?_
      rintro a0 rfl
      (try (refine st ?_; intros))
      refine WC.drawE 20 ([]) (.row c cp 55 3 ((l.map Stp.cs).take k) :: H) rfl (by decide +kernel) zpk ?_
      (refine cmx_EQR_0 ?_)
      refine WE.act1 17 (by decide +kernel) rfl rfl (fun c h => by cases h) ?_
      (refine st ?_; intros; rename_i q0)
      refine WQ.acted (B := []) (U := .blk q0 (.cells [.int .i64 x.k, str x.d, str x.p].toArray 55 (0, 0)) :: .row c cp 55 3 ((l.map Stp.cs).take k) :: H) rfl (Mem.le.refl _) zpk ?_
      refine WE.act1 18 (by decide +kernel) rfl rfl (fun c h => by cases h) ?_
      (refine st ?_; intros; rename_i c2 cp2)
      refine WQ.acted (B := []) (U := .row c2 cp2 55 3 ((l.map Stp.cs).take k ++ [[.int .i64 x.k, str x.d, str x.p]]) :: H) rfl (Mem.le.refl _) zpk ?_
      (refine cmx_EQR_0 ?_)
      refine WE.done (by decide +kernel) ?_
      (try (refine st ?_; intros))
      rw [htl]
      refine WQ.next (l.length - (k + 1)) ⟨k + 1, c2, cp2, k + 1, rfl, rfl, rfl, rfl, rfl, ?_, ?_⟩ (by omega) zsb ?_
      · omega
      · rfl
      · rw [← e]; exact zpk
    · obtain rfl : k = l.length := by omega
      (try (refine st ?_; intros))
      have e : (l.map Stp.cs).take l.length = l.map Stp.cs := by rw [← hln]; exact List.take_length
      rw [e]
      exact q_fin0 (H0 := .row c cp 55 3 (l.map Stp.cs) :: H) ⟨rfl, .inl ⟨hs.symm, c, cp, rfl, rfl⟩⟩ (hd := zpk)
end Go.Proofs.YtelgegefmjlimaaDoor

/-
  The walks of package edit, second part: the sizes of a change, by the program and by the reference. No condition.
-/
namespace Go.Proofs.YtelgegefmjlimaaDoor
open Go Go.Eng
set_option maxRecDepth 100000
set_option maxHeartbeats 4000000
set_option linter.all false
attribute [local irreducible] WL WC WQ QFun QLoop Does Q1 QRound QAssign Go.Addr.add
attribute [local irreducible] sizesF sizesOf
theorem sizes_any {a : Option Addr} {cap : Nat} {l : List Stp} (hf : Fit l) (w0 : World) (m : Mem) (H : SHeap) (hr : RowR w0 m H 3 a (l.map Stp.cs)) :
    Does Tryd.prog 32 #[.slice a l.length cap] w0 m H (Gives (szP (sizesOf l)) m H) := by
  refine Does.of_body (args := [.slice a l.length cap]) Tryd.func32 rfl Tryd.ntmps32 rfl ?_
  have hln : (l.map Stp.cs).length = l.length := by simp
  have hlen := hf.len
  (try (refine st ?_; intros))
  refine WC.loopH [(12, .int .i64 ((0) : Int)), (11, .int .i64 (l.length : Int)), (10, .slice a l.length cap), (5, .int .i64 (0)), (6, .int .i64 (0))] ?_ ?_ (fun j r ds m' H' => ∃ (i : _) (f : Int) (t : Int), j = l.length - i ∧ r = [(12, .int .i64 (i : Int)), (11, .int .i64 (l.length : Int)), (10, .slice a l.length cap), (5, .int .i64 f), (6, .int .i64 t)] ∧ ds = [] ∧ m = m' ∧ H' = H ∧ (i ≤ l.length) ∧ (0 ≤ f ∧ f ≤ 65536 ∧ 0 ≤ t ∧ t ≤ 65536) ∧ (sizesF (l.drop i) f t = sizesOf l) ∧ (RowR w0 m H 3 a (l.map Stp.cs))) (l.length - (0)) ⟨0, 0, 0, rfl, rfl, rfl, rfl, rfl, by omega, by omega, by rw [sizesOf]; rfl, hr⟩ ?_
  · (repeat (first | exact Env.Sub.nil | refine Env.Sub.cons rfl ?_))
  · exact zpk
  rintro j r ds m' H' ⟨i, f, t, rfl, rfl, rfl, rfl, rfl, hi, hn, hs, hr⟩
  generalize H' = H at *
  by_cases hlt : i < l.length
  · obtain ⟨x, hx, hget, htk, hmem, hdr⟩ := at_idx (f := Stp.cs) hlt
    have hk := hf.k x hmem
    have hd := hf.d x hmem
    have hp := hf.p x hmem
    rw [hdr] at hs
    refine WC.rSome hr (by omega) ?_
    rintro a0 rfl
    have hdl : x.d = [] → x.d.length = 0 := fun h => by rw [h]; rfl
    have hpl : x.p = [] → x.p.length = 0 := fun h => by rw [h]; rfl
    by_cases h1 : x.k = 0 <;> by_cases h2 : x.d = [] <;> by_cases h3 : x.p = []
    · rw [sizesF_bad (fun h => by simp [stpOk, h1, h2, h3] at h)] at hs
      (try (refine st ?_; intros))
      exact q_fin0 (H0 := H) (Gives.mk (by rw [← hs]; try rfl)) (hd := zpk)
    · have hok : stpOk x := .inr (.inr ⟨h1, h2, h3⟩)
      have h2' := hdl h2
      by_cases h4 : t + (x.k + (x.p.length : Int)) ≤ 65536
      · rw [sizesF_good hok (by omega) (by omega) (by omega)] at hs
        (try (refine st ?_; intros))
        refine WQ.next (l.length - (i + 1)) ⟨i + 1, _, _, rfl, rfl, rfl, rfl, rfl, ?_, ?_, ?_, ?_⟩ (by omega) zsb zpk
        · omega
        · omega
        · rw [← hs]; congr 1 <;> omega
        · assumption
      · rw [sizesF_bad (by omega)] at hs
        (try (refine st ?_; intros))
        exact q_fin0 (H0 := H) (Gives.mk (by rw [← hs]; try rfl)) (hd := zpk)
    · have hok : stpOk x := .inr (.inl ⟨h1, h2, h3⟩)
      have h3' := hpl h3
      by_cases h4 : f + (x.k + (x.d.length : Int)) ≤ 65536
      · rw [sizesF_good hok (by omega) (by omega) (by omega)] at hs
        (try (refine st ?_; intros))
        refine WQ.next (l.length - (i + 1)) ⟨i + 1, _, _, rfl, rfl, rfl, rfl, rfl, ?_, ?_, ?_, ?_⟩ (by omega) zsb zpk
        · omega
        · omega
        · rw [← hs]; congr 1 <;> omega
        · assumption
      · rw [sizesF_bad (by omega)] at hs
        (try (refine st ?_; intros))
        exact q_fin0 (H0 := H) (Gives.mk (by rw [← hs]; try rfl)) (hd := zpk)
    · rw [sizesF_bad (fun h => by simp [stpOk, h1, h2, h3] at h)] at hs
      (try (refine st ?_; intros))
      exact q_fin0 (H0 := H) (Gives.mk (by rw [← hs]; try rfl)) (hd := zpk)
    · have h2' := hdl h2
      have h3' := hpl h3
      by_cases h5 : x.k < 0
      · rw [sizesF_bad (fun h => by rcases h.1 with g | g | g <;> omega)] at hs
        (try (refine st ?_; intros))
        exact q_fin0 (H0 := H) (Gives.mk (by rw [← hs]; try rfl)) (hd := zpk)
      · by_cases h6 : 65536 < x.k
        · rw [sizesF_bad (by omega)] at hs
          (try (refine st ?_; intros))
          exact q_fin0 (H0 := H) (Gives.mk (by rw [← hs]; try rfl)) (hd := zpk)
        · have hok : stpOk x := .inl ⟨by omega, h2, h3⟩
          by_cases h4 : f + (x.k + (x.d.length : Int)) ≤ 65536
          · by_cases h7 : t + (x.k + (x.p.length : Int)) ≤ 65536
            · rw [sizesF_good hok (by omega) (by omega) (by omega)] at hs
              (try (refine st ?_; intros))
              refine WQ.next (l.length - (i + 1)) ⟨i + 1, _, _, rfl, rfl, rfl, rfl, rfl, ?_, ?_, ?_, ?_⟩ (by omega) zsb zpk
              · omega
              · omega
              · rw [← hs]; congr 1 <;> omega
              · assumption
            · rw [sizesF_bad (by omega)] at hs
              (try (refine st ?_; intros))
              exact q_fin0 (H0 := H) (Gives.mk (by rw [← hs]; try rfl)) (hd := zpk)
          · rw [sizesF_bad (by omega)] at hs
            (try (refine st ?_; intros))
            exact q_fin0 (H0 := H) (Gives.mk (by rw [← hs]; try rfl)) (hd := zpk)
    all_goals
      rw [sizesF_bad (fun h => by simp [stpOk, h1, h2, h3] at h)] at hs
      (try (refine st ?_; intros))
      exact q_fin0 (H0 := H) (Gives.mk (by rw [← hs]; try rfl)) (hd := zpk)
  · obtain rfl : i = l.length := by omega
    rw [List.drop_length, sizesF] at hs
    (try (refine st ?_; intros))
    exact q_fin0 (H0 := H) (Gives.mk (by rw [← hs]; try rfl)) (hd := zpk)
end Go.Proofs.YtelgegefmjlimaaDoor

/-
  The walks of package edit, fourth part: the builder's close. No condition.
-/
namespace Go.Proofs.YtelgegefmjlimaaDoor
open Go Go.Eng
set_option maxRecDepth 100000
set_option maxHeartbeats 4000000
set_option linter.all false
attribute [local irreducible] WL WC WQ QFun QLoop Does Q1 QRound QAssign Go.Addr.add
theorem close_any {b : Nat} {c : Option Addr} {cp : Nat} (B : Bld) (hB : B.l.length ≤ 1000000000000) (w0 : World) (m : Mem) (H : SHeap) :
    Does Tryd.prog 67 #[.pointer (some ⟨b, 0, none⟩)] w0 m (.blk b (.cells [.slice c B.l.length cp, str B.p, str B.d].toArray 94 (0, 0)) :: .row c cp 39 3 (B.l.map Stp.cs) :: H)
      (fun v m' H' => v = .tuple #[] ∧ m' = m ∧ ∃ c' cp', H' = .blk b (.cells [.slice c' B.close.l.length cp', str [], str []].toArray 94 (0, 0)) :: .row c' cp' 39 3 (B.close.l.map Stp.cs) :: H) := by
  refine Does.of_body (args := [.pointer (some ⟨b, 0, none⟩)]) Tryd.func67 rfl Tryd.ntmps67 rfl ?_
  have hml : (B.l.map Stp.cs).length = B.l.length := by simp
  by_cases hp : B.p = [] <;> by_cases hd : B.d = []
  · (try (refine st ?_; intros))
    have e : B.close.l = B.l := by simp [Bld.close, hp, hd]
    rw [hp, hd]
    exact q_finNorm0 (H0 := .blk b (.cells [.slice c B.l.length cp, str [], str []].toArray 94 (0, 0)) :: .row c cp 39 3 (B.l.map Stp.cs) :: H) ⟨rfl, rfl, c, cp, by rw [e]⟩ (hd := zpk)
  · (try (refine st ?_; intros))
    refine WC.drawE 14 ([.blk b (.cells [.slice c B.l.length cp, str B.p, str B.d].toArray 94 (0, 0))]) (.row c cp 39 3 (B.l.map Stp.cs) :: H) rfl (by decide +kernel) zpk ?_
    (refine cm0 ?_)
    refine WE.act1 10 (by decide +kernel) rfl rfl (fun c h => by cases h) ?_
    (refine st ?_; intros; rename_i q0)
    refine WQ.acted (B := []) (U := .blk q0 (.cells [.int .i64 0, str B.d, str []].toArray 39 (0, 0)) :: .row c cp 39 3 (B.l.map Stp.cs) :: H) rfl (Mem.le.refl _) zpk ?_
    refine WE.act1 11 (by decide +kernel) rfl rfl (fun c h => by cases h) ?_
    (refine st ?_; intros; rename_i c2 cp2)
    refine WQ.acted (B := []) (U := .row c2 cp2 39 3 (B.l.map Stp.cs ++ [[.int .i64 0, str B.d, str []]]) :: H) rfl (Mem.le.refl _) zpk ?_
    (refine cm0 ?_)
    refine WE.done (by decide +kernel) ?_
    (try (refine st ?_; intros))
    rw [hml, hp]
    have e : B.close.l = B.l ++ [⟨0, B.d, []⟩] := by simp [Bld.close, hp, hd]
    exact q_finNorm0 (H0 := .blk b (.cells [.slice c2 (B.l.length + 1) cp2, str [], str []].toArray 94 (0, 0)) :: .row c2 cp2 39 3 (B.l.map Stp.cs ++ [[.int .i64 0, str B.d, str []]]) :: H) ⟨rfl, rfl, c2, cp2, by rw [e]; simp [Stp.cs]⟩ (hd := zpk)
  · (try (refine st ?_; intros))
    refine WC.drawE 14 ([.blk b (.cells [.slice c B.l.length cp, str B.p, str B.d].toArray 94 (0, 0))]) (.row c cp 39 3 (B.l.map Stp.cs) :: H) rfl (by decide +kernel) zpk ?_
    (refine cm0 ?_)
    refine WE.act1 10 (by decide +kernel) rfl rfl (fun c h => by cases h) ?_
    (refine st ?_; intros; rename_i q0)
    refine WQ.acted (B := []) (U := .blk q0 (.cells [.int .i64 0, str [], str B.p].toArray 39 (0, 0)) :: .row c cp 39 3 (B.l.map Stp.cs) :: H) rfl (Mem.le.refl _) zpk ?_
    refine WE.act1 11 (by decide +kernel) rfl rfl (fun c h => by cases h) ?_
    (refine st ?_; intros; rename_i c2 cp2)
    refine WQ.acted (B := []) (U := .row c2 cp2 39 3 (B.l.map Stp.cs ++ [[.int .i64 0, str [], str B.p]]) :: H) rfl (Mem.le.refl _) zpk ?_
    (refine cm0 ?_)
    refine WE.done (by decide +kernel) ?_
    (try (refine st ?_; intros))
    rw [hml, hd]
    have e : B.close.l = B.l ++ [⟨0, [], B.p⟩] := by simp [Bld.close, hp, hd]
    exact q_finNorm0 (H0 := .blk b (.cells [.slice c2 (B.l.length + 1) cp2, str [], str []].toArray 94 (0, 0)) :: .row c2 cp2 39 3 (B.l.map Stp.cs ++ [[.int .i64 0, str [], str B.p]]) :: H) ⟨rfl, rfl, c2, cp2, by rw [e]; simp [Stp.cs]⟩ (hd := zpk)
  · have hml1 : (B.l.map Stp.cs ++ [[.int .i64 0, str [], str B.p]]).length = B.l.length + 1 := by simp
    (try (refine st ?_; intros))
    refine WC.drawE 14 ([.blk b (.cells [.slice c B.l.length cp, str B.p, str B.d].toArray 94 (0, 0))]) (.row c cp 39 3 (B.l.map Stp.cs) :: H) rfl (by decide +kernel) zpk ?_
    (refine cm0 ?_)
    refine WE.act1 10 (by decide +kernel) rfl rfl (fun c h => by cases h) ?_
    (refine st ?_; intros; rename_i q0)
    refine WQ.acted (B := []) (U := .blk q0 (.cells [.int .i64 0, str [], str B.p].toArray 39 (0, 0)) :: .row c cp 39 3 (B.l.map Stp.cs) :: H) rfl (Mem.le.refl _) zpk ?_
    refine WE.act1 11 (by decide +kernel) rfl rfl (fun c h => by cases h) ?_
    (refine st ?_; intros; rename_i c2 cp2)
    refine WQ.acted (B := []) (U := .row c2 cp2 39 3 (B.l.map Stp.cs ++ [[.int .i64 0, str [], str B.p]]) :: H) rfl (Mem.le.refl _) zpk ?_
    (refine cm0 ?_)
    refine WE.done (by decide +kernel) ?_
    (try (refine st ?_; intros))
    rw [hml]
    refine WC.drawE 14 ([.blk b (.cells [.slice c2 (B.l.length + 1) cp2, str B.p, str B.d].toArray 94 (0, 0))]) (.row c2 cp2 39 3 (B.l.map Stp.cs ++ [[.int .i64 0, str [], str B.p]]) :: H) rfl (by decide +kernel) zpk ?_
    (refine cm0 ?_)
    refine WE.act1 10 (by decide +kernel) rfl rfl (fun c h => by cases h) ?_
    (refine st ?_; intros; rename_i q0)
    refine WQ.acted (B := []) (U := .blk q0 (.cells [.int .i64 0, str B.d, str []].toArray 39 (0, 0)) :: .row c2 cp2 39 3 (B.l.map Stp.cs ++ [[.int .i64 0, str [], str B.p]]) :: H) rfl (Mem.le.refl _) zpk ?_
    refine WE.act1 11 (by decide +kernel) rfl rfl (fun c h => by cases h) ?_
    (refine st ?_; intros; rename_i c3 cp3)
    refine WQ.acted (B := []) (U := .row c3 cp3 39 3 (B.l.map Stp.cs ++ [[.int .i64 0, str [], str B.p]] ++ [[.int .i64 0, str B.d, str []]]) :: H) rfl (Mem.le.refl _) zpk ?_
    (refine cm0 ?_)
    refine WE.done (by decide +kernel) ?_
    (try (refine st ?_; intros))
    rw [hml1]
    have e : B.close.l = B.l ++ [⟨0, [], B.p⟩] ++ [⟨0, B.d, []⟩] := by simp [Bld.close, hp, hd]
    exact q_finNorm0 (H0 := .blk b (.cells [.slice c3 (B.l.length + 1 + 1) cp3, str [], str []].toArray 94 (0, 0)) :: .row c3 cp3 39 3 (B.l.map Stp.cs ++ [[.int .i64 0, str [], str B.p]] ++ [[.int .i64 0, str B.d, str []]]) :: H) ⟨rfl, rfl, c3, cp3, by rw [e]; simp [Stp.cs]⟩ (hd := zpk)
end Go.Proofs.YtelgegefmjlimaaDoor

/-
  Plain facts on changes: how large a builder grows. No condition.
-/
namespace Go.Eng
open Go
/-- no number of it is above N -/
structure BFit (N : Nat) (B : Bld) : Prop where
  len : B.l.length ≤ N
  k : ∀ s ∈ B.l, 0 ≤ s.k ∧ s.k ≤ N
  p : B.p.length ≤ N
  d : B.d.length ≤ N
theorem BFit.mono {N M : Nat} {B : Bld} (h : BFit N B) (hm : N ≤ M) : BFit M B :=
  ⟨by have := h.len; omega, fun s hs => by have := h.k s hs; omega, by have := h.p; omega, by have := h.d; omega⟩
theorem BFit.start : BFit 0 Bld.start := ⟨Nat.le_refl _, fun s hs => by simp [Bld.start] at hs, Nat.le_refl _, Nat.le_refl _⟩
theorem BFit.close {N : Nat} {B : Bld} (h : BFit N B) : BFit (N + 2) B.close := by
  refine ⟨?_, fun s hs => ?_, by simp [Bld.close], by simp [Bld.close]⟩
  · have := h.len
    unfold Bld.close
    split <;> split <;> simp <;> omega
  · unfold Bld.close at hs
    simp only [List.mem_append] at hs
    rcases hs with (hs | hs) | hs
    · have := h.k s hs; omega
    · split at hs <;> simp at hs; subst hs; simp; omega
    · split at hs <;> simp at hs; subst hs; simp; omega
theorem addKeep_k {N : Nat} {l : List Stp} {n : Nat} (h : ∀ s ∈ l, 0 ≤ s.k ∧ s.k ≤ N) : (∀ s ∈ addKeep l n, 0 ≤ s.k ∧ s.k ≤ ((N + n : Nat) : Int)) ∧ (addKeep l n).length ≤ l.length + 1 := by
  unfold addKeep
  cases hl : l.getLast? with
  | none => simp; omega
  | some s =>
    obtain ⟨ys, e⟩ := List.getLast?_eq_some_iff.1 hl
    have hs := h s (by rw [e]; simp)
    have e2 : l.dropLast = ys := by rw [e]; simp
    simp only [e2]
    split
    · refine ⟨fun x hx => ?_, by rw [e]; simp⟩
      simp only [List.mem_append, List.mem_singleton] at hx
      rcases hx with hx | rfl
      · have := h x (by rw [e]; simp [hx]); omega
      · simp; omega
    · refine ⟨fun x hx => ?_, by simp⟩
      simp only [List.mem_append, List.mem_singleton] at hx
      rcases hx with hx | rfl
      · have := h x hx; omega
      · simp; omega
theorem BFit.keep {N n : Nat} {B : Bld} (h : BFit N B) : BFit (N + n + 3) (B.keep n) := by
  unfold Bld.keep
  split
  · exact h.mono (by omega)
  · have hc := h.close
    obtain ⟨h1, h2⟩ := addKeep_k (n := n) hc.k
    exact ⟨by have := hc.len; simp only; omega, fun s hs => by have := h1 s hs; omega, by simp, by simp⟩
theorem BFit.atom {N : Nat} {B : Bld} (h : BFit N B) (a : Atm) : BFit (N + 4) (B.atom a) := by
  cases a with
  | k => exact h.keep (n := 1)
  | d c => exact ⟨by have := h.len; simp only [Bld.atom]; omega, fun s hs => by have := h.k s hs; omega, by have := h.p; simp only [Bld.atom]; omega, by have := h.d; simp [Bld.atom]; omega⟩
  | p c => exact ⟨by have := h.len; simp only [Bld.atom]; omega, fun s hs => by have := h.k s hs; omega, by have := h.p; simp [Bld.atom]; omega, by have := h.d; simp only [Bld.atom]; omega⟩
theorem BFit.run : ∀ (l : List Atm) {N : Nat} {B : Bld}, BFit N B → BFit (N + 4 * l.length) (B.run l)
  | [], _, _, h => h
  | a :: l, N, B, h => by
    have := BFit.run l (h.atom a)
    exact this.mono (by simp; omega)
theorem BFit.runs (l : List Atm) : BFit (4 * l.length) (Bld.start.run l) := (BFit.run l BFit.start).mono (by omega)
theorem atoms_len (s : Stp) : s.atoms.length = s.k.toNat + s.d.length + s.p.length := by simp [Stp.atoms]; omega
theorem atoms_le : ∀ l : List Atm, l.length ≤ fromA l + toA l
  | [] => Nat.le_refl _
  | .k :: l => by have := atoms_le l; simp only [fromA, toA, List.length_cons]; omega
  | .d _ :: l => by have := atoms_le l; simp only [fromA, toA, List.length_cons]; omega
  | .p _ :: l => by have := atoms_le l; simp only [fromA, toA, List.length_cons]; omega
theorem steps_le : ∀ l : List Stp, (∀ s ∈ l, stpOk s) → l.length ≤ (atomsOf l).length
  | [], _ => Nat.le_refl _
  | s :: l, h => by
    have := steps_le l (fun x hx => h x (List.mem_cons_of_mem _ hx))
    have h1 : 1 ≤ s.atoms.length := by
      rw [atoms_len]
      rcases h s List.mem_cons_self with ⟨h, _, _⟩ | ⟨_, h, _⟩ | ⟨_, _, h⟩
      · omega
      · have := List.length_pos_iff.2 h; omega
      · have := List.length_pos_iff.2 h; omega
    rw [atoms_cons, List.length_append, List.length_cons]; omega
theorem snoc_cases {α : Type} (l : List α) : l = [] ∨ ∃ ys s, l = ys ++ [s] := by
  rcases List.eq_nil_or_concat l with h | ⟨ys, s, h⟩
  · exact .inl h
  · exact .inr ⟨ys, s, by simpa using h⟩
end Go.Eng

/-
  The walks of package edit, sixth part: the builder's keep, step and done. No condition.
-/
namespace Go.Proofs.YtelgegefmjlimaaDoor
open Go Go.Eng
set_option maxRecDepth 100000
set_option maxHeartbeats 4000000
set_option linter.all false
attribute [local irreducible] WL WC WQ QFun QLoop Does Q1 QRound QAssign Go.Addr.add
theorem keep_any {b : Nat} {c : Option Addr} {cp : Nat} (B : Bld) (n : Nat) (hn : n ≤ 100000000000) (hB : BFit 100000000000 B) (w0 : World) (m : Mem) (H : SHeap) :
    Does Tryd.prog 45 #[.pointer (some ⟨b, 0, none⟩), .int .i64 (n : Int)] w0 m (.blk b (.cells [.slice c B.l.length cp, str B.p, str B.d].toArray 94 (0, 0)) :: .row c cp 39 3 (B.l.map Stp.cs) :: H)
      (fun v m' H' => v = .tuple #[] ∧ m' = m ∧ ∃ c' cp', H' = .blk b (.cells [.slice c' (B.keep n).l.length cp', str (B.keep n).p, str (B.keep n).d].toArray 94 (0, 0)) :: .row c' cp' 39 3 ((B.keep n).l.map Stp.cs) :: H) := by
  refine Does.of_body (args := [.pointer (some ⟨b, 0, none⟩), .int .i64 (n : Int)]) Tryd.func45 rfl Tryd.ntmps45 rfl ?_
  have hlen := hB.len
  by_cases h0 : n = 0
  · subst h0
    (try (refine st ?_; intros))
    exact q_fin0 (H0 := .blk b (.cells [.slice c B.l.length cp, str B.p, str B.d].toArray 94 (0, 0)) :: .row c cp 39 3 (B.l.map Stp.cs) :: H) ⟨rfl, rfl, c, cp, rfl⟩ (hd := zpk)
  · (try (refine st ?_; intros))
    refine w_callF Tryd.func67 ?_ (hs := close_any B (by omega) _ _ _)
    rintro v m1 H1 ⟨rfl, rfl, c1, cp1, rfl⟩
    have hkeep : B.keep n = ⟨addKeep B.close.l n, [], []⟩ := by unfold Bld.keep; rw [if_neg (by omega)]
    have hc := hB.close
    rw [hkeep]
    have hcl := hc.len
    have hck := hc.k
    generalize B.close.l = L at *
    have hml : (L.map Stp.cs).length = L.length := by simp
    rcases snoc_cases L with hL | ⟨ys, s, hL⟩
    · have hl0 : L.length = 0 := by rw [hL]; rfl
      (refine st ?_; intros; rename_i x2 c2 cp2)
      rw [hml]
      have e : addKeep L n = L ++ [⟨n, [], []⟩] := by rw [hL]; rfl
      exact q_finNorm0 (H0 := .blk b (.cells [.slice c2 (L.length + 1) cp2, str [], str []].toArray 94 (0, 0)) :: .row c2 cp2 39 3 (L.map Stp.cs ++ [[.int .i64 n, str [], str []]]) :: H) ⟨rfl, rfl, c2, cp2, by rw [e]; simp [Stp.cs]⟩ (hd := zpk)
    · have hl1 : L.length = ys.length + 1 := by rw [hL]; simp
      have hget : (L.map Stp.cs)[L.length - 1]? = some s.cs := by rw [hL]; simp
      have hsk := hck s (by rw [hL]; simp)
      refine WL.rowSome (a := c1) zhs (by omega) ?_
      rintro c0 rfl
      by_cases hs : 0 < s.k
      · (try (refine st ?_; intros))
        have e : (addKeep L n).length = L.length ∧ (addKeep L n).map Stp.cs = (L.map Stp.cs).set (L.length - 1) [.int .i64 (s.k + n), str s.d, str s.p] := by
          rw [hL]; constructor <;> simp [addKeep, hs, Stp.cs]
        exact q_fin0 (H0 := .blk b (.cells [.slice (some c0) L.length cp1, str [], str []].toArray 94 (0, 0)) :: .row (some c0) cp1 39 3 ((L.map Stp.cs).set (L.length - 1) [.int .i64 (s.k + n), str s.d, str s.p]) :: H) ⟨rfl, rfl, some c0, cp1, by rw [e.1, e.2]⟩ (hd := zpk)
      · (refine st ?_; intros; rename_i x2 c2 cp2)
        rw [hml]
        have e : addKeep L n = L ++ [⟨n, [], []⟩] := by rw [hL]; simp [addKeep, hs]
        exact q_finNorm0 (H0 := .blk b (.cells [.slice c2 (L.length + 1) cp2, str [], str []].toArray 94 (0, 0)) :: .row c2 cp2 39 3 (L.map Stp.cs ++ [[.int .i64 n, str [], str []]]) :: H) ⟨rfl, rfl, c2, cp2, by rw [e]; simp [Stp.cs]⟩ (hd := zpk)
end Go.Proofs.YtelgegefmjlimaaDoor

/-
  The walks of package edit, eighth part: the builder's step and done, the one form of a change. No condition.
-/
namespace Go.Eng
def Stp.v (s : Stp) : Value := .agg #[.int .i64 s.k, str s.d, str s.p]
end Go.Eng
namespace Go.Proofs.YtelgegefmjlimaaDoor
open Go Go.Eng
set_option maxRecDepth 100000
set_option maxHeartbeats 4000000
set_option linter.all false
attribute [local irreducible] WL WC WQ QFun QLoop Does Q1 QRound QAssign Go.Addr.add
theorem step_any {b : Nat} {c : Option Addr} {cp : Nat} (B : Bld) (s : Stp) (hk : s.k ≤ 100000000000) (hd : s.d.length ≤ 100000000000) (hp : s.p.length ≤ 100000000000) (hB : BFit 100000000000 B) (w0 : World) (m : Mem) (H : SHeap) :
    Does Tryd.prog 65 #[.pointer (some ⟨b, 0, none⟩), s.v] w0 m (.blk b (.cells [.slice c B.l.length cp, str B.p, str B.d].toArray 94 (0, 0)) :: .row c cp 39 3 (B.l.map Stp.cs) :: H)
      (fun v m' H' => v = .tuple #[] ∧ m' = m ∧ ∃ c' cp', H' = .blk b (.cells [.slice c' (B.step s).l.length cp', str (B.step s).p, str (B.step s).d].toArray 94 (0, 0)) :: .row c' cp' 39 3 ((B.step s).l.map Stp.cs) :: H) := by
  refine Does.of_body (args := [.pointer (some ⟨b, 0, none⟩), .agg #[.int .i64 s.k, str s.d, str s.p]]) Tryd.func65 rfl Tryd.ntmps65 rfl ?_
  have h1 := hB.p
  have h2 := hB.d
  by_cases h0 : 0 < s.k
  · obtain ⟨n, hn⟩ : ∃ n : Nat, s.k = (n : Int) := ⟨s.k.toNat, by omega⟩
    have e : B.step s = B.keep n := by unfold Bld.step; rw [if_pos h0, hn]
    rw [e, hn]
    have h0' : 0 < (n : Int) := by omega
    (refine st ?_; intros; rename_i b3)
    refine WL.heap (H' := .blk b (.cells [.slice c B.l.length cp, str B.p, str B.d].toArray 94 (0, 0)) :: .row c cp 39 3 (B.l.map Stp.cs) :: H) zpk ?_
    refine w_callF Tryd.func45 ?_ (hs := keep_any B n (by omega) hB _ _ _)
    rintro v m1 H1 ⟨rfl, rfl, c1, cp1, rfl⟩
    (try (refine st ?_; intros))
    exact q_finNorm0 (H0 := _ :: _ :: H) ⟨rfl, rfl, c1, cp1, rfl⟩ (hd := zpk)
  · by_cases h3 : s.d = []
    · have e : B.step s = ⟨B.l, B.p ++ s.p, B.d⟩ := by unfold Bld.step; rw [if_neg h0, if_neg (fun h => h h3)]
      rw [e]
      (try (refine st ?_; intros))
      exact q_finNorm0 (H0 := .blk b (.cells [.slice c B.l.length cp, str (B.p ++ s.p), str B.d].toArray 94 (0, 0)) :: .row c cp 39 3 (B.l.map Stp.cs) :: H) ⟨rfl, rfl, c, cp, rfl⟩ (hd := zpk)
    · have e : B.step s = ⟨B.l, B.p, B.d ++ s.d⟩ := by unfold Bld.step; rw [if_neg h0, if_pos h3]
      rw [e]
      (try (refine st ?_; intros))
      exact q_finNorm0 (H0 := .blk b (.cells [.slice c B.l.length cp, str B.p, str (B.d ++ s.d)].toArray 94 (0, 0)) :: .row c cp 39 3 (B.l.map Stp.cs) :: H) ⟨rfl, rfl, c, cp, rfl⟩ (hd := zpk)
theorem done_any {b : Nat} {c : Option Addr} {cp : Nat} (B : Bld) (hB : B.l.length ≤ 1000000000000) (w0 : World) (m : Mem) (H : SHeap) :
    Does Tryd.prog 46 #[.pointer (some ⟨b, 0, none⟩)] w0 m (.blk b (.cells [.slice c B.l.length cp, str B.p, str B.d].toArray 94 (0, 0)) :: .row c cp 39 3 (B.l.map Stp.cs) :: H)
      (fun v m' H' => m' = m ∧ ∃ c' cp', v = .slice c' B.close.l.length cp' ∧ H' = .row c' cp' 39 3 (B.close.l.map Stp.cs) :: H) := by
  refine Does.of_body (args := [.pointer (some ⟨b, 0, none⟩)]) Tryd.func46 rfl Tryd.ntmps46 rfl ?_
  (try (refine st ?_; intros))
  refine w_callF Tryd.func67 ?_ (hs := close_any B hB _ _ _)
  rintro v m1 H1 ⟨rfl, rfl, c1, cp1, rfl⟩
  (try (refine st ?_; intros))
  exact q_fin0 (H0 := .row c1 cp1 39 3 (B.close.l.map Stp.cs) :: H) ⟨rfl, c1, cp1, rfl, rfl⟩ (hd := zpk)
theorem plain_any {a : Option Addr} {cap : Nat} {l : List Stp} (hok : ∀ s ∈ l, stpOk s) (hl : (atomsOf l).length ≤ 1000000000) (w0 : World) (m : Mem) (H : SHeap) (hr : RowR w0 m H 3 a (l.map Stp.cs)) :
    Does Tryd.prog 40 #[.slice a l.length cap] w0 m H (fun v m' H' => m' = m ∧ ∃ c' cp', v = .slice c' (plainOf l).length cp' ∧ H' = .row c' cp' 39 3 ((plainOf l).map Stp.cs) :: H) := by
  refine Does.of_body (args := [.slice a l.length cap]) Tryd.func40 rfl Tryd.ntmps40 rfl ?_
  have hln : (l.map Stp.cs).length = l.length := by simp
  have hlen := steps_le l hok
  (refine st ?_; intros; rename_i b)
  refine WC.newRow (T := 39) (sz := 3) ?_
  refine WC.loopH [(8, .int .i64 ((0) : Int)), (7, .int .i64 (l.length : Int)), (6, .slice a l.length cap), (3, .pointer (some ⟨b, 0, none⟩))] ?_ ?_ (fun j r ds m' H' => ∃ i c cp B, j = l.length - i ∧ r = [(8, .int .i64 (i : Int)), (7, .int .i64 (l.length : Int)), (6, .slice a l.length cap), (3, .pointer (some ⟨b, 0, none⟩))] ∧ ds = [] ∧ m = m' ∧ H' = .blk b (.cells [.slice c B.l.length cp, str B.p, str B.d].toArray 94 (0, 0)) :: .row c cp 39 3 (B.l.map Stp.cs) :: H ∧ (i ≤ l.length) ∧ (B = Bld.start.run (atomsOf (l.take i)))) (l.length - (0)) ⟨0, none, 0, Bld.start, rfl, rfl, rfl, rfl, rfl, by omega, by simp [atomsOf, Bld.run]⟩ ?_
  · (repeat (first | exact Env.Sub.nil | refine Env.Sub.cons rfl ?_))
  · exact zpk
  rintro j r ds m' H' ⟨i, c, cp, B, rfl, rfl, rfl, rfl, rfl, hi, hB⟩
  have htl : (atomsOf (l.take i)).length ≤ (atomsOf l).length := by
    have e : atomsOf l = atomsOf (l.take i) ++ atomsOf (l.drop i) := by rw [← atoms_append, List.take_append_drop]
    rw [e]; simp
  have hfit : BFit 10000000000 B := by rw [hB]; exact (BFit.runs _).mono (by omega)
  by_cases hlt : i < l.length
  · obtain ⟨x, hx, hget, htk, hmem, hdr⟩ := at_idx (f := Stp.cs) hlt
    have hr1 := (hr.more (i := .row c cp 39 3 (B.l.map Stp.cs))).more (i := .blk b (.cells [.slice c B.l.length cp, str B.p, str B.d].toArray 94 (0, 0)))
    have hxl : x.atoms.length ≤ (atomsOf l).length := by
      have e : atomsOf l = atomsOf (l.take (i + 1)) ++ atomsOf (l.drop (i + 1)) := by rw [← atoms_append, List.take_append_drop]
      rw [e, htk, atoms_append, atoms_one]; simp only [List.length_append]; omega
    rw [atoms_len] at hxl
    refine WC.rSome hr1 (by omega) ?_
    rintro a0 rfl
    (refine st ?_; intros; rename_i bx)
    refine WL.heap (H' := .blk b (.cells [.slice c B.l.length cp, str B.p, str B.d].toArray 94 (0, 0)) :: .row c cp 39 3 (B.l.map Stp.cs) :: H) zpk ?_
    refine w_callF Tryd.func65 ?_ (hs := step_any B x (by omega) (by omega) (by omega) (hfit.mono (by omega)) _ _ _)
    rintro v m1 H1 ⟨rfl, rfl, c1, cp1, rfl⟩
    (try (refine st ?_; intros))
    refine WQ.next (l.length - (i + 1)) ⟨i + 1, c1, cp1, B.step x, rfl, rfl, rfl, rfl, rfl, ?_, ?_⟩ (by omega) zsb zpk
    · omega
    · rw [htk, atoms_append, run_append, ← hB, atoms_one, run_step _ _ (hok x hmem)]
  · obtain rfl : i = l.length := by omega
    have hlen2 := hfit.len
    (try (refine st ?_; intros))
    refine w_callF Tryd.func46 ?_ (hs := done_any B (by omega) _ _ _)
    rintro v m1 H1 ⟨rfl, c1, cp1, rfl, rfl⟩
    (try (refine st ?_; intros))
    have e : B.close.l = plainOf l := by
      rw [hB, List.take_length, plainOf]
      have : ∀ (l : List Stp) (b : Bld), (∀ s ∈ l, stpOk s) → b.run (atomsOf l) = l.foldl Bld.step b := by
        intro l
        induction l with
        | nil => intro b _; rfl
        | cons s l ih => intro b h; rw [atoms_cons, run_append, run_step _ _ (h s List.mem_cons_self), ih _ (fun x hx => h x (List.mem_cons_of_mem _ hx)), List.foldl_cons]
      rw [this l _ hok]
    rw [e]
    exact q_fin0 (H0 := .row c1 cp1 39 3 ((plainOf l).map Stp.cs) :: H) ⟨rfl, c1, cp1, rfl, rfl⟩ (hd := zpk)
end Go.Proofs.YtelgegefmjlimaaDoor

/-
  What a change that may be bounds; the walk of edit.move. No condition.
-/
namespace Go.Eng
/-- what a change that may be bounds -/
theorem sized {l : List Stp} {f t : Int} (h : sizesOf l = some (f, t)) : (∀ s ∈ l, stpOk s) ∧ (atomsOf l).length ≤ 131072 ∧ (atomsOf (plainOf l)).length ≤ 131072 ∧ f = (fromA (atomsOf l) : Int) ∧ t = (toA (atomsOf l) : Int) ∧ 0 ≤ f ∧ f ≤ 65536 ∧ 0 ≤ t ∧ t ≤ 65536 := by
  obtain ⟨h1, h2, h3, h4, h5⟩ := sizesOf_some h
  have hok : ∀ s ∈ l, stpOk s := fun s hs => (h1 s hs).1
  have a1 := atoms_le (atomsOf l)
  have a2 := atoms_le (atomsOf (plainOf l))
  obtain ⟨n1, n2⟩ := nf_sizes l hok
  rw [plain_atoms, n1, n2] at a2
  unfold maxT at h4 h5
  rw [plain_atoms]
  exact ⟨hok, by omega, by omega, h2, h3, by omega, by omega, by omega, by omega⟩
end Go.Eng
namespace Go.Proofs.YtelgegefmjlimaaDoor
open Go Go.Eng
set_option maxRecDepth 100000
set_option maxHeartbeats 4000000
set_option linter.all false
attribute [local irreducible] WL WC WQ QFun QLoop Does Q1 QRound QAssign Go.Addr.add
end Go.Proofs.YtelgegefmjlimaaDoor

/-
  The walk of edit.Print. No condition.
-/
namespace Go.Eng
open Go
theorem join_print : ∀ l : List Stp, Lib.join (l.map stpW) [32] = printW l
  | [] => rfl
  | [x] => by simp [Lib.join, printW, List.intercalate]
  | x :: y :: l => by
    have := join_print (y :: l)
    unfold Lib.join at this ⊢
    rw [printW, ← this]
    simp [List.intercalate, List.intersperse]
theorem stpW_le {x : Stp} (h : stpOk x) (hk : x.k ≤ 65536) : (stpW x).length ≤ 12 * (x.d.length + x.p.length) + 10 := by
  have h1 := decL_length 4 x.k.toNat (by omega)
  have h2 := quotedW_length x.d
  have h3 := quotedW_length x.p
  unfold stpW
  split
  · simp only [List.length_cons]; omega
  · split
    · simp only [List.length_cons]; omega
    · simp only [List.length_cons]; omega
theorem stpW_in : ∀ {l : List Stp} {x : Stp}, x ∈ l → (stpW x).length ≤ (printW l).length
  | [y], x, h => by
    rw [List.mem_singleton] at h; subst h; exact Nat.le_refl _
  | y :: z :: l, x, h => by
    rw [printW, List.length_append, List.length_append]
    rcases List.mem_cons.1 h with rfl | h
    · omega
    · have := stpW_in h; omega
end Go.Eng
namespace Go.Proofs.YtelgegefmjlimaaDoor
open Go Go.Eng
set_option maxRecDepth 100000
set_option maxHeartbeats 4000000
set_option linter.all false
attribute [local irreducible] WL WC WQ QFun QLoop Does Q1 QRound QAssign Go.Addr.add
attribute [local irreducible] sizesOf sizesF stpW quotedW printW
theorem sq_EQ8_1 {G : Prop} (h : G := by (repeat (first | (refine sp ?_; (repeat intro zzc)) | (refine iF 32 rfl ?_; refine w_callG Tryd.func32 ?_ (hs := sizes_any (by assumption) _ _ _ (by assumption))) | (refine iF 60 rfl ?_; refine w_callG Tryd.func60 ?_ (hs := itoa_any (by omega) (by assumption))) | (refine iF 61 rfl ?_; refine w_callG Tryd.func61 ?_ (hs := eQuoted_any _ (by omega) (by assumption))))); exact WQ.q1 rfl) : G := h
theorem st_EQ8_1 {G G' : Prop} (next : G') (h : Bx G' → G := by intro zzn; (first | ((refine st ?_; (repeat intro zzc)); (try ((first | (refine iF 32 rfl ?_; refine w_callG Tryd.func32 ?_ (hs := sizes_any (by assumption) _ _ _ (by assumption))) | (refine iF 60 rfl ?_; refine w_callG Tryd.func60 ?_ (hs := itoa_any (by omega) (by assumption))) | (refine iF 61 rfl ?_; refine w_callG Tryd.func61 ?_ (hs := eQuoted_any _ (by omega) (by assumption))) | ((refine iDraw ?_; (first | refine WC.drawAll rfl (by decide +kernel) ?_ | refine WC.draw 1 rfl (by decide +kernel) ?_ | refine WC.draw 2 rfl (by decide +kernel) ?_ | refine WC.draw 3 rfl (by decide +kernel) ?_ | refine WC.draw 4 rfl (by decide +kernel) ?_ | refine WC.draw 5 rfl (by decide +kernel) ?_ | refine WC.draw 6 rfl (by decide +kernel) ?_ | refine WC.draw 7 rfl (by decide +kernel) ?_ | refine WC.draw 8 rfl (by decide +kernel) ?_ | refine WC.draw 9 rfl (by decide +kernel) ?_ | refine WC.draw 10 rfl (by decide +kernel) ?_ | refine WC.draw 11 rfl (by decide +kernel) ?_ | refine WC.draw 12 rfl (by decide +kernel) ?_ | refine WC.draw 13 rfl (by decide +kernel) ?_ | refine WC.draw 14 rfl (by decide +kernel) ?_ | refine WC.draw 15 rfl (by decide +kernel) ?_ | refine WC.draw 16 rfl (by decide +kernel) ?_ | refine WC.draw 17 rfl (by decide +kernel) ?_ | refine WC.draw 18 rfl (by decide +kernel) ?_ | refine WC.draw 19 rfl (by decide +kernel) ?_ | refine WC.draw 20 rfl (by decide +kernel) ?_ | refine WC.draw 21 rfl (by decide +kernel) ?_ | refine WC.draw 22 rfl (by decide +kernel) ?_ | refine WC.draw 23 rfl (by decide +kernel) ?_ | refine WC.draw 24 rfl (by decide +kernel) ?_)); (repeat (refine WD.cons rfl (fun c h => by cases h) sq_EQ8_1 ?_)); refine WD.nil ?_)); (try (refine st ?_; (repeat intro zzc)))))) | ((first | (refine iF 32 rfl ?_; refine w_callG Tryd.func32 ?_ (hs := sizes_any (by assumption) _ _ _ (by assumption))) | (refine iF 60 rfl ?_; refine w_callG Tryd.func60 ?_ (hs := itoa_any (by omega) (by assumption))) | (refine iF 61 rfl ?_; refine w_callG Tryd.func61 ?_ (hs := eQuoted_any _ (by omega) (by assumption))) | ((refine iDraw ?_; (first | refine WC.drawAll rfl (by decide +kernel) ?_ | refine WC.draw 1 rfl (by decide +kernel) ?_ | refine WC.draw 2 rfl (by decide +kernel) ?_ | refine WC.draw 3 rfl (by decide +kernel) ?_ | refine WC.draw 4 rfl (by decide +kernel) ?_ | refine WC.draw 5 rfl (by decide +kernel) ?_ | refine WC.draw 6 rfl (by decide +kernel) ?_ | refine WC.draw 7 rfl (by decide +kernel) ?_ | refine WC.draw 8 rfl (by decide +kernel) ?_ | refine WC.draw 9 rfl (by decide +kernel) ?_ | refine WC.draw 10 rfl (by decide +kernel) ?_ | refine WC.draw 11 rfl (by decide +kernel) ?_ | refine WC.draw 12 rfl (by decide +kernel) ?_ | refine WC.draw 13 rfl (by decide +kernel) ?_ | refine WC.draw 14 rfl (by decide +kernel) ?_ | refine WC.draw 15 rfl (by decide +kernel) ?_ | refine WC.draw 16 rfl (by decide +kernel) ?_ | refine WC.draw 17 rfl (by decide +kernel) ?_ | refine WC.draw 18 rfl (by decide +kernel) ?_ | refine WC.draw 19 rfl (by decide +kernel) ?_ | refine WC.draw 20 rfl (by decide +kernel) ?_ | refine WC.draw 21 rfl (by decide +kernel) ?_ | refine WC.draw 22 rfl (by decide +kernel) ?_ | refine WC.draw 23 rfl (by decide +kernel) ?_ | refine WC.draw 24 rfl (by decide +kernel) ?_)); (repeat (refine WD.cons rfl (fun c h => by cases h) sq_EQ8_1 ?_)); refine WD.nil ?_)); (try (refine st ?_; (repeat intro zzc))))); (repeat ((first | (refine iF 32 rfl ?_; refine w_callG Tryd.func32 ?_ (hs := sizes_any (by assumption) _ _ _ (by assumption))) | (refine iF 60 rfl ?_; refine w_callG Tryd.func60 ?_ (hs := itoa_any (by omega) (by assumption))) | (refine iF 61 rfl ?_; refine w_callG Tryd.func61 ?_ (hs := eQuoted_any _ (by omega) (by assumption))) | ((refine iDraw ?_; (first | refine WC.drawAll rfl (by decide +kernel) ?_ | refine WC.draw 1 rfl (by decide +kernel) ?_ | refine WC.draw 2 rfl (by decide +kernel) ?_ | refine WC.draw 3 rfl (by decide +kernel) ?_ | refine WC.draw 4 rfl (by decide +kernel) ?_ | refine WC.draw 5 rfl (by decide +kernel) ?_ | refine WC.draw 6 rfl (by decide +kernel) ?_ | refine WC.draw 7 rfl (by decide +kernel) ?_ | refine WC.draw 8 rfl (by decide +kernel) ?_ | refine WC.draw 9 rfl (by decide +kernel) ?_ | refine WC.draw 10 rfl (by decide +kernel) ?_ | refine WC.draw 11 rfl (by decide +kernel) ?_ | refine WC.draw 12 rfl (by decide +kernel) ?_ | refine WC.draw 13 rfl (by decide +kernel) ?_ | refine WC.draw 14 rfl (by decide +kernel) ?_ | refine WC.draw 15 rfl (by decide +kernel) ?_ | refine WC.draw 16 rfl (by decide +kernel) ?_ | refine WC.draw 17 rfl (by decide +kernel) ?_ | refine WC.draw 18 rfl (by decide +kernel) ?_ | refine WC.draw 19 rfl (by decide +kernel) ?_ | refine WC.draw 20 rfl (by decide +kernel) ?_ | refine WC.draw 21 rfl (by decide +kernel) ?_ | refine WC.draw 22 rfl (by decide +kernel) ?_ | refine WC.draw 23 rfl (by decide +kernel) ?_ | refine WC.draw 24 rfl (by decide +kernel) ?_)); (repeat (refine WD.cons rfl (fun c h => by cases h) sq_EQ8_1 ?_)); refine WD.nil ?_)); (try (refine st ?_; (repeat intro zzc))))); (repeat revert zzc); exact zzn.out) : G := h ⟨next⟩
theorem ePrint_any {a : Option Addr} {cap : Nat} {l : List Stp} (hf : Fit l) (hw : (printW l).length ≤ 200000) {w0 : World} {m : Mem} {H : SHeap} (hr : RowR w0 m H 3 a (l.map Stp.cs)) (hg : GTabs Tryd.prog m) :
    Does Tryd.prog 37 #[.slice a l.length cap] w0 m H (Gives (match sizesOf l with | none => .tuple #[str [], .int .i64 2] | some _ => .tuple #[str (printW l), .int .i64 0]) m H) := by
  refine Does.of_body (args := [.slice a l.length cap]) Tryd.func37 rfl Tryd.ntmps37 rfl ?_
  have hln : (l.map Stp.cs).length = l.length := by simp
  have hfl := hf.len
  (try (refine st_EQ8_1 ?_; intros))
  cases hs : sizesOf l with
  | none =>
    rw [show szP none = .tuple #[.int .i64 0, .int .i64 0, .int .i64 2] from rfl]
    (try (refine st_EQ8_1 ?_; intros))
    exact q_fin0 (H0 := H) (Gives.mk rfl) (hd := zpk)
  | some ft =>
    obtain ⟨f, t⟩ := ft
    obtain ⟨h1, _, _, _, _⟩ := sizesOf_some hs
    rw [show szP (some (f, t)) = .tuple #[.int .i64 f, .int .i64 t, .int .i64 0] from rfl]
    refine WL.newRow (T := 9) (sz := 1) ?_
    (try (refine st_EQ8_1 ?_; intros))
    refine WC.loopH [(21, .int .i64 ((0) : Int)), (20, .int .i64 (l.length : Int)), (19, .slice a l.length cap), (7, .slice (none) (0) (0))] ?_ ?_ (fun j r ds m' H' => ∃ (i : Nat) (a9 : Option Addr) (c9 : Nat) (n9 : Nat), j = l.length - i ∧ r = [(21, .int .i64 (i : Int)), (20, .int .i64 (l.length : Int)), (19, .slice a l.length cap), (7, .slice a9 n9 c9)] ∧ ds = [] ∧ m = m' ∧ H' = .row a9 c9 9 1 (((l.take i).map stpW).map fun x => [str x]) :: H ∧ (i ≤ l.length) ∧ (n9 = i)) (l.length - (0)) ⟨0, none, 0, 0, rfl, rfl, rfl, rfl, rfl, Nat.zero_le _, rfl⟩ ?_
    · (repeat (first | exact Env.Sub.nil | refine Env.Sub.cons rfl ?_))
    · exact zpk
    rintro j r ds m' H' ⟨i, a9, c9, n9, rfl, rfl, rfl, rfl, rfl, hi, hn9⟩
    subst hn9
    by_cases hlt : n9 < l.length
    · obtain ⟨x, hx, hget, htk, hmem, hdr⟩ := at_idx (f := Stp.cs) hlt
      have hr1 := hr.more (i := .row a9 c9 9 1 (((l.take n9).map stpW).map fun x => [str x]))
      refine WC.rSome hr1 (by omega) ?_
      rintro a0 rfl
      obtain ⟨hxok, hk1⟩ := h1 x hmem
      have hmt : (maxT : Int) = 65536 := rfl
      have hin := stpW_in hmem
      have htl : (((l.take n9).map stpW).map fun x => [str x]).length + 1 = n9 + 1 := by rw [List.length_map, List.length_map, List.length_take]; omega
      have htl2 : (((l.take n9).map stpW).map fun x => [str x]).length = n9 := by rw [List.length_map, List.length_map, List.length_take]; omega
      have e0 : (x.cs)[0]? = some (.int .i64 x.k) := rfl
      have e1 : (x.cs)[1]? = some (str x.d) := rfl
      have e2 : (x.cs)[2]? = some (str x.p) := rfl
      rcases hxok with ⟨g1, g2, g3⟩ | ⟨g1, g2, g3⟩ | ⟨g1, g2, g3⟩
      · have hkp : 0 < x.k := g1
        have hs1 : stpW x = 61 :: decL x.k.toNat := by unfold stpW; rw [if_pos g1]
        have hdl := decL_length 4 x.k.toNat (by omega)
        have es : ([61] : List UInt8) ++ decL x.k.toNat = stpW x := by rw [hs1]; rfl
        have el1 : ([61] : List UInt8).length = 1 := rfl
        have em : ((l.take n9).map stpW).map (fun x => [str x]) ++ [[str (stpW x)]] = ((l.take (n9 + 1)).map stpW).map fun x => [str x] := by rw [htk]; simp
        (refine st_EQ8_1 ?_; intros; rename_i bx q a8 c8)
        rw [es, em, htl]
        refine WQ.next (l.length - (n9 + 1)) ⟨n9 + 1, a8, c8, n9 + 1, rfl, rfl, rfl, rfl, rfl, ?_, ?_⟩ (by omega) zsb zpk
        · omega
        · rfl
      · have hkp : ¬ 0 < x.k := by omega
        have hs1 : stpW x = 45 :: quotedW x.d := by unfold stpW; rw [if_neg (by omega), if_pos g2]
        have hql := quotedW_len x.d
        have hql2 : (stpW x).length = (quotedW x.d).length + 1 := by rw [hs1]; rfl
        have es : ([45] : List UInt8) ++ quotedW x.d = stpW x := by rw [hs1]; rfl
        have el1 : ([45] : List UInt8).length = 1 := rfl
        have em : ((l.take n9).map stpW).map (fun x => [str x]) ++ [[str (stpW x)]] = ((l.take (n9 + 1)).map stpW).map fun x => [str x] := by rw [htk]; simp
        (refine st_EQ8_1 ?_; intros; rename_i bx q a8 c8)
        rw [es, em, htl]
        refine WQ.next (l.length - (n9 + 1)) ⟨n9 + 1, a8, c8, n9 + 1, rfl, rfl, rfl, rfl, rfl, ?_, ?_⟩ (by omega) zsb zpk
        · omega
        · rfl
      · have hkp : ¬ 0 < x.k := by omega
        have hs1 : stpW x = 43 :: quotedW x.p := by unfold stpW; rw [if_neg (by omega), if_neg (by rw [g2]; exact fun h => h rfl)]
        have hql := quotedW_len x.p
        have hql2 : (stpW x).length = (quotedW x.p).length + 1 := by rw [hs1]; rfl
        have es : ([43] : List UInt8) ++ quotedW x.p = stpW x := by rw [hs1]; rfl
        have el1 : ([43] : List UInt8).length = 1 := rfl
        have em : ((l.take n9).map stpW).map (fun x => [str x]) ++ [[str (stpW x)]] = ((l.take (n9 + 1)).map stpW).map fun x => [str x] := by rw [htk]; simp
        (refine st_EQ8_1 ?_; intros; rename_i bx q a8 c8)
        rw [es, em, htl]
        refine WQ.next (l.length - (n9 + 1)) ⟨n9 + 1, a8, c8, n9 + 1, rfl, rfl, rfl, rfl, rfl, ?_, ?_⟩ (by omega) zsb zpk
        · omega
        · rfl
    · obtain rfl : n9 = l.length := by omega
      rw [List.take_length]
      have hj := join_print l
      have hml : (l.map stpW).length = l.length := List.length_map _
      by_cases h0 : l.length = 0
      · have hl0 : l = [] := List.eq_nil_of_length_eq_zero h0
        have hp0 : printW l = [] := by rw [hl0]; unfold printW; rfl
        (try (refine st_EQ8_1 ?_; intros))
        rw [h0]
        refine w_callF Tryd.func62 ?_ (hs := joinNone_any _ _ _)
        rintro v m H1 ⟨rfl, rfl, rfl⟩
        (try (refine st_EQ8_1 ?_; intros))
        rw [← hp0]
        exact q_fin0 (H0 := H) (Gives.mk rfl) (hd := zpk)
      · refine WC.rowSome (a := a9) (es := (l.map stpW).map fun x => [str x]) zhs (by rw [List.length_map, hml]; omega) ?_
        rintro p0 rfl
        (try (refine st_EQ8_1 ?_; intros))
        rw [← hml]
        refine w_callF Tryd.func62 ?_ (hs := join_any (xs := l.map stpW) zhs (by omega) (by rw [hj]; omega))
        rintro v m H1 ⟨rfl, rfl, rfl⟩
        rw [hj]
        (try (refine st_EQ8_1 ?_; intros))
        exact q_fin0 (H0 := H) (Gives.mk rfl) (hd := zpk)
end Go.Proofs.YtelgegefmjlimaaDoor

/-
  The walks of package edit, fifth part: the end of the maker of the reference. No condition.
-/
namespace Go.Proofs.YtelgegefmjlimaaDoor
open Go Go.Eng
set_option maxRecDepth 100000
set_option maxHeartbeats 4000000
set_option linter.all false
attribute [local irreducible] WL WC WQ QFun QLoop Does Q1 QRound QAssign Go.Addr.add
theorem end_any {b : Nat} {c : Option Addr} {cp : Nat} (B : Bld) (hB : B.l.length ≤ 1000000000000) (w0 : World) (m : Mem) (H : SHeap) :
    Does Tryd.prog 59 #[.pointer (some ⟨b, 0, none⟩)] w0 m (.blk b (.cells [.slice c B.l.length cp, str B.p, str B.d].toArray 111 (0, 0)) :: .row c cp 55 3 (B.l.map Stp.cs) :: H)
      (fun v m' H' => v = .tuple #[] ∧ m' = m ∧ ∃ c' cp', H' = .blk b (.cells [.slice c' B.close.l.length cp', str [], str []].toArray 111 (0, 0)) :: .row c' cp' 55 3 (B.close.l.map Stp.cs) :: H) := by
  refine Does.of_body (args := [.pointer (some ⟨b, 0, none⟩)]) Tryd.func59 rfl Tryd.ntmps59 rfl ?_
  have hml : (B.l.map Stp.cs).length = B.l.length := by simp
  by_cases hp : B.p = [] <;> by_cases hd : B.d = []
  · (try (refine st ?_; intros))
    have e : B.close.l = B.l := by simp [Bld.close, hp, hd]
    rw [hp, hd]
    exact q_finNorm0 (H0 := .blk b (.cells [.slice c B.l.length cp, str [], str []].toArray 111 (0, 0)) :: .row c cp 55 3 (B.l.map Stp.cs) :: H) ⟨rfl, rfl, c, cp, by rw [e]⟩ (hd := zpk)
  · (try (refine st ?_; intros))
    refine WC.drawE 14 ([.blk b (.cells [.slice c B.l.length cp, str B.p, str B.d].toArray 111 (0, 0))]) (.row c cp 55 3 (B.l.map Stp.cs) :: H) rfl (by decide +kernel) zpk ?_
    (refine cm0 ?_)
    refine WE.act1 10 (by decide +kernel) rfl rfl (fun c h => by cases h) ?_
    (refine st ?_; intros; rename_i q0)
    refine WQ.acted (B := []) (U := .blk q0 (.cells [.int .i64 0, str B.d, str []].toArray 55 (0, 0)) :: .row c cp 55 3 (B.l.map Stp.cs) :: H) rfl (Mem.le.refl _) zpk ?_
    refine WE.act1 11 (by decide +kernel) rfl rfl (fun c h => by cases h) ?_
    (refine st ?_; intros; rename_i c2 cp2)
    refine WQ.acted (B := []) (U := .row c2 cp2 55 3 (B.l.map Stp.cs ++ [[.int .i64 0, str B.d, str []]]) :: H) rfl (Mem.le.refl _) zpk ?_
    (refine cm0 ?_)
    refine WE.done (by decide +kernel) ?_
    (try (refine st ?_; intros))
    rw [hml, hp]
    have e : B.close.l = B.l ++ [⟨0, B.d, []⟩] := by simp [Bld.close, hp, hd]
    exact q_finNorm0 (H0 := .blk b (.cells [.slice c2 (B.l.length + 1) cp2, str [], str []].toArray 111 (0, 0)) :: .row c2 cp2 55 3 (B.l.map Stp.cs ++ [[.int .i64 0, str B.d, str []]]) :: H) ⟨rfl, rfl, c2, cp2, by rw [e]; simp [Stp.cs]⟩ (hd := zpk)
  · (try (refine st ?_; intros))
    refine WC.drawE 14 ([.blk b (.cells [.slice c B.l.length cp, str B.p, str B.d].toArray 111 (0, 0))]) (.row c cp 55 3 (B.l.map Stp.cs) :: H) rfl (by decide +kernel) zpk ?_
    (refine cm0 ?_)
    refine WE.act1 10 (by decide +kernel) rfl rfl (fun c h => by cases h) ?_
    (refine st ?_; intros; rename_i q0)
    refine WQ.acted (B := []) (U := .blk q0 (.cells [.int .i64 0, str [], str B.p].toArray 55 (0, 0)) :: .row c cp 55 3 (B.l.map Stp.cs) :: H) rfl (Mem.le.refl _) zpk ?_
    refine WE.act1 11 (by decide +kernel) rfl rfl (fun c h => by cases h) ?_
    (refine st ?_; intros; rename_i c2 cp2)
    refine WQ.acted (B := []) (U := .row c2 cp2 55 3 (B.l.map Stp.cs ++ [[.int .i64 0, str [], str B.p]]) :: H) rfl (Mem.le.refl _) zpk ?_
    (refine cm0 ?_)
    refine WE.done (by decide +kernel) ?_
    (try (refine st ?_; intros))
    rw [hml, hd]
    have e : B.close.l = B.l ++ [⟨0, [], B.p⟩] := by simp [Bld.close, hp, hd]
    exact q_finNorm0 (H0 := .blk b (.cells [.slice c2 (B.l.length + 1) cp2, str [], str []].toArray 111 (0, 0)) :: .row c2 cp2 55 3 (B.l.map Stp.cs ++ [[.int .i64 0, str [], str B.p]]) :: H) ⟨rfl, rfl, c2, cp2, by rw [e]; simp [Stp.cs]⟩ (hd := zpk)
  · have hml1 : (B.l.map Stp.cs ++ [[.int .i64 0, str [], str B.p]]).length = B.l.length + 1 := by simp
    (try (refine st ?_; intros))
    refine WC.drawE 14 ([.blk b (.cells [.slice c B.l.length cp, str B.p, str B.d].toArray 111 (0, 0))]) (.row c cp 55 3 (B.l.map Stp.cs) :: H) rfl (by decide +kernel) zpk ?_
    (refine cm0 ?_)
    refine WE.act1 10 (by decide +kernel) rfl rfl (fun c h => by cases h) ?_
    (refine st ?_; intros; rename_i q0)
    refine WQ.acted (B := []) (U := .blk q0 (.cells [.int .i64 0, str [], str B.p].toArray 55 (0, 0)) :: .row c cp 55 3 (B.l.map Stp.cs) :: H) rfl (Mem.le.refl _) zpk ?_
    refine WE.act1 11 (by decide +kernel) rfl rfl (fun c h => by cases h) ?_
    (refine st ?_; intros; rename_i c2 cp2)
    refine WQ.acted (B := []) (U := .row c2 cp2 55 3 (B.l.map Stp.cs ++ [[.int .i64 0, str [], str B.p]]) :: H) rfl (Mem.le.refl _) zpk ?_
    (refine cm0 ?_)
    refine WE.done (by decide +kernel) ?_
    (try (refine st ?_; intros))
    rw [hml]
    refine WC.drawE 14 ([.blk b (.cells [.slice c2 (B.l.length + 1) cp2, str B.p, str B.d].toArray 111 (0, 0))]) (.row c2 cp2 55 3 (B.l.map Stp.cs ++ [[.int .i64 0, str [], str B.p]]) :: H) rfl (by decide +kernel) zpk ?_
    (refine cm0 ?_)
    refine WE.act1 10 (by decide +kernel) rfl rfl (fun c h => by cases h) ?_
    (refine st ?_; intros; rename_i q0)
    refine WQ.acted (B := []) (U := .blk q0 (.cells [.int .i64 0, str B.d, str []].toArray 55 (0, 0)) :: .row c2 cp2 55 3 (B.l.map Stp.cs ++ [[.int .i64 0, str [], str B.p]]) :: H) rfl (Mem.le.refl _) zpk ?_
    refine WE.act1 11 (by decide +kernel) rfl rfl (fun c h => by cases h) ?_
    (refine st ?_; intros; rename_i c3 cp3)
    refine WQ.acted (B := []) (U := .row c3 cp3 55 3 (B.l.map Stp.cs ++ [[.int .i64 0, str [], str B.p]] ++ [[.int .i64 0, str B.d, str []]]) :: H) rfl (Mem.le.refl _) zpk ?_
    (refine cm0 ?_)
    refine WE.done (by decide +kernel) ?_
    (try (refine st ?_; intros))
    rw [hml1]
    have e : B.close.l = B.l ++ [⟨0, [], B.p⟩] ++ [⟨0, B.d, []⟩] := by simp [Bld.close, hp, hd]
    exact q_finNorm0 (H0 := .blk b (.cells [.slice c3 (B.l.length + 1 + 1) cp3, str [], str []].toArray 111 (0, 0)) :: .row c3 cp3 55 3 (B.l.map Stp.cs ++ [[.int .i64 0, str [], str B.p]] ++ [[.int .i64 0, str B.d, str []]]) :: H) ⟨rfl, rfl, c3, cp3, by rw [e]; simp [Stp.cs]⟩ (hd := zpk)
end Go.Proofs.YtelgegefmjlimaaDoor

/-
  The walks of package edit, seventh part: the keep of the maker of the reference. No condition.
-/
namespace Go.Proofs.YtelgegefmjlimaaDoor
open Go Go.Eng
set_option maxRecDepth 100000
set_option maxHeartbeats 4000000
set_option linter.all false
attribute [local irreducible] WL WC WQ QFun QLoop Does Q1 QRound QAssign Go.Addr.add
theorem mkeep_any {b : Nat} {c : Option Addr} {cp : Nat} (B : Bld) (n : Nat) (hn : n ≤ 100000000000) (hB : BFit 100000000000 B) (w0 : World) (m : Mem) (H : SHeap) :
    Does Tryd.prog 58 #[.pointer (some ⟨b, 0, none⟩), .int .i64 (n : Int)] w0 m (.blk b (.cells [.slice c B.l.length cp, str B.p, str B.d].toArray 111 (0, 0)) :: .row c cp 55 3 (B.l.map Stp.cs) :: H)
      (fun v m' H' => v = .tuple #[] ∧ m' = m ∧ ∃ c' cp', H' = .blk b (.cells [.slice c' (B.keep n).l.length cp', str (B.keep n).p, str (B.keep n).d].toArray 111 (0, 0)) :: .row c' cp' 55 3 ((B.keep n).l.map Stp.cs) :: H) := by
  refine Does.of_body (args := [.pointer (some ⟨b, 0, none⟩), .int .i64 (n : Int)]) Tryd.func58 rfl Tryd.ntmps58 rfl ?_
  have hlen := hB.len
  by_cases h0 : n = 0
  · subst h0
    (try (refine st ?_; intros))
    exact q_fin0 (H0 := .blk b (.cells [.slice c B.l.length cp, str B.p, str B.d].toArray 111 (0, 0)) :: .row c cp 55 3 (B.l.map Stp.cs) :: H) ⟨rfl, rfl, c, cp, rfl⟩ (hd := zpk)
  · (try (refine st ?_; intros))
    refine w_callF Tryd.func59 ?_ (hs := end_any B (by omega) _ _ _)
    rintro v m1 H1 ⟨rfl, rfl, c1, cp1, rfl⟩
    have hkeep : B.keep n = ⟨addKeep B.close.l n, [], []⟩ := by unfold Bld.keep; rw [if_neg (by omega)]
    have hc := hB.close
    rw [hkeep]
    have hcl := hc.len
    have hck := hc.k
    generalize B.close.l = L at *
    have hml : (L.map Stp.cs).length = L.length := by simp
    rcases snoc_cases L with hL | ⟨ys, s, hL⟩
    · have hl0 : L.length = 0 := by rw [hL]; rfl
      (refine st ?_; intros; rename_i x2 c2 cp2)
      rw [hml]
      have e : addKeep L n = L ++ [⟨n, [], []⟩] := by rw [hL]; rfl
      exact q_finNorm0 (H0 := .blk b (.cells [.slice c2 (L.length + 1) cp2, str [], str []].toArray 111 (0, 0)) :: .row c2 cp2 55 3 (L.map Stp.cs ++ [[.int .i64 n, str [], str []]]) :: H) ⟨rfl, rfl, c2, cp2, by rw [e]; simp [Stp.cs]⟩ (hd := zpk)
    · have hl1 : L.length = ys.length + 1 := by rw [hL]; simp
      have hget : (L.map Stp.cs)[L.length - 1]? = some s.cs := by rw [hL]; simp
      have hsk := hck s (by rw [hL]; simp)
      refine WL.rowSome (a := c1) zhs (by omega) ?_
      rintro c0 rfl
      by_cases hs : 0 < s.k
      · (try (refine st ?_; intros))
        have e : (addKeep L n).length = L.length ∧ (addKeep L n).map Stp.cs = (L.map Stp.cs).set (L.length - 1) [.int .i64 (s.k + n), str s.d, str s.p] := by
          rw [hL]; constructor <;> simp [addKeep, hs, Stp.cs]
        exact q_fin0 (H0 := .blk b (.cells [.slice (some c0) L.length cp1, str [], str []].toArray 111 (0, 0)) :: .row (some c0) cp1 55 3 ((L.map Stp.cs).set (L.length - 1) [.int .i64 (s.k + n), str s.d, str s.p]) :: H) ⟨rfl, rfl, some c0, cp1, by rw [e.1, e.2]⟩ (hd := zpk)
      · (refine st ?_; intros; rename_i x2 c2 cp2)
        rw [hml]
        have e : addKeep L n = L ++ [⟨n, [], []⟩] := by rw [hL]; simp [addKeep, hs]
        exact q_finNorm0 (H0 := .blk b (.cells [.slice c2 (L.length + 1) cp2, str [], str []].toArray 111 (0, 0)) :: .row c2 cp2 55 3 (L.map Stp.cs ++ [[.int .i64 n, str [], str []]]) :: H) ⟨rfl, rfl, c2, cp2, by rw [e]; simp [Stp.cs]⟩ (hd := zpk)
end Go.Proofs.YtelgegefmjlimaaDoor

/-
  The walks of package edit, third part: the sizes of a change, by the reference. No condition.
-/
namespace Go.Proofs.YtelgegefmjlimaaDoor
open Go Go.Eng
set_option maxRecDepth 100000
set_option maxHeartbeats 4000000
set_option linter.all false
attribute [local irreducible] WL WC WQ QFun QLoop Does Q1 QRound QAssign Go.Addr.add
attribute [local irreducible] sizesF sizesOf
theorem refSizes_any {a : Option Addr} {cap : Nat} {l : List Stp} (hf : Fit l) (w0 : World) (m : Mem) (H : SHeap) (hr : RowR w0 m H 3 a (l.map Stp.cs)) :
    Does Tryd.prog 31 #[.slice a l.length cap] w0 m H (Gives (szR (sizesOf l)) m H) := by
  refine Does.of_body (args := [.slice a l.length cap]) Tryd.func31 rfl Tryd.ntmps31 rfl ?_
  have hln : (l.map Stp.cs).length = l.length := by simp
  have hlen := hf.len
  (try (refine st ?_; intros))
  refine WC.loopH [(7, .int .i64 ((0) : Int)), (0, .slice a l.length cap), (5, .int .i64 (0)), (6, .int .i64 (0))] ?_ ?_ (fun j r ds m' H' => ∃ (i : _) (f : Int) (t : Int), j = l.length - i ∧ r = [(7, .int .i64 (i : Int)), (0, .slice a l.length cap), (5, .int .i64 f), (6, .int .i64 t)] ∧ ds = [] ∧ m = m' ∧ H' = H ∧ (i ≤ l.length) ∧ (0 ≤ f ∧ f ≤ 65536 ∧ 0 ≤ t ∧ t ≤ 65536) ∧ (sizesF (l.drop i) f t = sizesOf l) ∧ (RowR w0 m H 3 a (l.map Stp.cs))) (l.length - (0)) ⟨0, 0, 0, rfl, rfl, rfl, rfl, rfl, by omega, by omega, by rw [sizesOf]; rfl, hr⟩ ?_
  · (repeat (first | exact Env.Sub.nil | refine Env.Sub.cons rfl ?_))
  · exact zpk
  rintro j r ds m' H' ⟨i, f, t, rfl, rfl, rfl, rfl, rfl, hi, hn, hs, hr⟩
  generalize H' = H at *
  by_cases hlt : i < l.length
  · obtain ⟨x, hx, hget, htk, hmem, hdr⟩ := at_idx (f := Stp.cs) hlt
    have hk := hf.k x hmem
    have hd := hf.d x hmem
    have hp := hf.p x hmem
    rw [hdr] at hs
    refine WC.rSome hr (by omega) ?_
    rintro a0 rfl
    have hdl : x.d = [] → x.d.length = 0 := fun h => by rw [h]; rfl
    have hpl : x.p = [] → x.p.length = 0 := fun h => by rw [h]; rfl
    by_cases h2 : x.d = [] <;> by_cases h3 : x.p = [] <;> rcases (show x.k < 0 ∨ x.k = 0 ∨ 0 < x.k by omega) with h1 | h1 | h1
    · rw [sizesF_bad (fun h => by rcases h.1 with g | g | g <;> omega)] at hs
      (try (refine st ?_; intros))
      exact q_fin0 (H0 := H) (Gives.mk (by rw [← hs]; try rfl)) (hd := zpk)
    · rw [sizesF_bad (fun h => by simp [stpOk, h1, h2, h3] at h)] at hs
      have hb : (!(!dcd (x.p = []))) = true := by rw [dcd_true h3]; rfl
      (try (refine st ?_; intros))
      exact q_fin0 (H0 := H) (Gives.mk (by rw [← hs]; try rfl)) (hd := zpk)
    · have h2' := hdl h2
      have h3' := hpl h3
      by_cases h6 : 65536 < x.k
      · rw [sizesF_bad (by omega)] at hs
        (try (refine st ?_; intros))
        exact q_fin0 (H0 := H) (Gives.mk (by rw [← hs]; try rfl)) (hd := zpk)
      · have hok : stpOk x := .inl ⟨by omega, h2, h3⟩
        by_cases h4 : f + x.k + (x.d.length : Int) ≤ 65536
        · by_cases h7 : t + x.k + (x.p.length : Int) ≤ 65536
          · rw [sizesF_good hok (by omega) (by omega) (by omega)] at hs
            (try (refine st ?_; intros))
            refine WQ.next (l.length - (i + 1)) ⟨i + 1, _, _, rfl, rfl, rfl, rfl, rfl, ?_, ?_, ?_, ?_⟩ (by omega) zsb zpk
            · omega
            · omega
            · exact hs
            · assumption
          · rw [sizesF_bad (by omega)] at hs
            (try (refine st ?_; intros))
            exact q_fin0 (H0 := H) (Gives.mk (by rw [← hs]; try rfl)) (hd := zpk)
        · rw [sizesF_bad (by omega)] at hs
          (try (refine st ?_; intros))
          exact q_fin0 (H0 := H) (Gives.mk (by rw [← hs]; try rfl)) (hd := zpk)
    · rw [sizesF_bad (fun h => by rcases h.1 with g | g | g <;> omega)] at hs
      (try (refine st ?_; intros))
      exact q_fin0 (H0 := H) (Gives.mk (by rw [← hs]; try rfl)) (hd := zpk)
    · have hok : stpOk x := .inr (.inr ⟨h1, h2, h3⟩)
      have h2' := hdl h2
      have hb : (!(!dcd (x.p = []))) = false := by rw [dcd_false h3]; rfl
      by_cases h4 : t + x.k + (x.p.length : Int) ≤ 65536
      · rw [sizesF_good hok (by omega) (by omega) (by omega)] at hs
        (try (refine st ?_; intros))
        refine WQ.next (l.length - (i + 1)) ⟨i + 1, _, _, rfl, rfl, rfl, rfl, rfl, ?_, ?_, ?_, ?_⟩ (by omega) zsb zpk
        · omega
        · omega
        · exact hs
        · assumption
      · rw [sizesF_bad (by omega)] at hs
        (try (refine st ?_; intros))
        exact q_fin0 (H0 := H) (Gives.mk (by rw [← hs]; try rfl)) (hd := zpk)
    · rw [sizesF_bad (fun h => by rcases h.1 with g | g | g <;> first | omega | exact h3 g.2.2)] at hs
      (try (refine st ?_; intros))
      exact q_fin0 (H0 := H) (Gives.mk (by rw [← hs]; try rfl)) (hd := zpk)
    · rw [sizesF_bad (fun h => by rcases h.1 with g | g | g <;> omega)] at hs
      (try (refine st ?_; intros))
      exact q_fin0 (H0 := H) (Gives.mk (by rw [← hs]; try rfl)) (hd := zpk)
    · have hok : stpOk x := .inr (.inl ⟨h1, h2, h3⟩)
      have h3' := hpl h3
      by_cases h4 : f + x.k + (x.d.length : Int) ≤ 65536
      · rw [sizesF_good hok (by omega) (by omega) (by omega)] at hs
        (try (refine st ?_; intros))
        refine WQ.next (l.length - (i + 1)) ⟨i + 1, _, _, rfl, rfl, rfl, rfl, rfl, ?_, ?_, ?_, ?_⟩ (by omega) zsb zpk
        · omega
        · omega
        · exact hs
        · assumption
      · rw [sizesF_bad (by omega)] at hs
        (try (refine st ?_; intros))
        exact q_fin0 (H0 := H) (Gives.mk (by rw [← hs]; try rfl)) (hd := zpk)
    all_goals
      rw [sizesF_bad (fun h => by rcases h.1 with g | g | g <;> first | omega | exact h2 g.2.1 | exact h3 g.2.2)] at hs
      (try (refine st ?_; intros))
      exact q_fin0 (H0 := H) (Gives.mk (by rw [← hs]; try rfl)) (hd := zpk)
  · obtain rfl : i = l.length := by omega
    rw [List.drop_length, sizesF] at hs
    (try (refine st ?_; intros))
    exact q_fin0 (H0 := H) (Gives.mk (by rw [← hs]; try rfl)) (hd := zpk)
end Go.Proofs.YtelgegefmjlimaaDoor

