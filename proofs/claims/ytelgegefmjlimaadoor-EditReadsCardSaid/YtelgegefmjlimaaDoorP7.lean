/-
  Parts of a walk, joined: EP8 EP9 EPC E17a E4 ET7 E6 E8 E2 E9a ET8 E10 EQ7 EQT. No condition.
-/
import Derived.Test.YtelgegefmjlimaaDoorP4
import Derived.Test.YtelgegefmjlimaaDoorP5
import Derived.Test.YtelgegefmjlimaaDoorP6
import Derived.Test.YtelgegefmjlimaaDoorRows
import Derived.Lib.LaidU8
import Derived.LaidLaws
set_option linter.all false
/-
  The walk of the reference reader's behind. No condition.
-/
namespace Go.Eng
open Go
theorem fmbS (z : Int) : (Utf8.encode z).data.toList = fmb (rn z) := encode_eq z
end Go.Eng
namespace Go.Proofs.YtelgegefmjlimaaDoor
open Go Go.Eng
set_option maxRecDepth 100000
set_option maxHeartbeats 4000000
set_option linter.all false
attribute [local irreducible] WL WC WQ QFun QLoop Does Q1 QRound QAssign Go.Addr.add
attribute [local irreducible] cN hexV digF
theorem sq_EP8_1 {G : Prop} (h : G := by (repeat (first | (refine sp ?_; (repeat intro zzc)) | (refine iF 23 rfl ?_; refine w_callG Tryd.func23 ?_ (hs := refC_any _ _ _ _ (by omega) (by omega) _ _ _)))); exact WQ.q1 rfl) : G := h
theorem st_EP8_1 {G G' : Prop} (next : G') (h : Bx G' → G := by intro zzn; (first | ((refine st ?_; (repeat intro zzc)); (try ((first | (refine iF 23 rfl ?_; refine w_callG Tryd.func23 ?_ (hs := refC_any _ _ _ _ (by omega) (by omega) _ _ _)) | ((refine iDraw ?_; (first | refine WC.drawAll rfl (by decide +kernel) ?_ | refine WC.draw 1 rfl (by decide +kernel) ?_ | refine WC.draw 2 rfl (by decide +kernel) ?_ | refine WC.draw 3 rfl (by decide +kernel) ?_ | refine WC.draw 4 rfl (by decide +kernel) ?_ | refine WC.draw 5 rfl (by decide +kernel) ?_ | refine WC.draw 6 rfl (by decide +kernel) ?_ | refine WC.draw 7 rfl (by decide +kernel) ?_ | refine WC.draw 8 rfl (by decide +kernel) ?_ | refine WC.draw 9 rfl (by decide +kernel) ?_ | refine WC.draw 10 rfl (by decide +kernel) ?_ | refine WC.draw 11 rfl (by decide +kernel) ?_ | refine WC.draw 12 rfl (by decide +kernel) ?_ | refine WC.draw 13 rfl (by decide +kernel) ?_ | refine WC.draw 14 rfl (by decide +kernel) ?_ | refine WC.draw 15 rfl (by decide +kernel) ?_ | refine WC.draw 16 rfl (by decide +kernel) ?_ | refine WC.draw 17 rfl (by decide +kernel) ?_ | refine WC.draw 18 rfl (by decide +kernel) ?_ | refine WC.draw 19 rfl (by decide +kernel) ?_ | refine WC.draw 20 rfl (by decide +kernel) ?_ | refine WC.draw 21 rfl (by decide +kernel) ?_ | refine WC.draw 22 rfl (by decide +kernel) ?_ | refine WC.draw 23 rfl (by decide +kernel) ?_ | refine WC.draw 24 rfl (by decide +kernel) ?_)); (repeat (refine WD.cons rfl (fun c h => by cases h) sq_EP8_1 ?_)); refine WD.nil ?_)); (try (refine st ?_; (repeat intro zzc)))))) | ((first | (refine iF 23 rfl ?_; refine w_callG Tryd.func23 ?_ (hs := refC_any _ _ _ _ (by omega) (by omega) _ _ _)) | ((refine iDraw ?_; (first | refine WC.drawAll rfl (by decide +kernel) ?_ | refine WC.draw 1 rfl (by decide +kernel) ?_ | refine WC.draw 2 rfl (by decide +kernel) ?_ | refine WC.draw 3 rfl (by decide +kernel) ?_ | refine WC.draw 4 rfl (by decide +kernel) ?_ | refine WC.draw 5 rfl (by decide +kernel) ?_ | refine WC.draw 6 rfl (by decide +kernel) ?_ | refine WC.draw 7 rfl (by decide +kernel) ?_ | refine WC.draw 8 rfl (by decide +kernel) ?_ | refine WC.draw 9 rfl (by decide +kernel) ?_ | refine WC.draw 10 rfl (by decide +kernel) ?_ | refine WC.draw 11 rfl (by decide +kernel) ?_ | refine WC.draw 12 rfl (by decide +kernel) ?_ | refine WC.draw 13 rfl (by decide +kernel) ?_ | refine WC.draw 14 rfl (by decide +kernel) ?_ | refine WC.draw 15 rfl (by decide +kernel) ?_ | refine WC.draw 16 rfl (by decide +kernel) ?_ | refine WC.draw 17 rfl (by decide +kernel) ?_ | refine WC.draw 18 rfl (by decide +kernel) ?_ | refine WC.draw 19 rfl (by decide +kernel) ?_ | refine WC.draw 20 rfl (by decide +kernel) ?_ | refine WC.draw 21 rfl (by decide +kernel) ?_ | refine WC.draw 22 rfl (by decide +kernel) ?_ | refine WC.draw 23 rfl (by decide +kernel) ?_ | refine WC.draw 24 rfl (by decide +kernel) ?_)); (repeat (refine WD.cons rfl (fun c h => by cases h) sq_EP8_1 ?_)); refine WD.nil ?_)); (try (refine st ?_; (repeat intro zzc))))); (repeat ((first | (refine iF 23 rfl ?_; refine w_callG Tryd.func23 ?_ (hs := refC_any _ _ _ _ (by omega) (by omega) _ _ _)) | ((refine iDraw ?_; (first | refine WC.drawAll rfl (by decide +kernel) ?_ | refine WC.draw 1 rfl (by decide +kernel) ?_ | refine WC.draw 2 rfl (by decide +kernel) ?_ | refine WC.draw 3 rfl (by decide +kernel) ?_ | refine WC.draw 4 rfl (by decide +kernel) ?_ | refine WC.draw 5 rfl (by decide +kernel) ?_ | refine WC.draw 6 rfl (by decide +kernel) ?_ | refine WC.draw 7 rfl (by decide +kernel) ?_ | refine WC.draw 8 rfl (by decide +kernel) ?_ | refine WC.draw 9 rfl (by decide +kernel) ?_ | refine WC.draw 10 rfl (by decide +kernel) ?_ | refine WC.draw 11 rfl (by decide +kernel) ?_ | refine WC.draw 12 rfl (by decide +kernel) ?_ | refine WC.draw 13 rfl (by decide +kernel) ?_ | refine WC.draw 14 rfl (by decide +kernel) ?_ | refine WC.draw 15 rfl (by decide +kernel) ?_ | refine WC.draw 16 rfl (by decide +kernel) ?_ | refine WC.draw 17 rfl (by decide +kernel) ?_ | refine WC.draw 18 rfl (by decide +kernel) ?_ | refine WC.draw 19 rfl (by decide +kernel) ?_ | refine WC.draw 20 rfl (by decide +kernel) ?_ | refine WC.draw 21 rfl (by decide +kernel) ?_ | refine WC.draw 22 rfl (by decide +kernel) ?_ | refine WC.draw 23 rfl (by decide +kernel) ?_ | refine WC.draw 24 rfl (by decide +kernel) ?_)); (repeat (refine WD.cons rfl (fun c h => by cases h) sq_EP8_1 ?_)); refine WD.nil ?_)); (try (refine st ?_; (repeat intro zzc))))); (repeat revert zzc); exact zzn.out) : G := h ⟨next⟩
theorem refBehind_any (b : Nat) (s : List UInt8) (a : Nat) (hs : s.length ≤ 1000000) (ha : a ≤ s.length) (w0 : World) (m : Mem) (H : SHeap) :
    Does Tryd.prog 52 #[.pointer (some ⟨b, 0, none⟩)] w0 m (.blk b (.cells [str s, .int .i64 (a : Int), .int .i64 (-1)].toArray 53 (0, 0)) :: H)
      (fun v m' H' => m' = m ∧ ((∃ e t, partF s a = .yes e t ∧ v = str t ∧ H' = .blk b (.cells [str s, .int .i64 (e : Int), .int .i64 (-1)].toArray 53 (0, 0)) :: H) ∨
        (∃ (w e : Nat) (t : List UInt8), partF s a = .no w ∧ (a ≤ e ∧ e ≤ s.length + 1) ∧ t.length ≤ 4 ∧ v = str t ∧ H' = .blk b (.cells [str s, .int .i64 (e : Int), .int .i64 (w : Int)].toArray 53 (0, 0)) :: H))) := by
  refine Does.of_body (args := [.pointer (some ⟨b, 0, none⟩)]) Tryd.func52 rfl Tryd.ntmps52 rfl ?_
  by_cases hlt : a < s.length
  · have ec : cN s a (-1) = gb s a := by unfold cN; rw [if_pos ⟨by decide, hlt⟩]
    have hg := gb_lt s a
    have ea : (a : Int) + 1 = ((a + 1 : Nat) : Int) := by omega
    by_cases h1 : gb s a = 34 ∨ gb s a = 92
    · have hp : partF s a = .yes (a + 1) [UInt8.ofNat (gb s a)] := by unfold partF; rw [if_pos ⟨hlt, h1⟩]
      have eb : ((gb s a : Nat) : Int) = ((UInt8.ofNat (gb s a)).toNat : Int) := by rw [UInt8.toNat_ofNat']; omega
      have h2 : cN s a (-1) = 34 ∨ cN s a (-1) = 92 := by rw [ec]; exact h1
      rcases h2 with h2 | h2
      all_goals
        (refine st_EP8_1 ?_; intros; rename_i q)
        rw [ec, eb]
        refine WL.blkStr (s := [UInt8.ofNat (gb s a)]) rfl zhs rfl rfl rfl rfl rfl rfl rfl ?_
        (try (refine st_EP8_1 ?_; intros))
        exact q_fin0 (H0 := .blk b (.cells [str s, .int .i64 ((a + 1 : Nat) : Int), .int .i64 (-1)].toArray 53 (0, 0)) :: H) ⟨rfl, .inl ⟨a + 1, _, hp, rfl, rfl⟩⟩ (hd := zpk)
    · by_cases h2 : gb s a = 120
      · have hD := digF_end s 2 0 (a + 1) hlt
        have hV := digF_val s 2 0 (a + 1)
        have hC := digF_count s 2 0 (a + 1)
        have hp : partF s a = if (digF s 2 0 (a + 1)).1 < 2 then .no (digF s 2 0 (a + 1)).2.2 else .yes (digF s 2 0 (a + 1)).2.2 [UInt8.ofNat (digF s 2 0 (a + 1)).2.1] := by unfold partF; rw [if_neg (fun h => h1 h.2), if_pos ⟨hlt, h2⟩]
        have h3 : cN s a (-1) = 120 := by rw [ec]; exact h2
        (try (refine st_EP8_1 ?_; intros))
        rw [ea]
        refine w_callF Tryd.func73 ?_ (hs := refDigits_any b s (a + 1) 2 2 hs hlt (by decide) (by decide) _ _ _)
        generalize digF s 2 0 (a + 1) = D at *
        rintro v m H1 ⟨rfl, rfl, rfl⟩
        have eb : ((D.2.1 : Nat) : Int) = ((UInt8.ofNat D.2.1).toNat : Int) := by rw [UInt8.toNat_ofNat']; omega
        have hV2 : (D.2.1 : Int) ≤ 255 := by omega
        (refine st_EP8_1 ?_; intros; rename_i q)
        rw [eb]
        refine WL.blkStr (s := [UInt8.ofNat D.2.1]) rfl zhs rfl rfl rfl rfl rfl rfl rfl ?_
        (try (refine st_EP8_1 ?_; intros))
        by_cases h4 : D.1 < 2
        · rw [if_pos ⟨h4, h4⟩]
          rw [if_pos h4] at hp
          exact q_fin0 (H0 := .blk b (.cells [str s, .int .i64 (D.2.2 : Int), .int .i64 (D.2.2 : Int)].toArray 53 (0, 0)) :: H) ⟨rfl, .inr ⟨D.2.2, D.2.2, [UInt8.ofNat D.2.1], hp, ⟨by omega, by omega⟩, by simp, rfl, rfl⟩⟩ (hd := zpk)
        · rw [if_neg (fun h => h4 h.1)]
          rw [if_neg h4] at hp
          exact q_fin0 (H0 := .blk b (.cells [str s, .int .i64 (D.2.2 : Int), .int .i64 (-1)].toArray 53 (0, 0)) :: H) ⟨rfl, .inl ⟨D.2.2, _, hp, rfl, rfl⟩⟩ (hd := zpk)
      · by_cases h3 : gb s a = 123
        · have hD := digF_end s 6 0 (a + 1) hlt
          have hV := digF_val s 6 0 (a + 1)
          have hC := digF_count s 6 0 (a + 1)
          have hp : partF s a = if (digF s 6 0 (a + 1)).1 = 0 ∨ ¬ ((digF s 6 0 (a + 1)).2.2 < s.length ∧ gb s (digF s 6 0 (a + 1)).2.2 = 125) then .no (digF s 6 0 (a + 1)).2.2 else .yes ((digF s 6 0 (a + 1)).2.2 + 1) (fmb (rn ((digF s 6 0 (a + 1)).2.1 : Int))) := by
            unfold partF; rw [if_neg (fun h => h1 h.2), if_neg (fun h => h2 h.2), if_pos ⟨hlt, h3⟩]
          have h4 : cN s a (-1) = 123 := by rw [ec]; exact h3
          (try (refine st_EP8_1 ?_; intros))
          rw [ea]
          refine w_callF Tryd.func73 ?_ (hs := refDigits_any b s (a + 1) 1 6 hs hlt (by decide) (by decide) _ _ _)
          generalize digF s 6 0 (a + 1) = D at *
          rintro v m H1 ⟨rfl, rfl, rfl⟩
          have hV2 : (D.2.1 : Int) ≤ 16777215 := by omega
          have ee : (D.2.2 : Int) + 1 = ((D.2.2 + 1 : Nat) : Int) := by omega
          have hfl := fmb_length (rn (D.2.1 : Int))
          have hwd := wd_pos (rn (D.2.1 : Int))
          by_cases h5 : D.1 = 0
          · rw [if_pos ⟨by omega, by omega⟩]
            rw [if_pos (.inl h5)] at hp
            have ec2 : cN s D.2.2 (D.2.2 : Int) = 0 := by unfold cN; rw [if_neg (by omega)]
            (try (refine st_EP8_1 ?_; intros))
            refine w_callF Tryd.func25 ?_ (hs := refBad_any b s D.2.2 (D.2.2 : Int) (D.2.2 : Int) _ _ _)
            rintro v m H1 ⟨rfl, rfl, rfl⟩
            rw [if_neg (by omega : ¬ (D.2.2 : Int) < 0)]
            (try (refine st_EP8_1 ?_; intros))
            rw [ee, fmbS]
            exact q_fin0 (H0 := .blk b (.cells [str s, .int .i64 ((D.2.2 + 1 : Nat) : Int), .int .i64 (D.2.2 : Int)].toArray 53 (0, 0)) :: H) ⟨rfl, .inr ⟨D.2.2, D.2.2 + 1, fmb (rn (D.2.1 : Int)), hp, ⟨by omega, by omega⟩, by omega, rfl, rfl⟩⟩ (hd := zpk)
          · rw [if_neg (by omega : ¬ (D.1 < 1 ∧ D.1 < 6))]
            by_cases h6 : D.2.2 < s.length ∧ gb s D.2.2 = 125
            · rw [if_neg (fun h => h.elim h5 (fun h => h h6))] at hp
              have ec2 : cN s D.2.2 (-1) = 125 := by unfold cN; rw [if_pos ⟨by decide, h6.1⟩]; exact h6.2
              (try (refine st_EP8_1 ?_; intros))
              rw [ee, fmbS]
              exact q_fin0 (H0 := .blk b (.cells [str s, .int .i64 ((D.2.2 + 1 : Nat) : Int), .int .i64 (-1)].toArray 53 (0, 0)) :: H) ⟨rfl, .inl ⟨D.2.2 + 1, _, hp, rfl, rfl⟩⟩ (hd := zpk)
            · rw [if_pos (.inr h6)] at hp
              have ec2 : ¬ cN s D.2.2 (-1) = 125 := by
                unfold cN
                by_cases h7 : D.2.2 < s.length
                · rw [if_pos ⟨by decide, h7⟩]; exact fun h => h6 ⟨h7, h⟩
                · rw [if_neg (fun h => h7 h.2)]; decide
              (try (refine st_EP8_1 ?_; intros))
              refine w_callF Tryd.func25 ?_ (hs := refBad_any b s D.2.2 (-1) (D.2.2 : Int) _ _ _)
              rintro v m H1 ⟨rfl, rfl, rfl⟩
              rw [if_pos (by decide : (-1 : Int) < 0)]
              (try (refine st_EP8_1 ?_; intros))
              rw [ee, fmbS]
              exact q_fin0 (H0 := .blk b (.cells [str s, .int .i64 ((D.2.2 + 1 : Nat) : Int), .int .i64 (D.2.2 : Int)].toArray 53 (0, 0)) :: H) ⟨rfl, .inr ⟨D.2.2, D.2.2 + 1, fmb (rn (D.2.1 : Int)), hp, ⟨by omega, by omega⟩, by omega, rfl, rfl⟩⟩ (hd := zpk)
        · have hp : partF s a = .no a := by unfold partF; rw [if_neg (fun h => h1 h.2), if_neg (fun h => h2 h.2), if_neg (fun h => h3 h.2)]
          have h4 : ¬ cN s a (-1) = 34 := by rw [ec]; exact fun h => h1 (.inl h)
          have h5 : ¬ cN s a (-1) = 92 := by rw [ec]; exact fun h => h1 (.inr h)
          have h6 : ¬ cN s a (-1) = 120 := by rw [ec]; exact h2
          have h7 : ¬ cN s a (-1) = 123 := by rw [ec]; exact h3
          (try (refine st_EP8_1 ?_; intros))
          refine w_callF Tryd.func25 ?_ (hs := refBad_any b s a (-1) (a : Int) _ _ _)
          rintro v m H1 ⟨rfl, rfl, rfl⟩
          rw [if_pos (by decide : (-1 : Int) < 0)]
          (try (refine st_EP8_1 ?_; intros))
          exact q_fin0 (H0 := .blk b (.cells [str s, .int .i64 (a : Int), .int .i64 (a : Int)].toArray 53 (0, 0)) :: H) ⟨rfl, .inr ⟨a, a, [], hp, ⟨by omega, by omega⟩, by simp, rfl, rfl⟩⟩ (hd := zpk)
  · have ec : cN s a (-1) = 0 := by unfold cN; rw [if_neg (fun h => hlt h.2)]
    have hp : partF s a = .no a := by unfold partF; rw [if_neg (fun h => hlt h.1), if_neg (fun h => hlt h.1), if_neg (fun h => hlt h.1)]
    (try (refine st_EP8_1 ?_; intros))
    refine w_callF Tryd.func25 ?_ (hs := refBad_any b s a (-1) (a : Int) _ _ _)
    rintro v m H1 ⟨rfl, rfl, rfl⟩
    rw [if_pos (by decide : (-1 : Int) < 0)]
    (try (refine st_EP8_1 ?_; intros))
    exact q_fin0 (H0 := .blk b (.cells [str s, .int .i64 (a : Int), .int .i64 (a : Int)].toArray 53 (0, 0)) :: H) ⟨rfl, .inr ⟨a, a, [], hp, ⟨by omega, by omega⟩, by simp, rfl, rfl⟩⟩ (hd := zpk)
end Go.Proofs.YtelgegefmjlimaaDoor

/-
  The walks of the reference reader's number and quoted. No condition.
-/
namespace Go.Eng
open Go
/-- what the reference's number gives -/
def refNumF (s : List UInt8) (a : Nat) : Nat := capV (sub s a (numE s (s.length + 1) a))
end Go.Eng
namespace Go.Proofs.YtelgegefmjlimaaDoor
open Go Go.Eng
set_option maxRecDepth 100000
set_option maxHeartbeats 4000000
set_option linter.all false
attribute [local irreducible] WL WC WQ QFun QLoop Does Q1 QRound QAssign Go.Addr.add
attribute [local irreducible] cN hexV digF partF capV decV
theorem sq_EP9_1 {G : Prop} (h : G := by (repeat (first | (refine sp ?_; (repeat intro zzc)) | (refine iF 23 rfl ?_; refine w_callG Tryd.func23 ?_ (hs := refC_mem zhs (by omega) (by omega))))); exact WQ.q1 rfl) : G := h
theorem st_EP9_1 {G G' : Prop} (next : G') (h : Bx G' → G := by intro zzn; (first | ((refine st ?_; (repeat intro zzc)); (try ((first | (refine iF 23 rfl ?_; refine w_callG Tryd.func23 ?_ (hs := refC_mem zhs (by omega) (by omega))) | ((refine iDraw ?_; (first | refine WC.drawAll rfl (by decide +kernel) ?_ | refine WC.draw 1 rfl (by decide +kernel) ?_ | refine WC.draw 2 rfl (by decide +kernel) ?_ | refine WC.draw 3 rfl (by decide +kernel) ?_ | refine WC.draw 4 rfl (by decide +kernel) ?_ | refine WC.draw 5 rfl (by decide +kernel) ?_ | refine WC.draw 6 rfl (by decide +kernel) ?_ | refine WC.draw 7 rfl (by decide +kernel) ?_ | refine WC.draw 8 rfl (by decide +kernel) ?_ | refine WC.draw 9 rfl (by decide +kernel) ?_ | refine WC.draw 10 rfl (by decide +kernel) ?_ | refine WC.draw 11 rfl (by decide +kernel) ?_ | refine WC.draw 12 rfl (by decide +kernel) ?_ | refine WC.draw 13 rfl (by decide +kernel) ?_ | refine WC.draw 14 rfl (by decide +kernel) ?_ | refine WC.draw 15 rfl (by decide +kernel) ?_ | refine WC.draw 16 rfl (by decide +kernel) ?_ | refine WC.draw 17 rfl (by decide +kernel) ?_ | refine WC.draw 18 rfl (by decide +kernel) ?_ | refine WC.draw 19 rfl (by decide +kernel) ?_ | refine WC.draw 20 rfl (by decide +kernel) ?_ | refine WC.draw 21 rfl (by decide +kernel) ?_ | refine WC.draw 22 rfl (by decide +kernel) ?_ | refine WC.draw 23 rfl (by decide +kernel) ?_ | refine WC.draw 24 rfl (by decide +kernel) ?_)); (repeat (refine WD.cons rfl (fun c h => by cases h) sq_EP9_1 ?_)); refine WD.nil ?_)); (try (refine st ?_; (repeat intro zzc)))))) | ((first | (refine iF 23 rfl ?_; refine w_callG Tryd.func23 ?_ (hs := refC_mem zhs (by omega) (by omega))) | ((refine iDraw ?_; (first | refine WC.drawAll rfl (by decide +kernel) ?_ | refine WC.draw 1 rfl (by decide +kernel) ?_ | refine WC.draw 2 rfl (by decide +kernel) ?_ | refine WC.draw 3 rfl (by decide +kernel) ?_ | refine WC.draw 4 rfl (by decide +kernel) ?_ | refine WC.draw 5 rfl (by decide +kernel) ?_ | refine WC.draw 6 rfl (by decide +kernel) ?_ | refine WC.draw 7 rfl (by decide +kernel) ?_ | refine WC.draw 8 rfl (by decide +kernel) ?_ | refine WC.draw 9 rfl (by decide +kernel) ?_ | refine WC.draw 10 rfl (by decide +kernel) ?_ | refine WC.draw 11 rfl (by decide +kernel) ?_ | refine WC.draw 12 rfl (by decide +kernel) ?_ | refine WC.draw 13 rfl (by decide +kernel) ?_ | refine WC.draw 14 rfl (by decide +kernel) ?_ | refine WC.draw 15 rfl (by decide +kernel) ?_ | refine WC.draw 16 rfl (by decide +kernel) ?_ | refine WC.draw 17 rfl (by decide +kernel) ?_ | refine WC.draw 18 rfl (by decide +kernel) ?_ | refine WC.draw 19 rfl (by decide +kernel) ?_ | refine WC.draw 20 rfl (by decide +kernel) ?_ | refine WC.draw 21 rfl (by decide +kernel) ?_ | refine WC.draw 22 rfl (by decide +kernel) ?_ | refine WC.draw 23 rfl (by decide +kernel) ?_ | refine WC.draw 24 rfl (by decide +kernel) ?_)); (repeat (refine WD.cons rfl (fun c h => by cases h) sq_EP9_1 ?_)); refine WD.nil ?_)); (try (refine st ?_; (repeat intro zzc))))); (repeat ((first | (refine iF 23 rfl ?_; refine w_callG Tryd.func23 ?_ (hs := refC_mem zhs (by omega) (by omega))) | ((refine iDraw ?_; (first | refine WC.drawAll rfl (by decide +kernel) ?_ | refine WC.draw 1 rfl (by decide +kernel) ?_ | refine WC.draw 2 rfl (by decide +kernel) ?_ | refine WC.draw 3 rfl (by decide +kernel) ?_ | refine WC.draw 4 rfl (by decide +kernel) ?_ | refine WC.draw 5 rfl (by decide +kernel) ?_ | refine WC.draw 6 rfl (by decide +kernel) ?_ | refine WC.draw 7 rfl (by decide +kernel) ?_ | refine WC.draw 8 rfl (by decide +kernel) ?_ | refine WC.draw 9 rfl (by decide +kernel) ?_ | refine WC.draw 10 rfl (by decide +kernel) ?_ | refine WC.draw 11 rfl (by decide +kernel) ?_ | refine WC.draw 12 rfl (by decide +kernel) ?_ | refine WC.draw 13 rfl (by decide +kernel) ?_ | refine WC.draw 14 rfl (by decide +kernel) ?_ | refine WC.draw 15 rfl (by decide +kernel) ?_ | refine WC.draw 16 rfl (by decide +kernel) ?_ | refine WC.draw 17 rfl (by decide +kernel) ?_ | refine WC.draw 18 rfl (by decide +kernel) ?_ | refine WC.draw 19 rfl (by decide +kernel) ?_ | refine WC.draw 20 rfl (by decide +kernel) ?_ | refine WC.draw 21 rfl (by decide +kernel) ?_ | refine WC.draw 22 rfl (by decide +kernel) ?_ | refine WC.draw 23 rfl (by decide +kernel) ?_ | refine WC.draw 24 rfl (by decide +kernel) ?_)); (repeat (refine WD.cons rfl (fun c h => by cases h) sq_EP9_1 ?_)); refine WD.nil ?_)); (try (refine st ?_; (repeat intro zzc))))); (repeat revert zzc); exact zzn.out) : G := h ⟨next⟩
theorem refNumber_any (b : Nat) (s : List UInt8) (a : Nat) (hs : s.length ≤ 1000000) (ha : a ≤ s.length) (w0 : World) (m : Mem) (H : SHeap) :
    Does Tryd.prog 24 #[.pointer (some ⟨b, 0, none⟩)] w0 m (.blk b (.cells [str s, .int .i64 (a : Int), .int .i64 (-1)].toArray 53 (0, 0)) :: H)
      (fun v m' H' => m' = m ∧ ((a < s.length ∧ 49 ≤ gb s a ∧ gb s a ≤ 57 ∧ v = .int .i64 (refNumF s a : Int) ∧ H' = .blk b (.cells [str s, .int .i64 (numE s (s.length + 1) a : Int), .int .i64 (-1)].toArray 53 (0, 0)) :: H) ∨
        (¬ (a < s.length ∧ 49 ≤ gb s a ∧ gb s a ≤ 57) ∧ v = .int .i64 0 ∧ H' = .blk b (.cells [str s, .int .i64 (a : Int), .int .i64 (a : Int)].toArray 53 (0, 0)) :: H))) := by
  refine Does.of_body (args := [.pointer (some ⟨b, 0, none⟩)]) Tryd.func24 rfl Tryd.ntmps24 rfl ?_
  have hcl := cN_le s a (-1)
  by_cases h1 : a < s.length ∧ 49 ≤ gb s a ∧ gb s a ≤ 57
  · have ec : cN s a (-1) = gb s a := by unfold cN; rw [if_pos ⟨by decide, h1.1⟩]
    have h2 : ¬ cN s a (-1) < 49 := by omega
    have h3 : ¬ 57 < cN s a (-1) := by omega
    generalize hE : numE s (s.length + 1) a = E
    have hEb := numE_end s (s.length + 1) a ha
    rw [hE] at hEb
    have hV : refNumF s a = capV (sub s a E) := by unfold refNumF; rw [hE]
    (try (refine st_EP9_1 ?_; intros))
    refine WC.loopH [(3, .int .i64 ((0) : Int)), (0, .pointer (some ⟨b, 0, none⟩))] ?_ ?_ (fun j r ds m' H' => ∃ (f : Nat) (e : Nat) (n : Nat), j = 2 * f ∧ r = [(3, .int .i64 (n : Int)), (0, .pointer (some ⟨b, 0, none⟩))] ∧ ds = [] ∧ m = m' ∧ H' = .blk b (.cells [str s, .int .i64 (e : Int), .int .i64 (-1)].toArray 53 (0, 0)) :: H ∧ (s.length < e + f) ∧ (a ≤ e ∧ e ≤ s.length) ∧ (n = capV (sub s a e)) ∧ (numE s f e = E)) (2 * (s.length + 1)) ⟨s.length + 1, a, 0, rfl, rfl, rfl, rfl, rfl, by omega, ⟨Nat.le_refl _, ha⟩, by rw [sub_nil]; unfold capV; rfl, hE⟩ ?_
    · (repeat (first | exact Env.Sub.nil | refine Env.Sub.cons rfl ?_))
    · exact zpk
    rintro j r ds m' H' ⟨f, e, n, rfl, rfl, rfl, rfl, rfl, hf, hea, hn, hR⟩
    have hcap := (capV_or (sub s a e)).2
    have hcl := cN_le s e (-1)
    obtain ⟨f, rfl⟩ : ∃ g, f = g + 1 := ⟨f - 1, by omega⟩
    by_cases h4 : e < s.length ∧ 48 ≤ gb s e ∧ gb s e ≤ 57
    · have ec2 : cN s e (-1) = gb s e := by unfold cN; rw [if_pos ⟨by decide, h4.1⟩]
      have hg1 : 48 ≤ cN s e (-1) := by omega
      have hg2 : cN s e (-1) ≤ 57 := by omega
      rw [numE, if_pos h4] at hR
      have hsn := sub_snoc (s := s) hea.1 h4.1
      have hcs := capV_snoc (sub s a e) (UInt8.ofNat (gb s e))
      rw [← hsn, UInt8.toNat_ofNat', ← hn] at hcs
      have ee : (e : Int) + 1 = ((e + 1 : Nat) : Int) := by omega
      by_cases h5 : n < 1099511627776
      · rw [if_pos h5] at hcs
        have e7 : 10 * (n : Int) + ((cN s e (-1) : Int) - 48) = ((10 * n + (gb s e % 2 ^ 8 - 48) : Nat) : Int) := by rw [ec2]; omega
        (try (refine st_EP9_1 ?_; intros))
        rw [ee, e7]
        refine WQ.next (2 * (f)) ⟨f, e + 1, 10 * n + (gb s e % 2 ^ 8 - 48), rfl, rfl, rfl, rfl, rfl, ?_, ?_, ?_, ?_⟩ (by omega) zsb zpk
        · omega
        · omega
        · exact hcs.symm
        · exact hR
      · rw [if_neg h5] at hcs
        (try (refine st_EP9_1 ?_; intros))
        rw [ee]
        refine WQ.next (2 * (f)) ⟨f, e + 1, n, rfl, rfl, rfl, rfl, rfl, ?_, ?_, ?_, ?_⟩ (by omega) zsb zpk
        · omega
        · omega
        · exact hcs.symm
        · exact hR
    · rw [numE, if_neg h4] at hR
      subst hR
      by_cases h5 : 48 ≤ cN s e (-1)
      · have h6 : ¬ cN s e (-1) ≤ 57 := by
          intro h6
          apply h4
          have h7 : e < s.length := by
            rcases Nat.lt_or_ge e s.length with h7 | h7
            · exact h7
            · have : cN s e (-1) = 0 := by unfold cN; rw [if_neg (by omega)]
              omega
          have ec2 : cN s e (-1) = gb s e := by unfold cN; rw [if_pos ⟨by decide, h7⟩]
          omega
        (try (refine st_EP9_1 ?_; intros))
        exact q_fin0 (H0 := .blk b (.cells [str s, .int .i64 (e : Int), .int .i64 (-1)].toArray 53 (0, 0)) :: H) ⟨rfl, .inl ⟨h1.1, h1.2.1, h1.2.2, by rw [hV, ← hn], rfl⟩⟩ (hd := zpk)
      · (try (refine st_EP9_1 ?_; intros))
        exact q_fin0 (H0 := .blk b (.cells [str s, .int .i64 (e : Int), .int .i64 (-1)].toArray 53 (0, 0)) :: H) ⟨rfl, .inl ⟨h1.1, h1.2.1, h1.2.2, by rw [hV, ← hn], rfl⟩⟩ (hd := zpk)
  · have key : cN s a (-1) < 49 ∨ 57 < cN s a (-1) := by
      by_cases h7 : a < s.length
      · have ec : cN s a (-1) = gb s a := by unfold cN; rw [if_pos ⟨by decide, h7⟩]
        omega
      · have : cN s a (-1) = 0 := by unfold cN; rw [if_neg (by omega)]
        omega
    have ec3 : cN s a (a : Int) = 0 := by unfold cN; rw [if_neg (by omega)]
    by_cases h2 : cN s a (-1) < 49
    · (try (refine st_EP9_1 ?_; intros))
      refine w_callF Tryd.func25 ?_ (hs := refBad_any b s a (-1) (a : Int) _ _ _)
      rintro v m H1 ⟨rfl, rfl, rfl⟩
      rw [if_pos (by decide : (-1 : Int) < 0)]
      (try (refine st_EP9_1 ?_; intros))
      refine WC.loopH [(3, .int .i64 0), (0, .pointer (some ⟨b, 0, none⟩))] ?_ ?_ (fun j r ds m' H' => ∃ (z : Nat), j = 0 ∧ r = [(3, .int .i64 0), (0, .pointer (some ⟨b, 0, none⟩))] ∧ ds = [] ∧ m = m' ∧ H' = .blk b (.cells [str s, .int .i64 (a : Int), .int .i64 (a : Int)].toArray 53 (0, 0)) :: H) (0) ⟨0, rfl, rfl, rfl, rfl, rfl⟩ ?_
      · (repeat (first | exact Env.Sub.nil | refine Env.Sub.cons rfl ?_))
      · exact zpk
      rintro j r ds m' H' ⟨z, rfl, rfl, rfl, rfl, rfl⟩
      (try (refine st_EP9_1 ?_; intros))
      exact q_fin0 (H0 := .blk b (.cells [str s, .int .i64 (a : Int), .int .i64 (a : Int)].toArray 53 (0, 0)) :: H) ⟨rfl, .inr ⟨h1, rfl, rfl⟩⟩ (hd := zpk)
    · have h3 : 57 < cN s a (-1) := by omega
      (try (refine st_EP9_1 ?_; intros))
      refine w_callF Tryd.func25 ?_ (hs := refBad_any b s a (-1) (a : Int) _ _ _)
      rintro v m H1 ⟨rfl, rfl, rfl⟩
      rw [if_pos (by decide : (-1 : Int) < 0)]
      (try (refine st_EP9_1 ?_; intros))
      refine WC.loopH [(3, .int .i64 0), (0, .pointer (some ⟨b, 0, none⟩))] ?_ ?_ (fun j r ds m' H' => ∃ (z : Nat), j = 0 ∧ r = [(3, .int .i64 0), (0, .pointer (some ⟨b, 0, none⟩))] ∧ ds = [] ∧ m = m' ∧ H' = .blk b (.cells [str s, .int .i64 (a : Int), .int .i64 (a : Int)].toArray 53 (0, 0)) :: H) (0) ⟨0, rfl, rfl, rfl, rfl, rfl⟩ ?_
      · (repeat (first | exact Env.Sub.nil | refine Env.Sub.cons rfl ?_))
      · exact zpk
      rintro j r ds m' H' ⟨z, rfl, rfl, rfl, rfl, rfl⟩
      (try (refine st_EP9_1 ?_; intros))
      exact q_fin0 (H0 := .blk b (.cells [str s, .int .i64 (a : Int), .int .i64 (a : Int)].toArray 53 (0, 0)) :: H) ⟨rfl, .inr ⟨h1, rfl, rfl⟩⟩ (hd := zpk)
theorem refQuotedR_any (b : Nat) (s : List UInt8) (a : Nat) (hs : s.length ≤ 1000000) (ha : a ≤ s.length) (w0 : World) (m : Mem) (H : SHeap) :
    Does Tryd.prog 26 #[.pointer (some ⟨b, 0, none⟩)] w0 m (.blk b (.cells [str s, .int .i64 (a : Int), .int .i64 (-1)].toArray 53 (0, 0)) :: H)
      (fun v m' H' => m' = m ∧ ((∃ e t, quotF s a = .yes e t ∧ v = str t ∧ H' = .blk b (.cells [str s, .int .i64 (e : Int), .int .i64 (-1)].toArray 53 (0, 0)) :: H) ∨
        (∃ (w e : Nat) (t : List UInt8), quotF s a = .no w ∧ t.length ≤ 4000100 ∧ e ≤ s.length + 2 ∧ v = str t ∧ H' = .blk b (.cells [str s, .int .i64 (e : Int), .int .i64 (w : Int)].toArray 53 (0, 0)) :: H))) := by
  refine Does.of_body (args := [.pointer (some ⟨b, 0, none⟩)]) Tryd.func26 rfl Tryd.ntmps26 rfl ?_
  by_cases h1 : a < s.length ∧ gb s a = 34
  · have hq : quotF s a = quoF s (s.length + 1) (a + 1) [] := by unfold quotF; rw [if_pos h1]
    have ec : cN s a (-1) = 34 := by unfold cN; rw [if_pos ⟨by decide, h1.1⟩]; exact h1.2
    generalize hR : quotF s a = R at *
    refine WC.newRow (T := 5) (sz := 1) ?_
    have ea : (a : Int) + 1 = ((a + 1 : Nat) : Int) := by omega
    obtain ⟨h1, _⟩ := h1
    (try (refine st_EP9_1 ?_; intros))
    rw [ea]
    refine WC.loopH [(3, .slice (none) (0) (0)), (0, .pointer (some ⟨b, 0, none⟩))] ?_ ?_ (fun j r ds m' H' => ∃ (f : Nat) (e : Nat) (a9 : Option Addr) (c9 : Nat) (n9 : Nat) (O : List UInt8) (wr : Int), j = 2 * f ∧ r = [(3, .slice a9 n9 c9), (0, .pointer (some ⟨b, 0, none⟩))] ∧ ds = [] ∧ m = m' ∧ H' = .row a9 c9 5 1 (bCs O) :: .blk b (.cells [str s, .int .i64 (e : Int), .int .i64 wr].toArray 53 (0, 0)) :: H ∧ (n9 = O.length) ∧ (O.length ≤ 4 * e + 4 ∧ e ≤ s.length + 1) ∧ ((wr = -1 ∧ quoF s f e O = R ∧ s.length < e + f ∧ e ≤ s.length ∧ O.length ≤ 4 * e) ∨ (∃ w : Nat, wr = (w : Int) ∧ R = .no w))) (2 * (s.length + 1)) ⟨s.length + 1, a + 1, none, 0, 0, ([] : List UInt8), -1, rfl, rfl, rfl, rfl, rfl, rfl, ⟨by simp, by omega⟩, .inl ⟨rfl, hq.symm, by omega, h1, by simp⟩⟩ ?_
    · (repeat (first | exact Env.Sub.nil | refine Env.Sub.cons rfl ?_))
    · exact zpk
    rintro j r ds m' H' ⟨f, e, a9, c9, n9, O, wr, rfl, rfl, rfl, rfl, rfl, hn9, hOl, hQ⟩
    subst hn9
    have hbl := bCs_length O
    obtain ⟨hOl, he1⟩ := hOl
    have ee : (e : Int) + 1 = ((e + 1 : Nat) : Int) := by omega
    rcases hQ with ⟨rfl, hQ, hf, hes, hO4⟩ | ⟨w, rfl, hRw⟩
    · have hcl := cN_le s e (-1)
      obtain ⟨f, rfl⟩ : ∃ g, f = g + 1 := ⟨f - 1, by omega⟩
      rw [quoF] at hQ
      by_cases h3 : e < s.length ∧ gb s e = 34
      · rw [if_pos h3] at hQ
        have ec2 : cN s e (-1) = 34 := by unfold cN; rw [if_pos ⟨by decide, h3.1⟩]; exact h3.2
        (try (refine st_EP9_1 ?_; intros))
        refine WL.rowStr (s := O) rfl rfl zhs rfl rfl rfl rfl rfl ?_
        (try (refine st_EP9_1 ?_; intros))
        rw [ee]
        exact q_fin0 (H0 := .blk b (.cells [str s, .int .i64 ((e + 1 : Nat) : Int), .int .i64 (-1)].toArray 53 (0, 0)) :: H) ⟨rfl, .inl ⟨e + 1, O, hQ.symm, rfl, rfl⟩⟩ (hd := zpk)
      · rw [if_neg h3] at hQ
        have hc34 : ¬ cN s e (-1) = 34 := by
          unfold cN
          by_cases h7 : e < s.length
          · rw [if_pos ⟨by decide, h7⟩]; exact fun h => h3 ⟨h7, h⟩
          · rw [if_neg (fun h => h7 h.2)]; decide
        by_cases h4 : e < s.length ∧ gb s e = 92
        · rw [if_pos h4] at hQ
          have ec2 : cN s e (-1) = 92 := by unfold cN; rw [if_pos ⟨by decide, h4.1⟩]; exact h4.2
          obtain ⟨h4, _⟩ := h4
          (try (refine st_EP9_1 ?_; intros))
          rw [ee]
          refine WL.heap (H' := .blk b (.cells [str s, .int .i64 ((e + 1 : Nat) : Int), .int .i64 (-1)].toArray 53 (0, 0)) :: .row a9 c9 5 1 (bCs O) :: H) zpk ?_
          refine w_callF Tryd.func52 ?_ (hs := refBehind_any b s (e + 1) hs h4 _ _ _)
          rintro v m H1 ⟨rfl, (⟨e2, t, hp, rfl, rfl⟩ | ⟨w, e2, t, hp, he2, ht, rfl, rfl⟩)⟩
          · rw [hp] at hQ
            simp only at hQ
            have hpy := partF_yes hp
            have em : bCs O ++ List.map (fun b => [Value.int .u8 (b.toNat : Int)]) t = bCs (O ++ t) := by rw [← bCs_cat]; rfl
            have el : (bCs O).length + t.length = (O ++ t).length := by rw [bCs_length, List.length_append]
            have el2 : (O ++ t).length = O.length + t.length := List.length_append
            (refine st_EP9_1 ?_; intros; rename_i a8 c8)
            rw [em, el]
            refine WQ.next (2 * (f)) ⟨f, e2, a8, c8, (O ++ t).length, O ++ t, -1, rfl, rfl, rfl, rfl, rfl, ?_, ?_, ?_⟩ (by omega) zsb zpk
            · rfl
            · omega
            · exact .inl ⟨rfl, hQ, by omega, by omega, by omega⟩
          · rw [hp] at hQ
            simp only at hQ
            have em : bCs O ++ List.map (fun b => [Value.int .u8 (b.toNat : Int)]) t = bCs (O ++ t) := by rw [← bCs_cat]; rfl
            have el : (bCs O).length + t.length = (O ++ t).length := by rw [bCs_length, List.length_append]
            have el2 : (O ++ t).length = O.length + t.length := List.length_append
            (refine st_EP9_1 ?_; intros; rename_i a8 c8)
            rw [em, el]
            refine WQ.next (2 * (f)) ⟨f, e2, a8, c8, (O ++ t).length, O ++ t, (w : Int), rfl, rfl, rfl, rfl, rfl, ?_, ?_, ?_⟩ (by omega) zsb zpk
            · rfl
            · omega
            · exact .inr ⟨w, rfl, hQ.symm⟩
        · rw [if_neg h4] at hQ
          by_cases h5 : e < s.length ∧ 32 ≤ gb s e ∧ gb s e ≤ 126
          · rw [if_pos h5] at hQ
            have ec2 : cN s e (-1) = gb s e := by unfold cN; rw [if_pos ⟨by decide, h5.1⟩]
            have hc92 : ¬ cN s e (-1) = 92 := by rw [ec2]; exact fun h => h4 ⟨h5.1, h⟩
            obtain ⟨h5, h6, h7⟩ := h5
            have eb : ((cN s e (-1) : Nat) : Int) = ((UInt8.ofNat (gb s e)).toNat : Int) := by rw [UInt8.toNat_ofNat', ec2]; omega
            have ea1 : bCs O ++ [[Value.int .u8 (cN s e (-1) : Int)]] = bCs (O ++ [UInt8.ofNat (gb s e)]) := by rw [eb, ← bCs_cat]; rfl
            have el : (bCs O).length + 1 = (O ++ [UInt8.ofNat (gb s e)]).length := by rw [hbl]; simp
            have hc32 : 32 ≤ cN s e (-1) := by omega
            have hc126 : cN s e (-1) ≤ 126 := by omega
            (refine st_EP9_1 ?_; intros; rename_i q a8 c8)
            rw [ea1, el, ee]
            refine WQ.next (2 * (f)) ⟨f, e + 1, a8, c8, (O ++ [UInt8.ofNat (gb s e)]).length, O ++ [UInt8.ofNat (gb s e)], -1, rfl, rfl, rfl, rfl, rfl, ?_, ?_, ?_⟩ (by omega) zsb zpk
            · rfl
            · omega
            · exact .inl ⟨rfl, hQ, by omega, by omega, by omega⟩
          · rw [if_neg h5] at hQ
            have key : cN s e (-1) < 32 ∨ 126 < cN s e (-1) := by
              by_cases h7 : e < s.length
              · have ec : cN s e (-1) = gb s e := by unfold cN; rw [if_pos ⟨by decide, h7⟩]
                omega
              · have : cN s e (-1) = 0 := by unfold cN; rw [if_neg (by omega)]
                omega
            by_cases h8 : cN s e (-1) < 32
            · (try (refine st_EP9_1 ?_; intros))
              refine WL.heap (H' := .blk b (.cells [str s, .int .i64 (e : Int), .int .i64 (-1)].toArray 53 (0, 0)) :: .row a9 c9 5 1 (bCs O) :: H) zpk ?_
              refine w_callF Tryd.func25 ?_ (hs := refBad_any b s e (-1) (e : Int) _ _ _)
              rintro v m H1 ⟨rfl, rfl, rfl⟩
              rw [if_pos (by decide : (-1 : Int) < 0)]
              (try (refine st_EP9_1 ?_; intros))
              refine WQ.next (2 * (f)) ⟨f, e, a9, c9, O.length, O, (e : Int), rfl, rfl, rfl, rfl, rfl, ?_, ?_, ?_⟩ (by omega) zsb zpk
              · rfl
              · omega
              · exact .inr ⟨e, rfl, hQ.symm⟩
            · have h9 : 126 < cN s e (-1) := by omega
              (try (refine st_EP9_1 ?_; intros))
              refine WL.heap (H' := .blk b (.cells [str s, .int .i64 (e : Int), .int .i64 (-1)].toArray 53 (0, 0)) :: .row a9 c9 5 1 (bCs O) :: H) zpk ?_
              refine w_callF Tryd.func25 ?_ (hs := refBad_any b s e (-1) (e : Int) _ _ _)
              rintro v m H1 ⟨rfl, rfl, rfl⟩
              rw [if_pos (by decide : (-1 : Int) < 0)]
              (try (refine st_EP9_1 ?_; intros))
              refine WQ.next (2 * (f)) ⟨f, e, a9, c9, O.length, O, (e : Int), rfl, rfl, rfl, rfl, rfl, ?_, ?_, ?_⟩ (by omega) zsb zpk
              · rfl
              · omega
              · exact .inr ⟨e, rfl, hQ.symm⟩
    · (try (refine st_EP9_1 ?_; intros))
      refine WL.rowStr (s := O) rfl rfl zhs rfl rfl rfl rfl rfl ?_
      (try (refine st_EP9_1 ?_; intros))
      rw [ee]
      exact q_fin0 (H0 := .blk b (.cells [str s, .int .i64 ((e + 1 : Nat) : Int), .int .i64 (w : Int)].toArray 53 (0, 0)) :: H) ⟨rfl, .inr ⟨w, e + 1, O, hRw, by omega, by omega, rfl, rfl⟩⟩ (hd := zpk)
  · have hq : quotF s a = .no a := by unfold quotF; rw [if_neg h1]
    have hc34 : ¬ cN s a (-1) = 34 := by
      unfold cN
      by_cases h7 : a < s.length
      · rw [if_pos ⟨by decide, h7⟩]; exact fun h => h1 ⟨h7, h⟩
      · rw [if_neg (fun h => h7 h.2)]; decide
    (try (refine st_EP9_1 ?_; intros))
    refine w_callF Tryd.func25 ?_ (hs := refBad_any b s a (-1) (a : Int) _ _ _)
    rintro v m H1 ⟨rfl, rfl, rfl⟩
    rw [if_pos (by decide : (-1 : Int) < 0)]
    (try (refine st_EP9_1 ?_; intros))
    exact q_fin0 (H0 := .blk b (.cells [str s, .int .i64 (a : Int), .int .i64 (a : Int)].toArray 53 (0, 0)) :: H) ⟨rfl, .inr ⟨a, a, [], hq, by simp, by omega, rfl, rfl⟩⟩ (hd := zpk)
end Go.Proofs.YtelgegefmjlimaaDoor

/-
  The walk of the reference's Read. No condition.
-/
namespace Go.Proofs.YtelgegefmjlimaaDoor
open Go Go.Eng
set_option maxRecDepth 100000
set_option maxHeartbeats 4000000
set_option linter.all false
attribute [local irreducible] WL WC WQ QFun QLoop Does Q1 QRound QAssign Go.Addr.add
attribute [local irreducible] cN quotF capV decV numE quotedW
theorem sq_EPC_1 {G : Prop} (h : G := by (repeat (first | (refine sp ?_; (repeat intro zzc)) | (refine iF 23 rfl ?_; refine w_callG Tryd.func23 ?_ (hs := refC_mem zhs (by omega) (by omega))) | (refine iF 27 rfl ?_; refine w_callG Tryd.func27 ?_ (hs := refQuoted_any _ (by omega) _ _ _)))); exact WQ.q1 rfl) : G := h
theorem st_EPC_1 {G G' : Prop} (next : G') (h : Bx G' → G := by intro zzn; (first | ((refine st ?_; (repeat intro zzc)); (try ((first | (refine iF 23 rfl ?_; refine w_callG Tryd.func23 ?_ (hs := refC_mem zhs (by omega) (by omega))) | (refine iF 27 rfl ?_; refine w_callG Tryd.func27 ?_ (hs := refQuoted_any _ (by omega) _ _ _)) | ((refine iDraw ?_; (first | refine WC.drawAll rfl (by decide +kernel) ?_ | refine WC.draw 1 rfl (by decide +kernel) ?_ | refine WC.draw 2 rfl (by decide +kernel) ?_ | refine WC.draw 3 rfl (by decide +kernel) ?_ | refine WC.draw 4 rfl (by decide +kernel) ?_ | refine WC.draw 5 rfl (by decide +kernel) ?_ | refine WC.draw 6 rfl (by decide +kernel) ?_ | refine WC.draw 7 rfl (by decide +kernel) ?_ | refine WC.draw 8 rfl (by decide +kernel) ?_ | refine WC.draw 9 rfl (by decide +kernel) ?_ | refine WC.draw 10 rfl (by decide +kernel) ?_ | refine WC.draw 11 rfl (by decide +kernel) ?_ | refine WC.draw 12 rfl (by decide +kernel) ?_ | refine WC.draw 13 rfl (by decide +kernel) ?_ | refine WC.draw 14 rfl (by decide +kernel) ?_ | refine WC.draw 15 rfl (by decide +kernel) ?_ | refine WC.draw 16 rfl (by decide +kernel) ?_ | refine WC.draw 17 rfl (by decide +kernel) ?_ | refine WC.draw 18 rfl (by decide +kernel) ?_ | refine WC.draw 19 rfl (by decide +kernel) ?_ | refine WC.draw 20 rfl (by decide +kernel) ?_ | refine WC.draw 21 rfl (by decide +kernel) ?_ | refine WC.draw 22 rfl (by decide +kernel) ?_ | refine WC.draw 23 rfl (by decide +kernel) ?_ | refine WC.draw 24 rfl (by decide +kernel) ?_)); (repeat (refine WD.cons rfl (fun c h => by cases h) sq_EPC_1 ?_)); refine WD.nil ?_)); (try (refine st ?_; (repeat intro zzc)))))) | ((first | (refine iF 23 rfl ?_; refine w_callG Tryd.func23 ?_ (hs := refC_mem zhs (by omega) (by omega))) | (refine iF 27 rfl ?_; refine w_callG Tryd.func27 ?_ (hs := refQuoted_any _ (by omega) _ _ _)) | ((refine iDraw ?_; (first | refine WC.drawAll rfl (by decide +kernel) ?_ | refine WC.draw 1 rfl (by decide +kernel) ?_ | refine WC.draw 2 rfl (by decide +kernel) ?_ | refine WC.draw 3 rfl (by decide +kernel) ?_ | refine WC.draw 4 rfl (by decide +kernel) ?_ | refine WC.draw 5 rfl (by decide +kernel) ?_ | refine WC.draw 6 rfl (by decide +kernel) ?_ | refine WC.draw 7 rfl (by decide +kernel) ?_ | refine WC.draw 8 rfl (by decide +kernel) ?_ | refine WC.draw 9 rfl (by decide +kernel) ?_ | refine WC.draw 10 rfl (by decide +kernel) ?_ | refine WC.draw 11 rfl (by decide +kernel) ?_ | refine WC.draw 12 rfl (by decide +kernel) ?_ | refine WC.draw 13 rfl (by decide +kernel) ?_ | refine WC.draw 14 rfl (by decide +kernel) ?_ | refine WC.draw 15 rfl (by decide +kernel) ?_ | refine WC.draw 16 rfl (by decide +kernel) ?_ | refine WC.draw 17 rfl (by decide +kernel) ?_ | refine WC.draw 18 rfl (by decide +kernel) ?_ | refine WC.draw 19 rfl (by decide +kernel) ?_ | refine WC.draw 20 rfl (by decide +kernel) ?_ | refine WC.draw 21 rfl (by decide +kernel) ?_ | refine WC.draw 22 rfl (by decide +kernel) ?_ | refine WC.draw 23 rfl (by decide +kernel) ?_ | refine WC.draw 24 rfl (by decide +kernel) ?_)); (repeat (refine WD.cons rfl (fun c h => by cases h) sq_EPC_1 ?_)); refine WD.nil ?_)); (try (refine st ?_; (repeat intro zzc))))); (repeat ((first | (refine iF 23 rfl ?_; refine w_callG Tryd.func23 ?_ (hs := refC_mem zhs (by omega) (by omega))) | (refine iF 27 rfl ?_; refine w_callG Tryd.func27 ?_ (hs := refQuoted_any _ (by omega) _ _ _)) | ((refine iDraw ?_; (first | refine WC.drawAll rfl (by decide +kernel) ?_ | refine WC.draw 1 rfl (by decide +kernel) ?_ | refine WC.draw 2 rfl (by decide +kernel) ?_ | refine WC.draw 3 rfl (by decide +kernel) ?_ | refine WC.draw 4 rfl (by decide +kernel) ?_ | refine WC.draw 5 rfl (by decide +kernel) ?_ | refine WC.draw 6 rfl (by decide +kernel) ?_ | refine WC.draw 7 rfl (by decide +kernel) ?_ | refine WC.draw 8 rfl (by decide +kernel) ?_ | refine WC.draw 9 rfl (by decide +kernel) ?_ | refine WC.draw 10 rfl (by decide +kernel) ?_ | refine WC.draw 11 rfl (by decide +kernel) ?_ | refine WC.draw 12 rfl (by decide +kernel) ?_ | refine WC.draw 13 rfl (by decide +kernel) ?_ | refine WC.draw 14 rfl (by decide +kernel) ?_ | refine WC.draw 15 rfl (by decide +kernel) ?_ | refine WC.draw 16 rfl (by decide +kernel) ?_ | refine WC.draw 17 rfl (by decide +kernel) ?_ | refine WC.draw 18 rfl (by decide +kernel) ?_ | refine WC.draw 19 rfl (by decide +kernel) ?_ | refine WC.draw 20 rfl (by decide +kernel) ?_ | refine WC.draw 21 rfl (by decide +kernel) ?_ | refine WC.draw 22 rfl (by decide +kernel) ?_ | refine WC.draw 23 rfl (by decide +kernel) ?_ | refine WC.draw 24 rfl (by decide +kernel) ?_)); (repeat (refine WD.cons rfl (fun c h => by cases h) sq_EPC_1 ?_)); refine WD.nil ?_)); (try (refine st ?_; (repeat intro zzc))))); (repeat revert zzc); exact zzn.out) : G := h ⟨next⟩
theorem refRead_any (s : List UInt8) (hs : s.length ≤ 200000) (w0 : World) (m : Mem) (H : SHeap) :
    Does Tryd.prog 7 #[str s] w0 m H (fun v m' H' => m' = m ∧ ((∃ (e : Nat) (l : List Stp) (a9 : Option Addr) (c9 : Nat), readF s (s.length + 1) 0 0 0 [] = .yes e l ∧ v = .tuple #[.slice a9 l.length c9, .int .i64 (-1)] ∧ H' = .row a9 c9 55 3 (l.map Stp.cs) :: H) ∨
      (∃ w : Nat, readF s (s.length + 1) 0 0 0 [] = .no w ∧ v = .tuple #[.slice none 0 0, .int .i64 (w : Int)] ∧ H' = H))) := by
  refine Does.of_body (args := [str s]) Tryd.func7 rfl Tryd.ntmps7 rfl ?_
  generalize hR : readF s (s.length + 1) 0 0 0 [] = R
  refine WC.newRow (T := 55) (sz := 3) ?_
  (refine st_EPC_1 ?_; intros; rename_i b)
  refine WC.loopH [(0, str s), (4, .pointer (some ⟨b, 0, none⟩)), (5, .slice (none) (0) (0)), (6, .int .i64 ((0) : Int)), (7, .int .i64 ((0) : Int))] ?_ ?_ (fun j r ds m' H' => ∃ (f : Nat) (a : Nat) (fr : Nat) (to : Nat) (l : List Stp) (wr : Int) (a9 : Option Addr) (c9 : Nat) (n9 : Nat), j = 2 * f ∧ r = [(0, str s), (4, .pointer (some ⟨b, 0, none⟩)), (5, .slice a9 n9 c9), (6, .int .i64 (fr : Int)), (7, .int .i64 (to : Int))] ∧ ds = [] ∧ m = m' ∧ H' = .row a9 c9 55 3 (l.map Stp.cs) :: .blk b (.cells [str s, .int .i64 (a : Int), .int .i64 wr].toArray 53 (0, 0)) :: H ∧ (n9 = l.length) ∧ ((wr = -1 ∧ readF s f a fr to l = R ∧ s.length < a + f ∧ l.length ≤ a ∧ a ≤ s.length ∧ fr ≤ 65536 ∧ to ≤ 65536) ∨ (∃ w : Nat, wr = (w : Int) ∧ R = .no w))) (2 * (s.length + 1)) ⟨s.length + 1, 0, 0, 0, [], -1, none, 0, 0, rfl, rfl, rfl, rfl, rfl, rfl, .inl ⟨rfl, hR, by omega, by simp, by omega, by omega, by omega⟩⟩ ?_
  · (repeat (first | exact Env.Sub.nil | refine Env.Sub.cons rfl ?_))
  · exact zpk
  rintro j r ds m' H' ⟨f, a, fr, to, l, wr, a9, c9, n9, rfl, rfl, rfl, rfl, rfl, hn9, hQ⟩
  subst hn9
  have hml : (l.map Stp.cs).length = l.length := List.length_map _
  rcases hQ with ⟨rfl, hQ, hf, hla, has, hfr, hto⟩ | ⟨w, rfl, hRw⟩
  · obtain ⟨f, rfl⟩ : ∃ g, f = g + 1 := ⟨f - 1, by omega⟩
    have ea : (a : Int) + 1 = ((a + 1 : Nat) : Int) := by omega
    rw [readF] at hQ
    by_cases hlt : a < s.length
    · rw [if_pos hlt] at hQ
      have hga := gb_lt s a
      have ec : cN s a (-1) = gb s a := by unfold cN; rw [if_pos ⟨by decide, hlt⟩]
      by_cases h1 : l ≠ [] ∧ gb s a ≠ 32
      · rw [if_pos h1] at hQ
        have hpos : 0 < l.length := List.length_pos_iff.2 h1.1
        have h2 : ¬ cN s a (-1) = 32 := by rw [ec]; exact h1.2
        (try (refine st_EPC_1 ?_; intros))
        exact q_fin0 (H0 := H) ⟨rfl, .inr ⟨a, hQ.symm, rfl, rfl⟩⟩ (hd := zpk)
      · rw [if_neg h1] at hQ
        by_cases h3 : l = []
        · rw [if_pos h3] at hQ
          have hpos : l.length = 0 := by rw [h3]; rfl
          have hf1 : s.length < a + 1 + f := by omega
          clear h1 h3 hR
          (refine st_EPC_1 ?_; intros; rename_i bx)
          clear hlt hga ec ea hf
          generalize a = a1 at *
          have hcl := cN_le s a1 (-1)
          have ea1 : (a1 : Int) + 1 = ((a1 + 1 : Nat) : Int) := by omega
          have hl0 : ([] : List UInt8).length = 0 := rfl
          by_cases k1 : a1 < s.length ∧ gb s a1 = 61
          · have hst : stepF s a1 fr to = match numF s (a1 + 1) fr to with | .no w => .no w | .yes e n => .yes e ⟨(n : Int), [], []⟩ := by unfold stepF; rw [if_pos k1]; rfl
            have ec : cN s a1 (-1) = 61 := by unfold cN; rw [if_pos ⟨by decide, k1.1⟩]; exact k1.2
            obtain ⟨k1, k2⟩ := k1
            (try (refine st_EPC_1 ?_; intros))
            rw [ea1]
            refine WL.heap (H' := .blk b (.cells [str s, .int .i64 ((a1 + 1 : Nat) : Int), .int .i64 (-1)].toArray 53 (0, 0)) :: .blk bx (.cells [.int .i64 0, str [], str []].toArray 55 (0, 0)) :: .row a9 c9 55 3 (l.map Stp.cs) :: H) zpk ?_
            refine w_callF Tryd.func24 ?_ (hs := refNumber_any b s (a1 + 1) (by omega) k1 _ _ _)
            have hEb := numE_end s (s.length + 1) (a1 + 1) k1
            have hcv := capV_or (sub s (a1 + 1) (numE s (s.length + 1) (a1 + 1)))
            have hrn : refNumF s (a1 + 1) = capV (sub s (a1 + 1) (numE s (s.length + 1) (a1 + 1))) := rfl
            rintro v m H1 ⟨rfl, (⟨g1, g2, g3, rfl, rfl⟩ | ⟨g1, rfl, rfl⟩)⟩
            · have hn : numF s (a1 + 1) fr to = if 65536 - fr < decV (sub s (a1 + 1) (numE s (s.length + 1) (a1 + 1))) ∨ 65536 - to < decV (sub s (a1 + 1) (numE s (s.length + 1) (a1 + 1))) then .no (a1 + 1) else .yes (numE s (s.length + 1) (a1 + 1)) (decV (sub s (a1 + 1) (numE s (s.length + 1) (a1 + 1)))) := by unfold numF; rw [if_pos ⟨g1, g2, g3⟩]
              have hEa : a1 + 1 < numE s (s.length + 1) (a1 + 1) := by
                rw [numE, if_pos ⟨g1, by omega, g3⟩]
                have := numE_end s s.length (a1 + 1 + 1) g1
                omega
              rw [← hrn] at hcv
              generalize refNumF s (a1 + 1) = N at *
              generalize numE s (s.length + 1) (a1 + 1) = E at *
              generalize decV (sub s (a1 + 1) E) = V at *
              by_cases t1 : 65536 - fr < N
              · rw [if_pos (.inl (by omega))] at hn
                rw [hn] at hst
                rw [hst] at hQ
                have t9 : (65536 : Int) - (fr : Int) < (N : Int) := by omega
                (try (refine st_EPC_1 ?_; intros))
                refine WL.heap (H' := .blk b (.cells [str s, .int .i64 (E : Int), .int .i64 (-1)].toArray 53 (0, 0)) :: .blk bx (.cells [.int .i64 (N : Int), str [], str []].toArray 55 (0, 0)) :: .row a9 c9 55 3 (l.map Stp.cs) :: H) zpk ?_
                refine w_callF Tryd.func25 ?_ (hs := refBad_any b s E (-1) ((a1 + 1 : Nat) : Int) _ _ _)
                rintro v m H1 ⟨rfl, rfl, rfl⟩
                rw [if_pos (by decide : (-1 : Int) < 0)]
                have ef : (fr : Int) + (N : Int) + (([] : List UInt8).length : Int) = ((fr + N : Nat) : Int) := by simp
                have et : (to : Int) + (N : Int) + (([] : List UInt8).length : Int) = ((to + N : Nat) : Int) := by simp
                have el : (l.map Stp.cs).length + 1 = (l ++ [(⟨(N : Int), [], []⟩ : Stp)]).length := by simp
                have em : l.map Stp.cs ++ [[Value.int .i64 (N : Int), str [], str []]] = (l ++ [(⟨(N : Int), [], []⟩ : Stp)]).map Stp.cs := by rw [List.map_append]; rfl
                (refine st_EPC_1 ?_; intros; rename_i q a8 c8)
                rw [em, el, ef, et]
                refine WQ.next (2 * (f)) ⟨f, E, fr + N, to + N, l ++ [(⟨(N : Int), [], []⟩ : Stp)], ((a1 + 1 : Nat) : Int), a8, c8, (l ++ [(⟨(N : Int), [], []⟩ : Stp)]).length, rfl, rfl, rfl, rfl, rfl, ?_, ?_⟩ (by omega) zsb zpk
                · rfl
                · exact .inr ⟨a1 + 1, rfl, hQ.symm⟩
              · have t8 : ¬ (65536 : Int) - (fr : Int) < (N : Int) := by omega
                by_cases t2 : 65536 - to < N
                · rw [if_pos (.inr (by omega))] at hn
                  rw [hn] at hst
                  rw [hst] at hQ
                  have t9 : (65536 : Int) - (to : Int) < (N : Int) := by omega
                  have t8 : ¬ (65536 : Int) - (fr : Int) < (N : Int) := by omega
                  (try (refine st_EPC_1 ?_; intros))
                  refine WL.heap (H' := .blk b (.cells [str s, .int .i64 (E : Int), .int .i64 (-1)].toArray 53 (0, 0)) :: .blk bx (.cells [.int .i64 (N : Int), str [], str []].toArray 55 (0, 0)) :: .row a9 c9 55 3 (l.map Stp.cs) :: H) zpk ?_
                  refine w_callF Tryd.func25 ?_ (hs := refBad_any b s E (-1) ((a1 + 1 : Nat) : Int) _ _ _)
                  rintro v m H1 ⟨rfl, rfl, rfl⟩
                  rw [if_pos (by decide : (-1 : Int) < 0)]
                  have ef : (fr : Int) + (N : Int) + (([] : List UInt8).length : Int) = ((fr + N : Nat) : Int) := by simp
                  have et : (to : Int) + (N : Int) + (([] : List UInt8).length : Int) = ((to + N : Nat) : Int) := by simp
                  have el : (l.map Stp.cs).length + 1 = (l ++ [(⟨(N : Int), [], []⟩ : Stp)]).length := by simp
                  have em : l.map Stp.cs ++ [[Value.int .i64 (N : Int), str [], str []]] = (l ++ [(⟨(N : Int), [], []⟩ : Stp)]).map Stp.cs := by rw [List.map_append]; rfl
                  (refine st_EPC_1 ?_; intros; rename_i q a8 c8)
                  rw [em, el, ef, et]
                  refine WQ.next (2 * (f)) ⟨f, E, fr + N, to + N, l ++ [(⟨(N : Int), [], []⟩ : Stp)], ((a1 + 1 : Nat) : Int), a8, c8, (l ++ [(⟨(N : Int), [], []⟩ : Stp)]).length, rfl, rfl, rfl, rfl, rfl, ?_, ?_⟩ (by omega) zsb zpk
                  · rfl
                  · exact .inr ⟨a1 + 1, rfl, hQ.symm⟩
                · have t7 : ¬ (65536 : Int) - (to : Int) < (N : Int) := by omega
                  obtain rfl : N = V := by omega
                  rw [if_neg (fun h => h.elim t1 t2)] at hn
                  rw [hn] at hst
                  rw [hst] at hQ
                  have hQ2 : readF s f E (fr + N) (to + N) (l ++ [⟨(N : Int), [], []⟩]) = R := hQ
                  have ef : (fr : Int) + (N : Int) + (([] : List UInt8).length : Int) = ((fr + N : Nat) : Int) := by simp
                  have et : (to : Int) + (N : Int) + (([] : List UInt8).length : Int) = ((to + N : Nat) : Int) := by simp
                  have el : (l.map Stp.cs).length + 1 = (l ++ [(⟨(N : Int), [], []⟩ : Stp)]).length := by simp
                  have em : l.map Stp.cs ++ [[Value.int .i64 (N : Int), str [], str []]] = (l ++ [(⟨(N : Int), [], []⟩ : Stp)]).map Stp.cs := by rw [List.map_append]; rfl
                  (refine st_EPC_1 ?_; intros; rename_i q a8 c8)
                  rw [em, el, ef, et]
                  refine WQ.next (2 * (f)) ⟨f, E, fr + N, to + N, l ++ [(⟨(N : Int), [], []⟩ : Stp)], -1, a8, c8, (l ++ [(⟨(N : Int), [], []⟩ : Stp)]).length, rfl, rfl, rfl, rfl, rfl, ?_, ?_⟩ (by omega) zsb zpk
                  · rfl
                  · exact .inl ⟨rfl, hQ2, by omega, by rw [List.length_append, List.length_singleton]; omega, by omega, by omega, by omega⟩
            · have hn : numF s (a1 + 1) fr to = .no (a1 + 1) := by unfold numF; rw [if_neg g1]
              rw [hn] at hst
              rw [hst] at hQ
              have ef : (fr : Int) + 0 + (([] : List UInt8).length : Int) = (fr : Int) := by simp
              have et : (to : Int) + 0 + (([] : List UInt8).length : Int) = (to : Int) := by simp
              have el : (l.map Stp.cs).length + 1 = (l ++ [(⟨0, [], []⟩ : Stp)]).length := by simp
              have em : l.map Stp.cs ++ [[Value.int .i64 0, str [], str []]] = (l ++ [(⟨0, [], []⟩ : Stp)]).map Stp.cs := by rw [List.map_append]; rfl
              (refine st_EPC_1 ?_; intros; rename_i q a8 c8)
              rw [em, el, ef, et]
              refine WQ.next (2 * (f)) ⟨f, a1 + 1, fr, to, l ++ [(⟨0, [], []⟩ : Stp)], ((a1 + 1 : Nat) : Int), a8, c8, (l ++ [(⟨0, [], []⟩ : Stp)]).length, rfl, rfl, rfl, rfl, rfl, ?_, ?_⟩ (by omega) zsb zpk
              · rfl
              · exact .inr ⟨a1 + 1, rfl, hQ.symm⟩
          · by_cases k2 : a1 < s.length ∧ gb s a1 = 45
            · have hst : stepF s a1 fr to = match qokF s (a1 + 1) (65536 - fr) with | .no w => .no w | .yes e t => .yes e ⟨0, t, []⟩ := by unfold stepF; rw [if_neg k1, if_pos k2]; rfl
              have ec : cN s a1 (-1) = 45 := by unfold cN; rw [if_pos ⟨by decide, k2.1⟩]; exact k2.2
              have hqo : qokF s (a1 + 1) (65536 - fr) = match quotF s (a1 + 1) with | .no w => .no w | .yes e t => if t = [] ∨ quotedW t ≠ sub s (a1 + 1) e ∨ 65536 - fr < t.length then .no (a1 + 1) else .yes e t := rfl
              obtain ⟨k2, _⟩ := k2
              (try (refine st_EPC_1 ?_; intros))
              rw [ea1]
              refine WL.heap (H' := .blk b (.cells [str s, .int .i64 ((a1 + 1 : Nat) : Int), .int .i64 (-1)].toArray 53 (0, 0)) :: .blk bx (.cells [.int .i64 0, str [], str []].toArray 55 (0, 0)) :: .row a9 c9 55 3 (l.map Stp.cs) :: H) zpk ?_
              refine w_callF Tryd.func26 ?_ (hs := refQuotedR_any b s (a1 + 1) (by omega) k2 _ _ _)
              rintro v m H1 ⟨rfl, (⟨e, t, hq, rfl, rfl⟩ | ⟨w, e, t, hq, ht4, he2, rfl, rfl⟩)⟩
              · have hty := quotF_yes hq
                rw [hq] at hqo
                have hsu : (s.take e).drop (a1 + 1) = sub s (a1 + 1) e := by unfold sub; rw [List.drop_take]
                simp only [ne_eq, ← hsu] at hqo
                have ef : (fr : Int) + 0 + (t.length : Int) = ((fr + t.length : Nat) : Int) := by simp
                have et : (to : Int) + 0 + (([] : List UInt8).length : Int) = ((to : Nat) : Int) := by simp
                by_cases g1 : t = []
                · skip
                  rw [if_pos (.inl g1)] at hqo
                  rw [hqo] at hst
                  rw [hst] at hQ
                  (try (refine st_EPC_1 ?_; intros))
                  refine WL.heap (H' := .blk b (.cells [str s, .int .i64 (e : Int), .int .i64 (-1)].toArray 53 (0, 0)) :: .blk bx (.cells [.int .i64 0, str [], str []].toArray 55 (0, 0)) :: .row a9 c9 55 3 (l.map Stp.cs) :: H) zpk ?_
                  refine w_callF Tryd.func25 ?_ (hs := refBad_any b s e (-1) ((a1 + 1 : Nat) : Int) _ _ _)
                  rintro v m H1 ⟨rfl, rfl, rfl⟩
                  rw [if_pos (by decide : (-1 : Int) < 0)]
                  have el : (l.map Stp.cs).length + 1 = (l ++ [(⟨0, t, []⟩ : Stp)]).length := by simp
                  have em : l.map Stp.cs ++ [[Value.int .i64 0, str t, str []]] = (l ++ [(⟨0, t, []⟩ : Stp)]).map Stp.cs := by rw [List.map_append]; rfl
                  (refine st_EPC_1 ?_; intros; rename_i q a8 c8)
                  rw [em, el, ef, et]
                  refine WQ.next (2 * (f)) ⟨f, e, fr + t.length, to, l ++ [(⟨0, t, []⟩ : Stp)], ((a1 + 1 : Nat) : Int), a8, c8, (l ++ [(⟨0, t, []⟩ : Stp)]).length, rfl, rfl, rfl, rfl, rfl, ?_, ?_⟩ (by omega) zsb zpk
                  · rfl
                  · exact .inr ⟨a1 + 1, rfl, hQ.symm⟩
                · by_cases g2 : quotedW t = (s.take e).drop (a1 + 1)
                  · by_cases g3 : 65536 - fr < t.length
                    · have t9 : (65536 : Int) - (fr : Int) < (t.length : Int) := by omega
                      rw [if_pos (.inr (.inr g3))] at hqo
                      rw [hqo] at hst
                      rw [hst] at hQ
                      (try (refine st_EPC_1 ?_; intros))
                      refine WL.heap (H' := .blk b (.cells [str s, .int .i64 (e : Int), .int .i64 (-1)].toArray 53 (0, 0)) :: .blk bx (.cells [.int .i64 0, str [], str []].toArray 55 (0, 0)) :: .row a9 c9 55 3 (l.map Stp.cs) :: H) zpk ?_
                      refine w_callF Tryd.func25 ?_ (hs := refBad_any b s e (-1) ((a1 + 1 : Nat) : Int) _ _ _)
                      rintro v m H1 ⟨rfl, rfl, rfl⟩
                      rw [if_pos (by decide : (-1 : Int) < 0)]
                      have el : (l.map Stp.cs).length + 1 = (l ++ [(⟨0, t, []⟩ : Stp)]).length := by simp
                      have em : l.map Stp.cs ++ [[Value.int .i64 0, str t, str []]] = (l ++ [(⟨0, t, []⟩ : Stp)]).map Stp.cs := by rw [List.map_append]; rfl
                      (refine st_EPC_1 ?_; intros; rename_i q a8 c8)
                      rw [em, el, ef, et]
                      refine WQ.next (2 * (f)) ⟨f, e, fr + t.length, to, l ++ [(⟨0, t, []⟩ : Stp)], ((a1 + 1 : Nat) : Int), a8, c8, (l ++ [(⟨0, t, []⟩ : Stp)]).length, rfl, rfl, rfl, rfl, rfl, ?_, ?_⟩ (by omega) zsb zpk
                      · rfl
                      · exact .inr ⟨a1 + 1, rfl, hQ.symm⟩
                    · have t9 : ¬ (65536 : Int) - (fr : Int) < (t.length : Int) := by omega
                      rw [if_neg (fun h => h.elim g1 fun h => h.elim (fun h => h g2) g3)] at hqo
                      rw [hqo] at hst
                      rw [hst] at hQ
                      have hQ2 : readF s f e (fr + t.length) (to) (l ++ [⟨0, t, []⟩]) = R := hQ
                      have el : (l.map Stp.cs).length + 1 = (l ++ [(⟨0, t, []⟩ : Stp)]).length := by simp
                      have em : l.map Stp.cs ++ [[Value.int .i64 0, str t, str []]] = (l ++ [(⟨0, t, []⟩ : Stp)]).map Stp.cs := by rw [List.map_append]; rfl
                      (refine st_EPC_1 ?_; intros; rename_i q a8 c8)
                      rw [em, el, ef, et]
                      refine WQ.next (2 * (f)) ⟨f, e, fr + t.length, to, l ++ [(⟨0, t, []⟩ : Stp)], -1, a8, c8, (l ++ [(⟨0, t, []⟩ : Stp)]).length, rfl, rfl, rfl, rfl, rfl, ?_, ?_⟩ (by omega) zsb zpk
                      · rfl
                      · exact .inl ⟨rfl, hQ2, by omega, by rw [List.length_append, List.length_singleton]; omega, by omega, by omega, by omega⟩
                  · skip
                    rw [if_pos (.inr (.inl g2))] at hqo
                    rw [hqo] at hst
                    rw [hst] at hQ
                    (try (refine st_EPC_1 ?_; intros))
                    refine WL.heap (H' := .blk b (.cells [str s, .int .i64 (e : Int), .int .i64 (-1)].toArray 53 (0, 0)) :: .blk bx (.cells [.int .i64 0, str [], str []].toArray 55 (0, 0)) :: .row a9 c9 55 3 (l.map Stp.cs) :: H) zpk ?_
                    refine w_callF Tryd.func25 ?_ (hs := refBad_any b s e (-1) ((a1 + 1 : Nat) : Int) _ _ _)
                    rintro v m H1 ⟨rfl, rfl, rfl⟩
                    rw [if_pos (by decide : (-1 : Int) < 0)]
                    have el : (l.map Stp.cs).length + 1 = (l ++ [(⟨0, t, []⟩ : Stp)]).length := by simp
                    have em : l.map Stp.cs ++ [[Value.int .i64 0, str t, str []]] = (l ++ [(⟨0, t, []⟩ : Stp)]).map Stp.cs := by rw [List.map_append]; rfl
                    (refine st_EPC_1 ?_; intros; rename_i q a8 c8)
                    rw [em, el, ef, et]
                    refine WQ.next (2 * (f)) ⟨f, e, fr + t.length, to, l ++ [(⟨0, t, []⟩ : Stp)], ((a1 + 1 : Nat) : Int), a8, c8, (l ++ [(⟨0, t, []⟩ : Stp)]).length, rfl, rfl, rfl, rfl, rfl, ?_, ?_⟩ (by omega) zsb zpk
                    · rfl
                    · exact .inr ⟨a1 + 1, rfl, hQ.symm⟩
              · rw [hq] at hqo
                rw [hqo] at hst
                rw [hst] at hQ
                have ef : (fr : Int) + 0 + (t.length : Int) = ((fr + t.length : Nat) : Int) := by simp
                have et : (to : Int) + 0 + (([] : List UInt8).length : Int) = ((to : Nat) : Int) := by simp
                have el : (l.map Stp.cs).length + 1 = (l ++ [(⟨0, t, []⟩ : Stp)]).length := by simp
                have em : l.map Stp.cs ++ [[Value.int .i64 0, str t, str []]] = (l ++ [(⟨0, t, []⟩ : Stp)]).map Stp.cs := by rw [List.map_append]; rfl
                (refine st_EPC_1 ?_; intros; rename_i q a8 c8)
                rw [em, el, ef, et]
                refine WQ.next (2 * (f)) ⟨f, e, fr + t.length, to, l ++ [(⟨0, t, []⟩ : Stp)], (w : Int), a8, c8, (l ++ [(⟨0, t, []⟩ : Stp)]).length, rfl, rfl, rfl, rfl, rfl, ?_, ?_⟩ (by omega) zsb zpk
                · rfl
                · exact .inr ⟨w, rfl, hQ.symm⟩
            · by_cases k3 : a1 < s.length ∧ gb s a1 = 43
              · have hst : stepF s a1 fr to = match qokF s (a1 + 1) (65536 - to) with | .no w => .no w | .yes e t => .yes e ⟨0, [], t⟩ := by unfold stepF; rw [if_neg k1, if_neg k2, if_pos k3]; rfl
                have ec : cN s a1 (-1) = 43 := by unfold cN; rw [if_pos ⟨by decide, k3.1⟩]; exact k3.2
                have hqo : qokF s (a1 + 1) (65536 - to) = match quotF s (a1 + 1) with | .no w => .no w | .yes e t => if t = [] ∨ quotedW t ≠ sub s (a1 + 1) e ∨ 65536 - to < t.length then .no (a1 + 1) else .yes e t := rfl
                obtain ⟨k3, _⟩ := k3
                (try (refine st_EPC_1 ?_; intros))
                rw [ea1]
                refine WL.heap (H' := .blk b (.cells [str s, .int .i64 ((a1 + 1 : Nat) : Int), .int .i64 (-1)].toArray 53 (0, 0)) :: .blk bx (.cells [.int .i64 0, str [], str []].toArray 55 (0, 0)) :: .row a9 c9 55 3 (l.map Stp.cs) :: H) zpk ?_
                refine w_callF Tryd.func26 ?_ (hs := refQuotedR_any b s (a1 + 1) (by omega) k3 _ _ _)
                rintro v m H1 ⟨rfl, (⟨e, t, hq, rfl, rfl⟩ | ⟨w, e, t, hq, ht4, he2, rfl, rfl⟩)⟩
                · have hty := quotF_yes hq
                  rw [hq] at hqo
                  have hsu : (s.take e).drop (a1 + 1) = sub s (a1 + 1) e := by unfold sub; rw [List.drop_take]
                  simp only [ne_eq, ← hsu] at hqo
                  have ef : (fr : Int) + 0 + (([] : List UInt8).length : Int) = ((fr : Nat) : Int) := by simp
                  have et : (to : Int) + 0 + (t.length : Int) = ((to + t.length : Nat) : Int) := by simp
                  by_cases g1 : t = []
                  · skip
                    rw [if_pos (.inl g1)] at hqo
                    rw [hqo] at hst
                    rw [hst] at hQ
                    (try (refine st_EPC_1 ?_; intros))
                    refine WL.heap (H' := .blk b (.cells [str s, .int .i64 (e : Int), .int .i64 (-1)].toArray 53 (0, 0)) :: .blk bx (.cells [.int .i64 0, str [], str []].toArray 55 (0, 0)) :: .row a9 c9 55 3 (l.map Stp.cs) :: H) zpk ?_
                    refine w_callF Tryd.func25 ?_ (hs := refBad_any b s e (-1) ((a1 + 1 : Nat) : Int) _ _ _)
                    rintro v m H1 ⟨rfl, rfl, rfl⟩
                    rw [if_pos (by decide : (-1 : Int) < 0)]
                    have el : (l.map Stp.cs).length + 1 = (l ++ [(⟨0, [], t⟩ : Stp)]).length := by simp
                    have em : l.map Stp.cs ++ [[Value.int .i64 0, str [], str t]] = (l ++ [(⟨0, [], t⟩ : Stp)]).map Stp.cs := by rw [List.map_append]; rfl
                    (refine st_EPC_1 ?_; intros; rename_i q a8 c8)
                    rw [em, el, ef, et]
                    refine WQ.next (2 * (f)) ⟨f, e, fr, to + t.length, l ++ [(⟨0, [], t⟩ : Stp)], ((a1 + 1 : Nat) : Int), a8, c8, (l ++ [(⟨0, [], t⟩ : Stp)]).length, rfl, rfl, rfl, rfl, rfl, ?_, ?_⟩ (by omega) zsb zpk
                    · rfl
                    · exact .inr ⟨a1 + 1, rfl, hQ.symm⟩
                  · by_cases g2 : quotedW t = (s.take e).drop (a1 + 1)
                    · by_cases g3 : 65536 - to < t.length
                      · have t9 : (65536 : Int) - (to : Int) < (t.length : Int) := by omega
                        rw [if_pos (.inr (.inr g3))] at hqo
                        rw [hqo] at hst
                        rw [hst] at hQ
                        (try (refine st_EPC_1 ?_; intros))
                        refine WL.heap (H' := .blk b (.cells [str s, .int .i64 (e : Int), .int .i64 (-1)].toArray 53 (0, 0)) :: .blk bx (.cells [.int .i64 0, str [], str []].toArray 55 (0, 0)) :: .row a9 c9 55 3 (l.map Stp.cs) :: H) zpk ?_
                        refine w_callF Tryd.func25 ?_ (hs := refBad_any b s e (-1) ((a1 + 1 : Nat) : Int) _ _ _)
                        rintro v m H1 ⟨rfl, rfl, rfl⟩
                        rw [if_pos (by decide : (-1 : Int) < 0)]
                        have el : (l.map Stp.cs).length + 1 = (l ++ [(⟨0, [], t⟩ : Stp)]).length := by simp
                        have em : l.map Stp.cs ++ [[Value.int .i64 0, str [], str t]] = (l ++ [(⟨0, [], t⟩ : Stp)]).map Stp.cs := by rw [List.map_append]; rfl
                        (refine st_EPC_1 ?_; intros; rename_i q a8 c8)
                        rw [em, el, ef, et]
                        refine WQ.next (2 * (f)) ⟨f, e, fr, to + t.length, l ++ [(⟨0, [], t⟩ : Stp)], ((a1 + 1 : Nat) : Int), a8, c8, (l ++ [(⟨0, [], t⟩ : Stp)]).length, rfl, rfl, rfl, rfl, rfl, ?_, ?_⟩ (by omega) zsb zpk
                        · rfl
                        · exact .inr ⟨a1 + 1, rfl, hQ.symm⟩
                      · have t9 : ¬ (65536 : Int) - (to : Int) < (t.length : Int) := by omega
                        rw [if_neg (fun h => h.elim g1 fun h => h.elim (fun h => h g2) g3)] at hqo
                        rw [hqo] at hst
                        rw [hst] at hQ
                        have hQ2 : readF s f e (fr) (to + t.length) (l ++ [⟨0, [], t⟩]) = R := hQ
                        have el : (l.map Stp.cs).length + 1 = (l ++ [(⟨0, [], t⟩ : Stp)]).length := by simp
                        have em : l.map Stp.cs ++ [[Value.int .i64 0, str [], str t]] = (l ++ [(⟨0, [], t⟩ : Stp)]).map Stp.cs := by rw [List.map_append]; rfl
                        (refine st_EPC_1 ?_; intros; rename_i q a8 c8)
                        rw [em, el, ef, et]
                        refine WQ.next (2 * (f)) ⟨f, e, fr, to + t.length, l ++ [(⟨0, [], t⟩ : Stp)], -1, a8, c8, (l ++ [(⟨0, [], t⟩ : Stp)]).length, rfl, rfl, rfl, rfl, rfl, ?_, ?_⟩ (by omega) zsb zpk
                        · rfl
                        · exact .inl ⟨rfl, hQ2, by omega, by rw [List.length_append, List.length_singleton]; omega, by omega, by omega, by omega⟩
                    · skip
                      rw [if_pos (.inr (.inl g2))] at hqo
                      rw [hqo] at hst
                      rw [hst] at hQ
                      (try (refine st_EPC_1 ?_; intros))
                      refine WL.heap (H' := .blk b (.cells [str s, .int .i64 (e : Int), .int .i64 (-1)].toArray 53 (0, 0)) :: .blk bx (.cells [.int .i64 0, str [], str []].toArray 55 (0, 0)) :: .row a9 c9 55 3 (l.map Stp.cs) :: H) zpk ?_
                      refine w_callF Tryd.func25 ?_ (hs := refBad_any b s e (-1) ((a1 + 1 : Nat) : Int) _ _ _)
                      rintro v m H1 ⟨rfl, rfl, rfl⟩
                      rw [if_pos (by decide : (-1 : Int) < 0)]
                      have el : (l.map Stp.cs).length + 1 = (l ++ [(⟨0, [], t⟩ : Stp)]).length := by simp
                      have em : l.map Stp.cs ++ [[Value.int .i64 0, str [], str t]] = (l ++ [(⟨0, [], t⟩ : Stp)]).map Stp.cs := by rw [List.map_append]; rfl
                      (refine st_EPC_1 ?_; intros; rename_i q a8 c8)
                      rw [em, el, ef, et]
                      refine WQ.next (2 * (f)) ⟨f, e, fr, to + t.length, l ++ [(⟨0, [], t⟩ : Stp)], ((a1 + 1 : Nat) : Int), a8, c8, (l ++ [(⟨0, [], t⟩ : Stp)]).length, rfl, rfl, rfl, rfl, rfl, ?_, ?_⟩ (by omega) zsb zpk
                      · rfl
                      · exact .inr ⟨a1 + 1, rfl, hQ.symm⟩
                · rw [hq] at hqo
                  rw [hqo] at hst
                  rw [hst] at hQ
                  have ef : (fr : Int) + 0 + (([] : List UInt8).length : Int) = ((fr : Nat) : Int) := by simp
                  have et : (to : Int) + 0 + (t.length : Int) = ((to + t.length : Nat) : Int) := by simp
                  have el : (l.map Stp.cs).length + 1 = (l ++ [(⟨0, [], t⟩ : Stp)]).length := by simp
                  have em : l.map Stp.cs ++ [[Value.int .i64 0, str [], str t]] = (l ++ [(⟨0, [], t⟩ : Stp)]).map Stp.cs := by rw [List.map_append]; rfl
                  (refine st_EPC_1 ?_; intros; rename_i q a8 c8)
                  rw [em, el, ef, et]
                  refine WQ.next (2 * (f)) ⟨f, e, fr, to + t.length, l ++ [(⟨0, [], t⟩ : Stp)], (w : Int), a8, c8, (l ++ [(⟨0, [], t⟩ : Stp)]).length, rfl, rfl, rfl, rfl, rfl, ?_, ?_⟩ (by omega) zsb zpk
                  · rfl
                  · exact .inr ⟨w, rfl, hQ.symm⟩
              · have hst : stepF s a1 fr to = .no a1 := by unfold stepF; rw [if_neg k1, if_neg k2, if_neg k3]
                rw [hst] at hQ
                have q1 : ¬ cN s a1 (-1) = 61 ∧ ¬ cN s a1 (-1) = 45 ∧ ¬ cN s a1 (-1) = 43 := by
                  by_cases h7 : a1 < s.length
                  · have ec : cN s a1 (-1) = gb s a1 := by unfold cN; rw [if_pos ⟨by decide, h7⟩]
                    omega
                  · have ec : cN s a1 (-1) = 0 := by unfold cN; rw [if_neg (fun h => h7 h.2)]
                    omega
                obtain ⟨q1, q2, q3⟩ := q1
                have ea0 : ((a1 + 1 : Nat) : Int) - 1 = (a1 : Int) := by omega
                have ef : (fr : Int) + 0 + (([] : List UInt8).length : Int) = (fr : Int) := by simp
                have et : (to : Int) + 0 + (([] : List UInt8).length : Int) = (to : Int) := by simp
                (try (refine st_EPC_1 ?_; intros))
                rw [ea1, ea0]
                refine WL.heap (H' := .blk b (.cells [str s, .int .i64 ((a1 + 1 : Nat) : Int), .int .i64 (-1)].toArray 53 (0, 0)) :: .blk bx (.cells [.int .i64 0, str [], str []].toArray 55 (0, 0)) :: .row a9 c9 55 3 (l.map Stp.cs) :: H) zpk ?_
                refine w_callF Tryd.func25 ?_ (hs := refBad_any b s (a1 + 1) (-1) (a1 : Int) _ _ _)
                rintro v m H1 ⟨rfl, rfl, rfl⟩
                rw [if_pos (by decide : (-1 : Int) < 0)]
                have el : (l.map Stp.cs).length + 1 = (l ++ [(⟨0, [], []⟩ : Stp)]).length := by simp
                have em : l.map Stp.cs ++ [[Value.int .i64 0, str [], str []]] = (l ++ [(⟨0, [], []⟩ : Stp)]).map Stp.cs := by rw [List.map_append]; rfl
                (refine st_EPC_1 ?_; intros; rename_i q a8 c8)
                rw [em, el, ef, et]
                refine WQ.next (2 * (f)) ⟨f, a1 + 1, fr, to, l ++ [(⟨0, [], []⟩ : Stp)], (a1 : Int), a8, c8, (l ++ [(⟨0, [], []⟩ : Stp)]).length, rfl, rfl, rfl, rfl, rfl, ?_, ?_⟩ (by omega) zsb zpk
                · rfl
                · exact .inr ⟨a1, rfl, hQ.symm⟩
        · rw [if_neg h3] at hQ
          have hpos : 0 < l.length := List.length_pos_iff.2 h3
          have h2 : cN s a (-1) = 32 := by rw [ec]; exact Decidable.byContradiction fun h => h1 ⟨h3, h⟩
          have hf1 : s.length < a + 1 + 1 + f := by omega
          replace hla : l.length ≤ a + 1 := by omega
          replace has : a + 1 ≤ s.length := hlt
          clear h1 h3 hR
          (try (refine st_EPC_1 ?_; intros))
          rw [ea]
          (refine st_EPC_1 ?_; intros; rename_i bx)
          clear hlt hga ec ea hf h2
          generalize a + 1 = a1 at *
          have hcl := cN_le s a1 (-1)
          have ea1 : (a1 : Int) + 1 = ((a1 + 1 : Nat) : Int) := by omega
          have hl0 : ([] : List UInt8).length = 0 := rfl
          by_cases k1 : a1 < s.length ∧ gb s a1 = 61
          · have hst : stepF s a1 fr to = match numF s (a1 + 1) fr to with | .no w => .no w | .yes e n => .yes e ⟨(n : Int), [], []⟩ := by unfold stepF; rw [if_pos k1]; rfl
            have ec : cN s a1 (-1) = 61 := by unfold cN; rw [if_pos ⟨by decide, k1.1⟩]; exact k1.2
            obtain ⟨k1, k2⟩ := k1
            (try (refine st_EPC_1 ?_; intros))
            rw [ea1]
            refine WL.heap (H' := .blk b (.cells [str s, .int .i64 ((a1 + 1 : Nat) : Int), .int .i64 (-1)].toArray 53 (0, 0)) :: .blk bx (.cells [.int .i64 0, str [], str []].toArray 55 (0, 0)) :: .row a9 c9 55 3 (l.map Stp.cs) :: H) zpk ?_
            refine w_callF Tryd.func24 ?_ (hs := refNumber_any b s (a1 + 1) (by omega) k1 _ _ _)
            have hEb := numE_end s (s.length + 1) (a1 + 1) k1
            have hcv := capV_or (sub s (a1 + 1) (numE s (s.length + 1) (a1 + 1)))
            have hrn : refNumF s (a1 + 1) = capV (sub s (a1 + 1) (numE s (s.length + 1) (a1 + 1))) := rfl
            rintro v m H1 ⟨rfl, (⟨g1, g2, g3, rfl, rfl⟩ | ⟨g1, rfl, rfl⟩)⟩
            · have hn : numF s (a1 + 1) fr to = if 65536 - fr < decV (sub s (a1 + 1) (numE s (s.length + 1) (a1 + 1))) ∨ 65536 - to < decV (sub s (a1 + 1) (numE s (s.length + 1) (a1 + 1))) then .no (a1 + 1) else .yes (numE s (s.length + 1) (a1 + 1)) (decV (sub s (a1 + 1) (numE s (s.length + 1) (a1 + 1)))) := by unfold numF; rw [if_pos ⟨g1, g2, g3⟩]
              have hEa : a1 + 1 < numE s (s.length + 1) (a1 + 1) := by
                rw [numE, if_pos ⟨g1, by omega, g3⟩]
                have := numE_end s s.length (a1 + 1 + 1) g1
                omega
              rw [← hrn] at hcv
              generalize refNumF s (a1 + 1) = N at *
              generalize numE s (s.length + 1) (a1 + 1) = E at *
              generalize decV (sub s (a1 + 1) E) = V at *
              by_cases t1 : 65536 - fr < N
              · rw [if_pos (.inl (by omega))] at hn
                rw [hn] at hst
                rw [hst] at hQ
                have t9 : (65536 : Int) - (fr : Int) < (N : Int) := by omega
                (try (refine st_EPC_1 ?_; intros))
                refine WL.heap (H' := .blk b (.cells [str s, .int .i64 (E : Int), .int .i64 (-1)].toArray 53 (0, 0)) :: .blk bx (.cells [.int .i64 (N : Int), str [], str []].toArray 55 (0, 0)) :: .row a9 c9 55 3 (l.map Stp.cs) :: H) zpk ?_
                refine w_callF Tryd.func25 ?_ (hs := refBad_any b s E (-1) ((a1 + 1 : Nat) : Int) _ _ _)
                rintro v m H1 ⟨rfl, rfl, rfl⟩
                rw [if_pos (by decide : (-1 : Int) < 0)]
                have ef : (fr : Int) + (N : Int) + (([] : List UInt8).length : Int) = ((fr + N : Nat) : Int) := by simp
                have et : (to : Int) + (N : Int) + (([] : List UInt8).length : Int) = ((to + N : Nat) : Int) := by simp
                have el : (l.map Stp.cs).length + 1 = (l ++ [(⟨(N : Int), [], []⟩ : Stp)]).length := by simp
                have em : l.map Stp.cs ++ [[Value.int .i64 (N : Int), str [], str []]] = (l ++ [(⟨(N : Int), [], []⟩ : Stp)]).map Stp.cs := by rw [List.map_append]; rfl
                (refine st_EPC_1 ?_; intros; rename_i q a8 c8)
                rw [em, el, ef, et]
                refine WQ.next (2 * (f)) ⟨f, E, fr + N, to + N, l ++ [(⟨(N : Int), [], []⟩ : Stp)], ((a1 + 1 : Nat) : Int), a8, c8, (l ++ [(⟨(N : Int), [], []⟩ : Stp)]).length, rfl, rfl, rfl, rfl, rfl, ?_, ?_⟩ (by omega) zsb zpk
                · rfl
                · exact .inr ⟨a1 + 1, rfl, hQ.symm⟩
              · have t8 : ¬ (65536 : Int) - (fr : Int) < (N : Int) := by omega
                by_cases t2 : 65536 - to < N
                · rw [if_pos (.inr (by omega))] at hn
                  rw [hn] at hst
                  rw [hst] at hQ
                  have t9 : (65536 : Int) - (to : Int) < (N : Int) := by omega
                  have t8 : ¬ (65536 : Int) - (fr : Int) < (N : Int) := by omega
                  (try (refine st_EPC_1 ?_; intros))
                  refine WL.heap (H' := .blk b (.cells [str s, .int .i64 (E : Int), .int .i64 (-1)].toArray 53 (0, 0)) :: .blk bx (.cells [.int .i64 (N : Int), str [], str []].toArray 55 (0, 0)) :: .row a9 c9 55 3 (l.map Stp.cs) :: H) zpk ?_
                  refine w_callF Tryd.func25 ?_ (hs := refBad_any b s E (-1) ((a1 + 1 : Nat) : Int) _ _ _)
                  rintro v m H1 ⟨rfl, rfl, rfl⟩
                  rw [if_pos (by decide : (-1 : Int) < 0)]
                  have ef : (fr : Int) + (N : Int) + (([] : List UInt8).length : Int) = ((fr + N : Nat) : Int) := by simp
                  have et : (to : Int) + (N : Int) + (([] : List UInt8).length : Int) = ((to + N : Nat) : Int) := by simp
                  have el : (l.map Stp.cs).length + 1 = (l ++ [(⟨(N : Int), [], []⟩ : Stp)]).length := by simp
                  have em : l.map Stp.cs ++ [[Value.int .i64 (N : Int), str [], str []]] = (l ++ [(⟨(N : Int), [], []⟩ : Stp)]).map Stp.cs := by rw [List.map_append]; rfl
                  (refine st_EPC_1 ?_; intros; rename_i q a8 c8)
                  rw [em, el, ef, et]
                  refine WQ.next (2 * (f)) ⟨f, E, fr + N, to + N, l ++ [(⟨(N : Int), [], []⟩ : Stp)], ((a1 + 1 : Nat) : Int), a8, c8, (l ++ [(⟨(N : Int), [], []⟩ : Stp)]).length, rfl, rfl, rfl, rfl, rfl, ?_, ?_⟩ (by omega) zsb zpk
                  · rfl
                  · exact .inr ⟨a1 + 1, rfl, hQ.symm⟩
                · have t7 : ¬ (65536 : Int) - (to : Int) < (N : Int) := by omega
                  obtain rfl : N = V := by omega
                  rw [if_neg (fun h => h.elim t1 t2)] at hn
                  rw [hn] at hst
                  rw [hst] at hQ
                  have hQ2 : readF s f E (fr + N) (to + N) (l ++ [⟨(N : Int), [], []⟩]) = R := hQ
                  have ef : (fr : Int) + (N : Int) + (([] : List UInt8).length : Int) = ((fr + N : Nat) : Int) := by simp
                  have et : (to : Int) + (N : Int) + (([] : List UInt8).length : Int) = ((to + N : Nat) : Int) := by simp
                  have el : (l.map Stp.cs).length + 1 = (l ++ [(⟨(N : Int), [], []⟩ : Stp)]).length := by simp
                  have em : l.map Stp.cs ++ [[Value.int .i64 (N : Int), str [], str []]] = (l ++ [(⟨(N : Int), [], []⟩ : Stp)]).map Stp.cs := by rw [List.map_append]; rfl
                  (refine st_EPC_1 ?_; intros; rename_i q a8 c8)
                  rw [em, el, ef, et]
                  refine WQ.next (2 * (f)) ⟨f, E, fr + N, to + N, l ++ [(⟨(N : Int), [], []⟩ : Stp)], -1, a8, c8, (l ++ [(⟨(N : Int), [], []⟩ : Stp)]).length, rfl, rfl, rfl, rfl, rfl, ?_, ?_⟩ (by omega) zsb zpk
                  · rfl
                  · exact .inl ⟨rfl, hQ2, by omega, by rw [List.length_append, List.length_singleton]; omega, by omega, by omega, by omega⟩
            · have hn : numF s (a1 + 1) fr to = .no (a1 + 1) := by unfold numF; rw [if_neg g1]
              rw [hn] at hst
              rw [hst] at hQ
              have ef : (fr : Int) + 0 + (([] : List UInt8).length : Int) = (fr : Int) := by simp
              have et : (to : Int) + 0 + (([] : List UInt8).length : Int) = (to : Int) := by simp
              have el : (l.map Stp.cs).length + 1 = (l ++ [(⟨0, [], []⟩ : Stp)]).length := by simp
              have em : l.map Stp.cs ++ [[Value.int .i64 0, str [], str []]] = (l ++ [(⟨0, [], []⟩ : Stp)]).map Stp.cs := by rw [List.map_append]; rfl
              (refine st_EPC_1 ?_; intros; rename_i q a8 c8)
              rw [em, el, ef, et]
              refine WQ.next (2 * (f)) ⟨f, a1 + 1, fr, to, l ++ [(⟨0, [], []⟩ : Stp)], ((a1 + 1 : Nat) : Int), a8, c8, (l ++ [(⟨0, [], []⟩ : Stp)]).length, rfl, rfl, rfl, rfl, rfl, ?_, ?_⟩ (by omega) zsb zpk
              · rfl
              · exact .inr ⟨a1 + 1, rfl, hQ.symm⟩
          · by_cases k2 : a1 < s.length ∧ gb s a1 = 45
            · have hst : stepF s a1 fr to = match qokF s (a1 + 1) (65536 - fr) with | .no w => .no w | .yes e t => .yes e ⟨0, t, []⟩ := by unfold stepF; rw [if_neg k1, if_pos k2]; rfl
              have ec : cN s a1 (-1) = 45 := by unfold cN; rw [if_pos ⟨by decide, k2.1⟩]; exact k2.2
              have hqo : qokF s (a1 + 1) (65536 - fr) = match quotF s (a1 + 1) with | .no w => .no w | .yes e t => if t = [] ∨ quotedW t ≠ sub s (a1 + 1) e ∨ 65536 - fr < t.length then .no (a1 + 1) else .yes e t := rfl
              obtain ⟨k2, _⟩ := k2
              (try (refine st_EPC_1 ?_; intros))
              rw [ea1]
              refine WL.heap (H' := .blk b (.cells [str s, .int .i64 ((a1 + 1 : Nat) : Int), .int .i64 (-1)].toArray 53 (0, 0)) :: .blk bx (.cells [.int .i64 0, str [], str []].toArray 55 (0, 0)) :: .row a9 c9 55 3 (l.map Stp.cs) :: H) zpk ?_
              refine w_callF Tryd.func26 ?_ (hs := refQuotedR_any b s (a1 + 1) (by omega) k2 _ _ _)
              rintro v m H1 ⟨rfl, (⟨e, t, hq, rfl, rfl⟩ | ⟨w, e, t, hq, ht4, he2, rfl, rfl⟩)⟩
              · have hty := quotF_yes hq
                rw [hq] at hqo
                have hsu : (s.take e).drop (a1 + 1) = sub s (a1 + 1) e := by unfold sub; rw [List.drop_take]
                simp only [ne_eq, ← hsu] at hqo
                have ef : (fr : Int) + 0 + (t.length : Int) = ((fr + t.length : Nat) : Int) := by simp
                have et : (to : Int) + 0 + (([] : List UInt8).length : Int) = ((to : Nat) : Int) := by simp
                by_cases g1 : t = []
                · skip
                  rw [if_pos (.inl g1)] at hqo
                  rw [hqo] at hst
                  rw [hst] at hQ
                  (try (refine st_EPC_1 ?_; intros))
                  refine WL.heap (H' := .blk b (.cells [str s, .int .i64 (e : Int), .int .i64 (-1)].toArray 53 (0, 0)) :: .blk bx (.cells [.int .i64 0, str [], str []].toArray 55 (0, 0)) :: .row a9 c9 55 3 (l.map Stp.cs) :: H) zpk ?_
                  refine w_callF Tryd.func25 ?_ (hs := refBad_any b s e (-1) ((a1 + 1 : Nat) : Int) _ _ _)
                  rintro v m H1 ⟨rfl, rfl, rfl⟩
                  rw [if_pos (by decide : (-1 : Int) < 0)]
                  have el : (l.map Stp.cs).length + 1 = (l ++ [(⟨0, t, []⟩ : Stp)]).length := by simp
                  have em : l.map Stp.cs ++ [[Value.int .i64 0, str t, str []]] = (l ++ [(⟨0, t, []⟩ : Stp)]).map Stp.cs := by rw [List.map_append]; rfl
                  (refine st_EPC_1 ?_; intros; rename_i q a8 c8)
                  rw [em, el, ef, et]
                  refine WQ.next (2 * (f)) ⟨f, e, fr + t.length, to, l ++ [(⟨0, t, []⟩ : Stp)], ((a1 + 1 : Nat) : Int), a8, c8, (l ++ [(⟨0, t, []⟩ : Stp)]).length, rfl, rfl, rfl, rfl, rfl, ?_, ?_⟩ (by omega) zsb zpk
                  · rfl
                  · exact .inr ⟨a1 + 1, rfl, hQ.symm⟩
                · by_cases g2 : quotedW t = (s.take e).drop (a1 + 1)
                  · by_cases g3 : 65536 - fr < t.length
                    · have t9 : (65536 : Int) - (fr : Int) < (t.length : Int) := by omega
                      rw [if_pos (.inr (.inr g3))] at hqo
                      rw [hqo] at hst
                      rw [hst] at hQ
                      (try (refine st_EPC_1 ?_; intros))
                      refine WL.heap (H' := .blk b (.cells [str s, .int .i64 (e : Int), .int .i64 (-1)].toArray 53 (0, 0)) :: .blk bx (.cells [.int .i64 0, str [], str []].toArray 55 (0, 0)) :: .row a9 c9 55 3 (l.map Stp.cs) :: H) zpk ?_
                      refine w_callF Tryd.func25 ?_ (hs := refBad_any b s e (-1) ((a1 + 1 : Nat) : Int) _ _ _)
                      rintro v m H1 ⟨rfl, rfl, rfl⟩
                      rw [if_pos (by decide : (-1 : Int) < 0)]
                      have el : (l.map Stp.cs).length + 1 = (l ++ [(⟨0, t, []⟩ : Stp)]).length := by simp
                      have em : l.map Stp.cs ++ [[Value.int .i64 0, str t, str []]] = (l ++ [(⟨0, t, []⟩ : Stp)]).map Stp.cs := by rw [List.map_append]; rfl
                      (refine st_EPC_1 ?_; intros; rename_i q a8 c8)
                      rw [em, el, ef, et]
                      refine WQ.next (2 * (f)) ⟨f, e, fr + t.length, to, l ++ [(⟨0, t, []⟩ : Stp)], ((a1 + 1 : Nat) : Int), a8, c8, (l ++ [(⟨0, t, []⟩ : Stp)]).length, rfl, rfl, rfl, rfl, rfl, ?_, ?_⟩ (by omega) zsb zpk
                      · rfl
                      · exact .inr ⟨a1 + 1, rfl, hQ.symm⟩
                    · have t9 : ¬ (65536 : Int) - (fr : Int) < (t.length : Int) := by omega
                      rw [if_neg (fun h => h.elim g1 fun h => h.elim (fun h => h g2) g3)] at hqo
                      rw [hqo] at hst
                      rw [hst] at hQ
                      have hQ2 : readF s f e (fr + t.length) (to) (l ++ [⟨0, t, []⟩]) = R := hQ
                      have el : (l.map Stp.cs).length + 1 = (l ++ [(⟨0, t, []⟩ : Stp)]).length := by simp
                      have em : l.map Stp.cs ++ [[Value.int .i64 0, str t, str []]] = (l ++ [(⟨0, t, []⟩ : Stp)]).map Stp.cs := by rw [List.map_append]; rfl
                      (refine st_EPC_1 ?_; intros; rename_i q a8 c8)
                      rw [em, el, ef, et]
                      refine WQ.next (2 * (f)) ⟨f, e, fr + t.length, to, l ++ [(⟨0, t, []⟩ : Stp)], -1, a8, c8, (l ++ [(⟨0, t, []⟩ : Stp)]).length, rfl, rfl, rfl, rfl, rfl, ?_, ?_⟩ (by omega) zsb zpk
                      · rfl
                      · exact .inl ⟨rfl, hQ2, by omega, by rw [List.length_append, List.length_singleton]; omega, by omega, by omega, by omega⟩
                  · skip
                    rw [if_pos (.inr (.inl g2))] at hqo
                    rw [hqo] at hst
                    rw [hst] at hQ
                    (try (refine st_EPC_1 ?_; intros))
                    refine WL.heap (H' := .blk b (.cells [str s, .int .i64 (e : Int), .int .i64 (-1)].toArray 53 (0, 0)) :: .blk bx (.cells [.int .i64 0, str [], str []].toArray 55 (0, 0)) :: .row a9 c9 55 3 (l.map Stp.cs) :: H) zpk ?_
                    refine w_callF Tryd.func25 ?_ (hs := refBad_any b s e (-1) ((a1 + 1 : Nat) : Int) _ _ _)
                    rintro v m H1 ⟨rfl, rfl, rfl⟩
                    rw [if_pos (by decide : (-1 : Int) < 0)]
                    have el : (l.map Stp.cs).length + 1 = (l ++ [(⟨0, t, []⟩ : Stp)]).length := by simp
                    have em : l.map Stp.cs ++ [[Value.int .i64 0, str t, str []]] = (l ++ [(⟨0, t, []⟩ : Stp)]).map Stp.cs := by rw [List.map_append]; rfl
                    (refine st_EPC_1 ?_; intros; rename_i q a8 c8)
                    rw [em, el, ef, et]
                    refine WQ.next (2 * (f)) ⟨f, e, fr + t.length, to, l ++ [(⟨0, t, []⟩ : Stp)], ((a1 + 1 : Nat) : Int), a8, c8, (l ++ [(⟨0, t, []⟩ : Stp)]).length, rfl, rfl, rfl, rfl, rfl, ?_, ?_⟩ (by omega) zsb zpk
                    · rfl
                    · exact .inr ⟨a1 + 1, rfl, hQ.symm⟩
              · rw [hq] at hqo
                rw [hqo] at hst
                rw [hst] at hQ
                have ef : (fr : Int) + 0 + (t.length : Int) = ((fr + t.length : Nat) : Int) := by simp
                have et : (to : Int) + 0 + (([] : List UInt8).length : Int) = ((to : Nat) : Int) := by simp
                have el : (l.map Stp.cs).length + 1 = (l ++ [(⟨0, t, []⟩ : Stp)]).length := by simp
                have em : l.map Stp.cs ++ [[Value.int .i64 0, str t, str []]] = (l ++ [(⟨0, t, []⟩ : Stp)]).map Stp.cs := by rw [List.map_append]; rfl
                (refine st_EPC_1 ?_; intros; rename_i q a8 c8)
                rw [em, el, ef, et]
                refine WQ.next (2 * (f)) ⟨f, e, fr + t.length, to, l ++ [(⟨0, t, []⟩ : Stp)], (w : Int), a8, c8, (l ++ [(⟨0, t, []⟩ : Stp)]).length, rfl, rfl, rfl, rfl, rfl, ?_, ?_⟩ (by omega) zsb zpk
                · rfl
                · exact .inr ⟨w, rfl, hQ.symm⟩
            · by_cases k3 : a1 < s.length ∧ gb s a1 = 43
              · have hst : stepF s a1 fr to = match qokF s (a1 + 1) (65536 - to) with | .no w => .no w | .yes e t => .yes e ⟨0, [], t⟩ := by unfold stepF; rw [if_neg k1, if_neg k2, if_pos k3]; rfl
                have ec : cN s a1 (-1) = 43 := by unfold cN; rw [if_pos ⟨by decide, k3.1⟩]; exact k3.2
                have hqo : qokF s (a1 + 1) (65536 - to) = match quotF s (a1 + 1) with | .no w => .no w | .yes e t => if t = [] ∨ quotedW t ≠ sub s (a1 + 1) e ∨ 65536 - to < t.length then .no (a1 + 1) else .yes e t := rfl
                obtain ⟨k3, _⟩ := k3
                (try (refine st_EPC_1 ?_; intros))
                rw [ea1]
                refine WL.heap (H' := .blk b (.cells [str s, .int .i64 ((a1 + 1 : Nat) : Int), .int .i64 (-1)].toArray 53 (0, 0)) :: .blk bx (.cells [.int .i64 0, str [], str []].toArray 55 (0, 0)) :: .row a9 c9 55 3 (l.map Stp.cs) :: H) zpk ?_
                refine w_callF Tryd.func26 ?_ (hs := refQuotedR_any b s (a1 + 1) (by omega) k3 _ _ _)
                rintro v m H1 ⟨rfl, (⟨e, t, hq, rfl, rfl⟩ | ⟨w, e, t, hq, ht4, he2, rfl, rfl⟩)⟩
                · have hty := quotF_yes hq
                  rw [hq] at hqo
                  have hsu : (s.take e).drop (a1 + 1) = sub s (a1 + 1) e := by unfold sub; rw [List.drop_take]
                  simp only [ne_eq, ← hsu] at hqo
                  have ef : (fr : Int) + 0 + (([] : List UInt8).length : Int) = ((fr : Nat) : Int) := by simp
                  have et : (to : Int) + 0 + (t.length : Int) = ((to + t.length : Nat) : Int) := by simp
                  by_cases g1 : t = []
                  · skip
                    rw [if_pos (.inl g1)] at hqo
                    rw [hqo] at hst
                    rw [hst] at hQ
                    (try (refine st_EPC_1 ?_; intros))
                    refine WL.heap (H' := .blk b (.cells [str s, .int .i64 (e : Int), .int .i64 (-1)].toArray 53 (0, 0)) :: .blk bx (.cells [.int .i64 0, str [], str []].toArray 55 (0, 0)) :: .row a9 c9 55 3 (l.map Stp.cs) :: H) zpk ?_
                    refine w_callF Tryd.func25 ?_ (hs := refBad_any b s e (-1) ((a1 + 1 : Nat) : Int) _ _ _)
                    rintro v m H1 ⟨rfl, rfl, rfl⟩
                    rw [if_pos (by decide : (-1 : Int) < 0)]
                    have el : (l.map Stp.cs).length + 1 = (l ++ [(⟨0, [], t⟩ : Stp)]).length := by simp
                    have em : l.map Stp.cs ++ [[Value.int .i64 0, str [], str t]] = (l ++ [(⟨0, [], t⟩ : Stp)]).map Stp.cs := by rw [List.map_append]; rfl
                    (refine st_EPC_1 ?_; intros; rename_i q a8 c8)
                    rw [em, el, ef, et]
                    refine WQ.next (2 * (f)) ⟨f, e, fr, to + t.length, l ++ [(⟨0, [], t⟩ : Stp)], ((a1 + 1 : Nat) : Int), a8, c8, (l ++ [(⟨0, [], t⟩ : Stp)]).length, rfl, rfl, rfl, rfl, rfl, ?_, ?_⟩ (by omega) zsb zpk
                    · rfl
                    · exact .inr ⟨a1 + 1, rfl, hQ.symm⟩
                  · by_cases g2 : quotedW t = (s.take e).drop (a1 + 1)
                    · by_cases g3 : 65536 - to < t.length
                      · have t9 : (65536 : Int) - (to : Int) < (t.length : Int) := by omega
                        rw [if_pos (.inr (.inr g3))] at hqo
                        rw [hqo] at hst
                        rw [hst] at hQ
                        (try (refine st_EPC_1 ?_; intros))
                        refine WL.heap (H' := .blk b (.cells [str s, .int .i64 (e : Int), .int .i64 (-1)].toArray 53 (0, 0)) :: .blk bx (.cells [.int .i64 0, str [], str []].toArray 55 (0, 0)) :: .row a9 c9 55 3 (l.map Stp.cs) :: H) zpk ?_
                        refine w_callF Tryd.func25 ?_ (hs := refBad_any b s e (-1) ((a1 + 1 : Nat) : Int) _ _ _)
                        rintro v m H1 ⟨rfl, rfl, rfl⟩
                        rw [if_pos (by decide : (-1 : Int) < 0)]
                        have el : (l.map Stp.cs).length + 1 = (l ++ [(⟨0, [], t⟩ : Stp)]).length := by simp
                        have em : l.map Stp.cs ++ [[Value.int .i64 0, str [], str t]] = (l ++ [(⟨0, [], t⟩ : Stp)]).map Stp.cs := by rw [List.map_append]; rfl
                        (refine st_EPC_1 ?_; intros; rename_i q a8 c8)
                        rw [em, el, ef, et]
                        refine WQ.next (2 * (f)) ⟨f, e, fr, to + t.length, l ++ [(⟨0, [], t⟩ : Stp)], ((a1 + 1 : Nat) : Int), a8, c8, (l ++ [(⟨0, [], t⟩ : Stp)]).length, rfl, rfl, rfl, rfl, rfl, ?_, ?_⟩ (by omega) zsb zpk
                        · rfl
                        · exact .inr ⟨a1 + 1, rfl, hQ.symm⟩
                      · have t9 : ¬ (65536 : Int) - (to : Int) < (t.length : Int) := by omega
                        rw [if_neg (fun h => h.elim g1 fun h => h.elim (fun h => h g2) g3)] at hqo
                        rw [hqo] at hst
                        rw [hst] at hQ
                        have hQ2 : readF s f e (fr) (to + t.length) (l ++ [⟨0, [], t⟩]) = R := hQ
                        have el : (l.map Stp.cs).length + 1 = (l ++ [(⟨0, [], t⟩ : Stp)]).length := by simp
                        have em : l.map Stp.cs ++ [[Value.int .i64 0, str [], str t]] = (l ++ [(⟨0, [], t⟩ : Stp)]).map Stp.cs := by rw [List.map_append]; rfl
                        (refine st_EPC_1 ?_; intros; rename_i q a8 c8)
                        rw [em, el, ef, et]
                        refine WQ.next (2 * (f)) ⟨f, e, fr, to + t.length, l ++ [(⟨0, [], t⟩ : Stp)], -1, a8, c8, (l ++ [(⟨0, [], t⟩ : Stp)]).length, rfl, rfl, rfl, rfl, rfl, ?_, ?_⟩ (by omega) zsb zpk
                        · rfl
                        · exact .inl ⟨rfl, hQ2, by omega, by rw [List.length_append, List.length_singleton]; omega, by omega, by omega, by omega⟩
                    · skip
                      rw [if_pos (.inr (.inl g2))] at hqo
                      rw [hqo] at hst
                      rw [hst] at hQ
                      (try (refine st_EPC_1 ?_; intros))
                      refine WL.heap (H' := .blk b (.cells [str s, .int .i64 (e : Int), .int .i64 (-1)].toArray 53 (0, 0)) :: .blk bx (.cells [.int .i64 0, str [], str []].toArray 55 (0, 0)) :: .row a9 c9 55 3 (l.map Stp.cs) :: H) zpk ?_
                      refine w_callF Tryd.func25 ?_ (hs := refBad_any b s e (-1) ((a1 + 1 : Nat) : Int) _ _ _)
                      rintro v m H1 ⟨rfl, rfl, rfl⟩
                      rw [if_pos (by decide : (-1 : Int) < 0)]
                      have el : (l.map Stp.cs).length + 1 = (l ++ [(⟨0, [], t⟩ : Stp)]).length := by simp
                      have em : l.map Stp.cs ++ [[Value.int .i64 0, str [], str t]] = (l ++ [(⟨0, [], t⟩ : Stp)]).map Stp.cs := by rw [List.map_append]; rfl
                      (refine st_EPC_1 ?_; intros; rename_i q a8 c8)
                      rw [em, el, ef, et]
                      refine WQ.next (2 * (f)) ⟨f, e, fr, to + t.length, l ++ [(⟨0, [], t⟩ : Stp)], ((a1 + 1 : Nat) : Int), a8, c8, (l ++ [(⟨0, [], t⟩ : Stp)]).length, rfl, rfl, rfl, rfl, rfl, ?_, ?_⟩ (by omega) zsb zpk
                      · rfl
                      · exact .inr ⟨a1 + 1, rfl, hQ.symm⟩
                · rw [hq] at hqo
                  rw [hqo] at hst
                  rw [hst] at hQ
                  have ef : (fr : Int) + 0 + (([] : List UInt8).length : Int) = ((fr : Nat) : Int) := by simp
                  have et : (to : Int) + 0 + (t.length : Int) = ((to + t.length : Nat) : Int) := by simp
                  have el : (l.map Stp.cs).length + 1 = (l ++ [(⟨0, [], t⟩ : Stp)]).length := by simp
                  have em : l.map Stp.cs ++ [[Value.int .i64 0, str [], str t]] = (l ++ [(⟨0, [], t⟩ : Stp)]).map Stp.cs := by rw [List.map_append]; rfl
                  (refine st_EPC_1 ?_; intros; rename_i q a8 c8)
                  rw [em, el, ef, et]
                  refine WQ.next (2 * (f)) ⟨f, e, fr, to + t.length, l ++ [(⟨0, [], t⟩ : Stp)], (w : Int), a8, c8, (l ++ [(⟨0, [], t⟩ : Stp)]).length, rfl, rfl, rfl, rfl, rfl, ?_, ?_⟩ (by omega) zsb zpk
                  · rfl
                  · exact .inr ⟨w, rfl, hQ.symm⟩
              · have hst : stepF s a1 fr to = .no a1 := by unfold stepF; rw [if_neg k1, if_neg k2, if_neg k3]
                rw [hst] at hQ
                have q1 : ¬ cN s a1 (-1) = 61 ∧ ¬ cN s a1 (-1) = 45 ∧ ¬ cN s a1 (-1) = 43 := by
                  by_cases h7 : a1 < s.length
                  · have ec : cN s a1 (-1) = gb s a1 := by unfold cN; rw [if_pos ⟨by decide, h7⟩]
                    omega
                  · have ec : cN s a1 (-1) = 0 := by unfold cN; rw [if_neg (fun h => h7 h.2)]
                    omega
                obtain ⟨q1, q2, q3⟩ := q1
                have ea0 : ((a1 + 1 : Nat) : Int) - 1 = (a1 : Int) := by omega
                have ef : (fr : Int) + 0 + (([] : List UInt8).length : Int) = (fr : Int) := by simp
                have et : (to : Int) + 0 + (([] : List UInt8).length : Int) = (to : Int) := by simp
                (try (refine st_EPC_1 ?_; intros))
                rw [ea1, ea0]
                refine WL.heap (H' := .blk b (.cells [str s, .int .i64 ((a1 + 1 : Nat) : Int), .int .i64 (-1)].toArray 53 (0, 0)) :: .blk bx (.cells [.int .i64 0, str [], str []].toArray 55 (0, 0)) :: .row a9 c9 55 3 (l.map Stp.cs) :: H) zpk ?_
                refine w_callF Tryd.func25 ?_ (hs := refBad_any b s (a1 + 1) (-1) (a1 : Int) _ _ _)
                rintro v m H1 ⟨rfl, rfl, rfl⟩
                rw [if_pos (by decide : (-1 : Int) < 0)]
                have el : (l.map Stp.cs).length + 1 = (l ++ [(⟨0, [], []⟩ : Stp)]).length := by simp
                have em : l.map Stp.cs ++ [[Value.int .i64 0, str [], str []]] = (l ++ [(⟨0, [], []⟩ : Stp)]).map Stp.cs := by rw [List.map_append]; rfl
                (refine st_EPC_1 ?_; intros; rename_i q a8 c8)
                rw [em, el, ef, et]
                refine WQ.next (2 * (f)) ⟨f, a1 + 1, fr, to, l ++ [(⟨0, [], []⟩ : Stp)], (a1 : Int), a8, c8, (l ++ [(⟨0, [], []⟩ : Stp)]).length, rfl, rfl, rfl, rfl, rfl, ?_, ?_⟩ (by omega) zsb zpk
                · rfl
                · exact .inr ⟨a1, rfl, hQ.symm⟩
    · rw [if_neg hlt] at hQ
      (try (refine st_EPC_1 ?_; intros))
      exact q_fin0 (H0 := .row a9 c9 55 3 (l.map Stp.cs) :: H) ⟨rfl, .inl ⟨a, l, a9, c9, hQ.symm, rfl, rfl⟩⟩ (hd := zpk)
  · (try (refine st_EPC_1 ?_; intros))
    exact q_fin0 (H0 := H) ⟨rfl, .inr ⟨w, hRw, rfl, rfl⟩⟩ (hd := zpk)
end Go.Proofs.YtelgegefmjlimaaDoor

/-
  The walk of the law's comparison of changes. No condition.
-/
namespace Go.Proofs.YtelgegefmjlimaaDoor
open Go Go.Eng
set_option maxRecDepth 100000
set_option maxHeartbeats 4000000
set_option linter.all false
attribute [local irreducible] WL WC WQ QFun QLoop Does Q1 QRound QAssign Go.Addr.add
theorem same_any {pa pb : Option Addr} {ca cb : Nat} {l : List Stp} (hl : l.length ≤ 1000000000) (w0 : World) (m : Mem) (H : SHeap) (hra : RowR w0 m H 3 pa (l.map Stp.cs)) (hrb : RowR w0 m H 3 pb (l.map Stp.cs)) :
    Does Tryd.prog 9 #[.slice pa l.length ca, .slice pb l.length cb] w0 m H (Gives (.bool true) m H) := by
  refine Does.of_body (args := [.slice pa l.length ca, .slice pb l.length cb]) Tryd.func9 rfl Tryd.ntmps9 rfl ?_
  have hln : (l.map Stp.cs).length = l.length := by simp
  (try (refine st ?_; intros))
  refine WC.loopH [(5, .int .i64 ((0) : Int)), (0, .slice pa l.length ca), (1, .slice pb l.length cb)] ?_ ?_ (fun j r ds m' H' => ∃ i, j = l.length - i ∧ r = [(5, .int .i64 (i : Int)), (0, .slice pa l.length ca), (1, .slice pb l.length cb)] ∧ ds = [] ∧ m = m' ∧ H' = H ∧ (i ≤ l.length) ∧ (RowR w0 m H 3 pa (l.map Stp.cs)) ∧ (RowR w0 m H 3 pb (l.map Stp.cs))) (l.length - (0)) ⟨0, rfl, rfl, rfl, rfl, rfl, by omega, hra, hrb⟩ ?_
  · (repeat (first | exact Env.Sub.nil | refine Env.Sub.cons rfl ?_))
  · exact zpk
  rintro j r ds m' H' ⟨i, rfl, rfl, rfl, rfl, rfl, hi, hra, hrb⟩
  generalize H' = H at *
  by_cases hlt : i < l.length
  · obtain ⟨x, hx, hget, htk, hmem, hdr⟩ := at_idx (f := Stp.cs) hlt
    refine WC.rSome hra (by omega) ?_
    rintro a0 rfl
    refine WC.rSome hrb (by omega) ?_
    rintro b0 rfl
    have h1 : x.d = x.d := rfl
    have h2 : x.p = x.p := rfl
    (try (refine st ?_; intros))
    refine WQ.next (l.length - (i + 1)) ⟨i + 1, rfl, rfl, rfl, rfl, rfl, ?_, ?_, ?_⟩ (by omega) zsb zpk
    · omega
    · assumption
    · assumption
  · obtain rfl : i = l.length := by omega
    (try (refine st ?_; intros))
    exact q_fin0 (H0 := H) (Gives.mk rfl) (hd := zpk)
end Go.Proofs.YtelgegefmjlimaaDoor

/-
  The walks of package edit, fourth part: the builder's close. No condition.
-/
namespace Go.Proofs.YtelgegefmjlimaaDoor
open Go Go.Eng
set_option maxRecDepth 100000
set_option maxHeartbeats 4000000
set_option linter.all false
attribute [local irreducible] WL WC WQ QFun QLoop Does Q1 QRound QAssign Go.Addr.add
end Go.Proofs.YtelgegefmjlimaaDoor

/-
  Plain facts on changes: how large a builder grows. No condition.
-/
namespace Go.Eng
open Go
/-- no number of it is above N -/
structure BFit (N : Nat) (B : Bld) : Prop where
  len : B.l.length ≤ N
  k : ∀ s ∈ B.l, 0 ≤ s.k ∧ s.k ≤ N
  p : B.p.length ≤ N
  d : B.d.length ≤ N
theorem BFit.mono {N M : Nat} {B : Bld} (h : BFit N B) (hm : N ≤ M) : BFit M B :=
  ⟨by have := h.len; omega, fun s hs => by have := h.k s hs; omega, by have := h.p; omega, by have := h.d; omega⟩
theorem BFit.start : BFit 0 Bld.start := ⟨Nat.le_refl _, fun s hs => by simp [Bld.start] at hs, Nat.le_refl _, Nat.le_refl _⟩
theorem BFit.close {N : Nat} {B : Bld} (h : BFit N B) : BFit (N + 2) B.close := by
  refine ⟨?_, fun s hs => ?_, by simp [Bld.close], by simp [Bld.close]⟩
  · have := h.len
    unfold Bld.close
    split <;> split <;> simp <;> omega
  · unfold Bld.close at hs
    simp only [List.mem_append] at hs
    rcases hs with (hs | hs) | hs
    · have := h.k s hs; omega
    · split at hs <;> simp at hs; subst hs; simp; omega
    · split at hs <;> simp at hs; subst hs; simp; omega
theorem addKeep_k {N : Nat} {l : List Stp} {n : Nat} (h : ∀ s ∈ l, 0 ≤ s.k ∧ s.k ≤ N) : (∀ s ∈ addKeep l n, 0 ≤ s.k ∧ s.k ≤ ((N + n : Nat) : Int)) ∧ (addKeep l n).length ≤ l.length + 1 := by
  unfold addKeep
  cases hl : l.getLast? with
  | none => simp; omega
  | some s =>
    obtain ⟨ys, e⟩ := List.getLast?_eq_some_iff.1 hl
    have hs := h s (by rw [e]; simp)
    have e2 : l.dropLast = ys := by rw [e]; simp
    simp only [e2]
    split
    · refine ⟨fun x hx => ?_, by rw [e]; simp⟩
      simp only [List.mem_append, List.mem_singleton] at hx
      rcases hx with hx | rfl
      · have := h x (by rw [e]; simp [hx]); omega
      · simp; omega
    · refine ⟨fun x hx => ?_, by simp⟩
      simp only [List.mem_append, List.mem_singleton] at hx
      rcases hx with hx | rfl
      · have := h x hx; omega
      · simp; omega
theorem BFit.keep {N n : Nat} {B : Bld} (h : BFit N B) : BFit (N + n + 3) (B.keep n) := by
  unfold Bld.keep
  split
  · exact h.mono (by omega)
  · have hc := h.close
    obtain ⟨h1, h2⟩ := addKeep_k (n := n) hc.k
    exact ⟨by have := hc.len; simp only; omega, fun s hs => by have := h1 s hs; omega, by simp, by simp⟩
theorem BFit.atom {N : Nat} {B : Bld} (h : BFit N B) (a : Atm) : BFit (N + 4) (B.atom a) := by
  cases a with
  | k => exact h.keep (n := 1)
  | d c => exact ⟨by have := h.len; simp only [Bld.atom]; omega, fun s hs => by have := h.k s hs; omega, by have := h.p; simp only [Bld.atom]; omega, by have := h.d; simp [Bld.atom]; omega⟩
  | p c => exact ⟨by have := h.len; simp only [Bld.atom]; omega, fun s hs => by have := h.k s hs; omega, by have := h.p; simp [Bld.atom]; omega, by have := h.d; simp only [Bld.atom]; omega⟩
theorem BFit.run : ∀ (l : List Atm) {N : Nat} {B : Bld}, BFit N B → BFit (N + 4 * l.length) (B.run l)
  | [], _, _, h => h
  | a :: l, N, B, h => by
    have := BFit.run l (h.atom a)
    exact this.mono (by simp; omega)
theorem atoms_len (s : Stp) : s.atoms.length = s.k.toNat + s.d.length + s.p.length := by simp [Stp.atoms]; omega
theorem atoms_le : ∀ l : List Atm, l.length ≤ fromA l + toA l
  | [] => Nat.le_refl _
  | .k :: l => by have := atoms_le l; simp only [fromA, toA, List.length_cons]; omega
  | .d _ :: l => by have := atoms_le l; simp only [fromA, toA, List.length_cons]; omega
  | .p _ :: l => by have := atoms_le l; simp only [fromA, toA, List.length_cons]; omega
end Go.Eng

/-
  The walks of package edit, sixth part: the builder's keep, step and done. No condition.
-/
namespace Go.Proofs.YtelgegefmjlimaaDoor
open Go Go.Eng
set_option maxRecDepth 100000
set_option maxHeartbeats 4000000
set_option linter.all false
attribute [local irreducible] WL WC WQ QFun QLoop Does Q1 QRound QAssign Go.Addr.add
end Go.Proofs.YtelgegefmjlimaaDoor

/-
  The walks of package edit, eighth part: the builder's step and done, the one form of a change. No condition.
-/
namespace Go.Eng
def Stp.v (s : Stp) : Value := .agg #[.int .i64 s.k, str s.d, str s.p]
end Go.Eng
namespace Go.Proofs.YtelgegefmjlimaaDoor
open Go Go.Eng
set_option maxRecDepth 100000
set_option maxHeartbeats 4000000
set_option linter.all false
attribute [local irreducible] WL WC WQ QFun QLoop Does Q1 QRound QAssign Go.Addr.add
end Go.Proofs.YtelgegefmjlimaaDoor

/-
  The walks of package edit, second part: the sizes of a change, by the program and by the reference. No condition.
-/
namespace Go.Proofs.YtelgegefmjlimaaDoor
open Go Go.Eng
set_option maxRecDepth 100000
set_option maxHeartbeats 4000000
set_option linter.all false
attribute [local irreducible] WL WC WQ QFun QLoop Does Q1 QRound QAssign Go.Addr.add
attribute [local irreducible] sizesF sizesOf
theorem sizes_any {a : Option Addr} {cap : Nat} {l : List Stp} (hf : Fit l) (w0 : World) (m : Mem) (H : SHeap) (hr : RowR w0 m H 3 a (l.map Stp.cs)) :
    Does Tryd.prog 32 #[.slice a l.length cap] w0 m H (Gives (szP (sizesOf l)) m H) := by
  refine Does.of_body (args := [.slice a l.length cap]) Tryd.func32 rfl Tryd.ntmps32 rfl ?_
  have hln : (l.map Stp.cs).length = l.length := by simp
  have hlen := hf.len
  (try (refine st ?_; intros))
  refine WC.loopH [(12, .int .i64 ((0) : Int)), (11, .int .i64 (l.length : Int)), (10, .slice a l.length cap), (5, .int .i64 (0)), (6, .int .i64 (0))] ?_ ?_ (fun j r ds m' H' => ∃ (i : _) (f : Int) (t : Int), j = l.length - i ∧ r = [(12, .int .i64 (i : Int)), (11, .int .i64 (l.length : Int)), (10, .slice a l.length cap), (5, .int .i64 f), (6, .int .i64 t)] ∧ ds = [] ∧ m = m' ∧ H' = H ∧ (i ≤ l.length) ∧ (0 ≤ f ∧ f ≤ 65536 ∧ 0 ≤ t ∧ t ≤ 65536) ∧ (sizesF (l.drop i) f t = sizesOf l) ∧ (RowR w0 m H 3 a (l.map Stp.cs))) (l.length - (0)) ⟨0, 0, 0, rfl, rfl, rfl, rfl, rfl, by omega, by omega, by rw [sizesOf]; rfl, hr⟩ ?_
  · (repeat (first | exact Env.Sub.nil | refine Env.Sub.cons rfl ?_))
  · exact zpk
  rintro j r ds m' H' ⟨i, f, t, rfl, rfl, rfl, rfl, rfl, hi, hn, hs, hr⟩
  generalize H' = H at *
  by_cases hlt : i < l.length
  · obtain ⟨x, hx, hget, htk, hmem, hdr⟩ := at_idx (f := Stp.cs) hlt
    have hk := hf.k x hmem
    have hd := hf.d x hmem
    have hp := hf.p x hmem
    rw [hdr] at hs
    refine WC.rSome hr (by omega) ?_
    rintro a0 rfl
    have hdl : x.d = [] → x.d.length = 0 := fun h => by rw [h]; rfl
    have hpl : x.p = [] → x.p.length = 0 := fun h => by rw [h]; rfl
    by_cases h1 : x.k = 0 <;> by_cases h2 : x.d = [] <;> by_cases h3 : x.p = []
    · rw [sizesF_bad (fun h => by simp [stpOk, h1, h2, h3] at h)] at hs
      (try (refine st ?_; intros))
      exact q_fin0 (H0 := H) (Gives.mk (by rw [← hs]; try rfl)) (hd := zpk)
    · have hok : stpOk x := .inr (.inr ⟨h1, h2, h3⟩)
      have h2' := hdl h2
      by_cases h4 : t + (x.k + (x.p.length : Int)) ≤ 65536
      · rw [sizesF_good hok (by omega) (by omega) (by omega)] at hs
        (try (refine st ?_; intros))
        refine WQ.next (l.length - (i + 1)) ⟨i + 1, _, _, rfl, rfl, rfl, rfl, rfl, ?_, ?_, ?_, ?_⟩ (by omega) zsb zpk
        · omega
        · omega
        · rw [← hs]; congr 1 <;> omega
        · assumption
      · rw [sizesF_bad (by omega)] at hs
        (try (refine st ?_; intros))
        exact q_fin0 (H0 := H) (Gives.mk (by rw [← hs]; try rfl)) (hd := zpk)
    · have hok : stpOk x := .inr (.inl ⟨h1, h2, h3⟩)
      have h3' := hpl h3
      by_cases h4 : f + (x.k + (x.d.length : Int)) ≤ 65536
      · rw [sizesF_good hok (by omega) (by omega) (by omega)] at hs
        (try (refine st ?_; intros))
        refine WQ.next (l.length - (i + 1)) ⟨i + 1, _, _, rfl, rfl, rfl, rfl, rfl, ?_, ?_, ?_, ?_⟩ (by omega) zsb zpk
        · omega
        · omega
        · rw [← hs]; congr 1 <;> omega
        · assumption
      · rw [sizesF_bad (by omega)] at hs
        (try (refine st ?_; intros))
        exact q_fin0 (H0 := H) (Gives.mk (by rw [← hs]; try rfl)) (hd := zpk)
    · rw [sizesF_bad (fun h => by simp [stpOk, h1, h2, h3] at h)] at hs
      (try (refine st ?_; intros))
      exact q_fin0 (H0 := H) (Gives.mk (by rw [← hs]; try rfl)) (hd := zpk)
    · have h2' := hdl h2
      have h3' := hpl h3
      by_cases h5 : x.k < 0
      · rw [sizesF_bad (fun h => by rcases h.1 with g | g | g <;> omega)] at hs
        (try (refine st ?_; intros))
        exact q_fin0 (H0 := H) (Gives.mk (by rw [← hs]; try rfl)) (hd := zpk)
      · by_cases h6 : 65536 < x.k
        · rw [sizesF_bad (by omega)] at hs
          (try (refine st ?_; intros))
          exact q_fin0 (H0 := H) (Gives.mk (by rw [← hs]; try rfl)) (hd := zpk)
        · have hok : stpOk x := .inl ⟨by omega, h2, h3⟩
          by_cases h4 : f + (x.k + (x.d.length : Int)) ≤ 65536
          · by_cases h7 : t + (x.k + (x.p.length : Int)) ≤ 65536
            · rw [sizesF_good hok (by omega) (by omega) (by omega)] at hs
              (try (refine st ?_; intros))
              refine WQ.next (l.length - (i + 1)) ⟨i + 1, _, _, rfl, rfl, rfl, rfl, rfl, ?_, ?_, ?_, ?_⟩ (by omega) zsb zpk
              · omega
              · omega
              · rw [← hs]; congr 1 <;> omega
              · assumption
            · rw [sizesF_bad (by omega)] at hs
              (try (refine st ?_; intros))
              exact q_fin0 (H0 := H) (Gives.mk (by rw [← hs]; try rfl)) (hd := zpk)
          · rw [sizesF_bad (by omega)] at hs
            (try (refine st ?_; intros))
            exact q_fin0 (H0 := H) (Gives.mk (by rw [← hs]; try rfl)) (hd := zpk)
    all_goals
      rw [sizesF_bad (fun h => by simp [stpOk, h1, h2, h3] at h)] at hs
      (try (refine st ?_; intros))
      exact q_fin0 (H0 := H) (Gives.mk (by rw [← hs]; try rfl)) (hd := zpk)
  · obtain rfl : i = l.length := by omega
    rw [List.drop_length, sizesF] at hs
    (try (refine st ?_; intros))
    exact q_fin0 (H0 := H) (Gives.mk (by rw [← hs]; try rfl)) (hd := zpk)
end Go.Proofs.YtelgegefmjlimaaDoor

/-
  What a change that may be bounds; the walk of edit.move. No condition.
-/
namespace Go.Eng
/-- what a change that may be bounds -/
theorem sized {l : List Stp} {f t : Int} (h : sizesOf l = some (f, t)) : (∀ s ∈ l, stpOk s) ∧ (atomsOf l).length ≤ 131072 ∧ (atomsOf (plainOf l)).length ≤ 131072 ∧ f = (fromA (atomsOf l) : Int) ∧ t = (toA (atomsOf l) : Int) ∧ 0 ≤ f ∧ f ≤ 65536 ∧ 0 ≤ t ∧ t ≤ 65536 := by
  obtain ⟨h1, h2, h3, h4, h5⟩ := sizesOf_some h
  have hok : ∀ s ∈ l, stpOk s := fun s hs => (h1 s hs).1
  have a1 := atoms_le (atomsOf l)
  have a2 := atoms_le (atomsOf (plainOf l))
  obtain ⟨n1, n2⟩ := nf_sizes l hok
  rw [plain_atoms, n1, n2] at a2
  unfold maxT at h4 h5
  rw [plain_atoms]
  exact ⟨hok, by omega, by omega, h2, h3, by omega, by omega, by omega, by omega⟩
end Go.Eng
namespace Go.Proofs.YtelgegefmjlimaaDoor
open Go Go.Eng
set_option maxRecDepth 100000
set_option maxHeartbeats 4000000
set_option linter.all false
attribute [local irreducible] WL WC WQ QFun QLoop Does Q1 QRound QAssign Go.Addr.add
end Go.Proofs.YtelgegefmjlimaaDoor

/-
  Plain facts on changes: what a change makes of a text. No condition.
-/
namespace Go.Eng
open Go
/-- what a change makes of a text; none: they are apart -/
def applyA : List UInt8 → List Atm → Option (List UInt8)
  | _, [] => some []
  | s, .p b :: l => (applyA s l).map (b :: ·)
  | c :: s, .k :: l => (applyA s l).map (c :: ·)
  | c :: s, .d b :: l => if c = b then applyA s l else none
  | [], .k :: _ => none
  | [], .d _ :: _ => none
theorem applyA_p (s : List UInt8) (b : UInt8) (l : List Atm) : applyA s (.p b :: l) = (applyA s l).map (b :: ·) := by cases s <;> rfl
theorem applyA_nil (s : List UInt8) : applyA s [] = some [] := by cases s <;> rfl
theorem applyA_ps (s : List UInt8) : ∀ (ds : List UInt8) (l : List Atm), applyA s (ds.map .p ++ l) = (applyA s l).map (ds ++ ·)
  | [], l => by simp
  | b :: ds, l => by rw [List.map_cons, List.cons_append, applyA_p, applyA_ps s ds l, Option.map_map]; rfl
theorem applyA_ks : ∀ (n : Nat) (s : List UInt8) (l : List Atm), n ≤ s.length → applyA s (List.replicate n .k ++ l) = (applyA (s.drop n) l).map (s.take n ++ ·)
  | 0, s, l, _ => by simp
  | n + 1, [], l, h => by simp at h
  | n + 1, c :: s, l, h => by
    rw [List.replicate_succ, List.cons_append, applyA, applyA_ks n s l (by simpa using h), Option.map_map]; rfl
theorem applyA_ds : ∀ (ds s : List UInt8) (l : List Atm), ds.length ≤ s.length → applyA s (ds.map .d ++ l) = if s.take ds.length = ds then applyA (s.drop ds.length) l else none
  | [], s, l, _ => by simp
  | b :: ds, [], l, h => by simp at h
  | b :: ds, c :: s, l, h => by
    rw [List.map_cons, List.cons_append, applyA, applyA_ds ds s l (by simpa using h)]
    by_cases hb : c = b
    · subst hb; simp
    · simp [hb]
end Go.Eng

/-
  The walks of package edit, tenth part: what a change makes of a text; the law's example. No condition.
-/
namespace Go.Eng
open Go Go.RowKit
theorem RowR.blk {w0 : World} {m : Mem} {H : SHeap} {b sz : Nat} {T : TypeId} {fz : Nat × Nat} {es : List (List Value)} {L : List Value} (hm : Item.blk b (.cells L.toArray T fz) ∈ H) (h1 : ∀ e ∈ es, e.length = sz) (hL : es.flatten = L) : RowR w0 m H sz (.some ⟨b, 0, .none⟩) es := by
  subst hL
  intro w hs
  refine ⟨h1, fun j v hj => ?_⟩
  rw [add_none]
  exact Cell.blk hm (by simpa using hj) w hs
def bV (b : UInt8) : List Value := [.int .u8 (b.toNat : Int)]
def applyV (s : List UInt8) (l : List Stp) : Value := match sizesOf l with
  | none => .tuple #[str [], .int .i64 2]
  | some (f, _) => if f ≠ s.length then .tuple #[str [], .int .i64 5] else match applyA s (atomsOf l) with
    | none => .tuple #[str [], .int .i64 270]
    | some o => .tuple #[str o, .int .i64 0]
end Go.Eng
namespace Go.Proofs.YtelgegefmjlimaaDoor
open Go Go.Eng
set_option maxRecDepth 100000
set_option maxHeartbeats 4000000
set_option linter.all false
attribute [local irreducible] WL WC WQ QFun QLoop Does Q1 QRound QAssign Go.Addr.add
attribute [local irreducible] applyA sizesF sizesOf
theorem sq_E10_1 {G : Prop} (h : G := by (repeat (first | (refine sp ?_; (repeat intro zzc)) | (refine iF 32 rfl ?_; refine w_callG Tryd.func32 ?_ (hs := sizes_any (by assumption) _ _ _ (by assumption))))); exact WQ.q1 rfl) : G := h
theorem st_E10_1 {G G' : Prop} (next : G') (h : Bx G' → G := by intro zzn; (first | ((refine st ?_; (repeat intro zzc)); (try ((first | (refine iF 32 rfl ?_; refine w_callG Tryd.func32 ?_ (hs := sizes_any (by assumption) _ _ _ (by assumption))) | ((refine iDraw ?_; (first | refine WC.drawAll rfl (by decide +kernel) ?_ | refine WC.draw 1 rfl (by decide +kernel) ?_ | refine WC.draw 2 rfl (by decide +kernel) ?_ | refine WC.draw 3 rfl (by decide +kernel) ?_ | refine WC.draw 4 rfl (by decide +kernel) ?_ | refine WC.draw 5 rfl (by decide +kernel) ?_ | refine WC.draw 6 rfl (by decide +kernel) ?_ | refine WC.draw 7 rfl (by decide +kernel) ?_ | refine WC.draw 8 rfl (by decide +kernel) ?_ | refine WC.draw 9 rfl (by decide +kernel) ?_ | refine WC.draw 10 rfl (by decide +kernel) ?_ | refine WC.draw 11 rfl (by decide +kernel) ?_ | refine WC.draw 12 rfl (by decide +kernel) ?_ | refine WC.draw 13 rfl (by decide +kernel) ?_ | refine WC.draw 14 rfl (by decide +kernel) ?_ | refine WC.draw 15 rfl (by decide +kernel) ?_ | refine WC.draw 16 rfl (by decide +kernel) ?_ | refine WC.draw 17 rfl (by decide +kernel) ?_ | refine WC.draw 18 rfl (by decide +kernel) ?_ | refine WC.draw 19 rfl (by decide +kernel) ?_ | refine WC.draw 20 rfl (by decide +kernel) ?_ | refine WC.draw 21 rfl (by decide +kernel) ?_ | refine WC.draw 22 rfl (by decide +kernel) ?_ | refine WC.draw 23 rfl (by decide +kernel) ?_ | refine WC.draw 24 rfl (by decide +kernel) ?_)); (repeat (refine WD.cons rfl (fun c h => by cases h) sq_E10_1 ?_)); refine WD.nil ?_)); (try (refine st ?_; (repeat intro zzc)))))) | ((first | (refine iF 32 rfl ?_; refine w_callG Tryd.func32 ?_ (hs := sizes_any (by assumption) _ _ _ (by assumption))) | ((refine iDraw ?_; (first | refine WC.drawAll rfl (by decide +kernel) ?_ | refine WC.draw 1 rfl (by decide +kernel) ?_ | refine WC.draw 2 rfl (by decide +kernel) ?_ | refine WC.draw 3 rfl (by decide +kernel) ?_ | refine WC.draw 4 rfl (by decide +kernel) ?_ | refine WC.draw 5 rfl (by decide +kernel) ?_ | refine WC.draw 6 rfl (by decide +kernel) ?_ | refine WC.draw 7 rfl (by decide +kernel) ?_ | refine WC.draw 8 rfl (by decide +kernel) ?_ | refine WC.draw 9 rfl (by decide +kernel) ?_ | refine WC.draw 10 rfl (by decide +kernel) ?_ | refine WC.draw 11 rfl (by decide +kernel) ?_ | refine WC.draw 12 rfl (by decide +kernel) ?_ | refine WC.draw 13 rfl (by decide +kernel) ?_ | refine WC.draw 14 rfl (by decide +kernel) ?_ | refine WC.draw 15 rfl (by decide +kernel) ?_ | refine WC.draw 16 rfl (by decide +kernel) ?_ | refine WC.draw 17 rfl (by decide +kernel) ?_ | refine WC.draw 18 rfl (by decide +kernel) ?_ | refine WC.draw 19 rfl (by decide +kernel) ?_ | refine WC.draw 20 rfl (by decide +kernel) ?_ | refine WC.draw 21 rfl (by decide +kernel) ?_ | refine WC.draw 22 rfl (by decide +kernel) ?_ | refine WC.draw 23 rfl (by decide +kernel) ?_ | refine WC.draw 24 rfl (by decide +kernel) ?_)); (repeat (refine WD.cons rfl (fun c h => by cases h) sq_E10_1 ?_)); refine WD.nil ?_)); (try (refine st ?_; (repeat intro zzc))))); (repeat ((first | (refine iF 32 rfl ?_; refine w_callG Tryd.func32 ?_ (hs := sizes_any (by assumption) _ _ _ (by assumption))) | ((refine iDraw ?_; (first | refine WC.drawAll rfl (by decide +kernel) ?_ | refine WC.draw 1 rfl (by decide +kernel) ?_ | refine WC.draw 2 rfl (by decide +kernel) ?_ | refine WC.draw 3 rfl (by decide +kernel) ?_ | refine WC.draw 4 rfl (by decide +kernel) ?_ | refine WC.draw 5 rfl (by decide +kernel) ?_ | refine WC.draw 6 rfl (by decide +kernel) ?_ | refine WC.draw 7 rfl (by decide +kernel) ?_ | refine WC.draw 8 rfl (by decide +kernel) ?_ | refine WC.draw 9 rfl (by decide +kernel) ?_ | refine WC.draw 10 rfl (by decide +kernel) ?_ | refine WC.draw 11 rfl (by decide +kernel) ?_ | refine WC.draw 12 rfl (by decide +kernel) ?_ | refine WC.draw 13 rfl (by decide +kernel) ?_ | refine WC.draw 14 rfl (by decide +kernel) ?_ | refine WC.draw 15 rfl (by decide +kernel) ?_ | refine WC.draw 16 rfl (by decide +kernel) ?_ | refine WC.draw 17 rfl (by decide +kernel) ?_ | refine WC.draw 18 rfl (by decide +kernel) ?_ | refine WC.draw 19 rfl (by decide +kernel) ?_ | refine WC.draw 20 rfl (by decide +kernel) ?_ | refine WC.draw 21 rfl (by decide +kernel) ?_ | refine WC.draw 22 rfl (by decide +kernel) ?_ | refine WC.draw 23 rfl (by decide +kernel) ?_ | refine WC.draw 24 rfl (by decide +kernel) ?_)); (repeat (refine WD.cons rfl (fun c h => by cases h) sq_E10_1 ?_)); refine WD.nil ?_)); (try (refine st ?_; (repeat intro zzc))))); (repeat revert zzc); exact zzn.out) : G := h ⟨next⟩
theorem apply_any {a : Option Addr} {cap : Nat} {l : List Stp} {s : List UInt8} (hf : Fit l) (hsl : s.length ≤ 1000000000) (w0 : World) (m : Mem) (H : SHeap) (hr : RowR w0 m H 3 a (l.map Stp.cs)) :
    Does Tryd.prog 22 #[str s, .slice a l.length cap] w0 m H (Gives (applyV s l) m H) := by
  refine Does.of_body (args := [str s, .slice a l.length cap]) Tryd.func22 rfl Tryd.ntmps22 rfl ?_
  have hln : (l.map Stp.cs).length = l.length := by simp
  have hlen := hf.len
  cases hs : sizesOf l with
  | none =>
    have e : applyV s l = .tuple #[str [], .int .i64 2] := by simp only [applyV, hs]
    have e2 : szP (sizesOf l) = .tuple #[.int .i64 0, .int .i64 0, .int .i64 2] := by rw [hs]; rfl
    rw [e]
    (try (refine st_E10_1 ?_; intros))
    rw [e2]
    (try (refine st_E10_1 ?_; intros))
    exact q_fin0 (H0 := H) (Gives.mk rfl) (hd := zpk)
  | some ft =>
    obtain ⟨f, t⟩ := ft
    have e2 : szP (sizesOf l) = .tuple #[.int .i64 f, .int .i64 t, .int .i64 0] := by rw [hs]; rfl
    obtain ⟨hok, hal, hpl, hfr, _, g1, g2, _, _⟩ := sized hs
    by_cases hfs : f = s.length
    · (try (refine st_E10_1 ?_; intros))
      rw [e2]
      (try (refine st_E10_1 ?_; intros))
      refine WC.newRow (T := 5) (sz := 1) ?_
      refine WC.loopH [(29, .int .i64 ((0) : Int)), (28, .int .i64 (l.length : Int)), (27, .slice a l.length cap), (0, str (s)), (9, .slice (none) (0) (0))] ?_ ?_ (fun j r ds m' H' => ∃ i S a9 c9 n9 O, j = l.length - i ∧ r = [(29, .int .i64 (i : Int)), (28, .int .i64 (l.length : Int)), (27, .slice a l.length cap), (0, str S), (9, .slice a9 n9 c9)] ∧ ds = [] ∧ m = m' ∧ H' = .row a9 c9 5 1 (O.map bV) :: H ∧ (i ≤ l.length) ∧ (n9 = O.length) ∧ (O.length ≤ (atomsOf (l.take i)).length + s.length - S.length) ∧ (S.length ≤ s.length) ∧ (fromA (atomsOf (l.drop i)) = S.length) ∧ ((applyA S (atomsOf (l.drop i))).map (O ++ ·) = applyA s (atomsOf l))) (l.length - (0)) ⟨0, s, none, 0, 0, ([] : List UInt8), rfl, rfl, rfl, rfl, rfl, by omega, rfl, by simp, by omega, by rw [List.drop_zero]; omega, by simp⟩ ?_
      · (repeat (first | exact Env.Sub.nil | refine Env.Sub.cons rfl ?_))
      · exact zpk
      rintro j r ds m' H' ⟨i, S, a9, c9, n9, O, rfl, rfl, rfl, rfl, rfl, hi, hn9, hO, hSl, hSf, hR⟩
      have hOl : (O.map bV).length = O.length := by simp
      have htl : (atomsOf (l.take i)).length ≤ (atomsOf l).length := by
        have e : atomsOf l = atomsOf (l.take i) ++ atomsOf (l.drop i) := by rw [← atoms_append, List.take_append_drop]
        rw [e]; simp
      subst hn9
      by_cases hlt : i < l.length
      · obtain ⟨x, hx, hget, htk, hmem, hdr⟩ := at_idx (f := Stp.cs) hlt
        have hxl : (atomsOf (l.take (i + 1))).length = (atomsOf (l.take i)).length + x.atoms.length := by rw [htk, atoms_append, atoms_one, List.length_append]
        have hxm : (atomsOf (l.take (i + 1))).length ≤ (atomsOf l).length := by
          have e : atomsOf l = atomsOf (l.take (i + 1)) ++ atomsOf (l.drop (i + 1)) := by rw [← atoms_append, List.take_append_drop]
          rw [e, List.length_append]; omega
        rw [atoms_len] at hxl
        rw [hdr, atoms_cons] at hR hSf
        rw [fromA_append, from_step] at hSf
        have hr1 := hr.more (i := .row a9 c9 5 1 (O.map bV))
        have hxok := hok x hmem
        refine WC.rSome hr1 (by omega) ?_
        rintro a0 rfl
        rcases hxok with ⟨h1, h2, h3⟩ | ⟨h1, h2, h3⟩ | ⟨h1, h2, h3⟩
        · have h2' : x.d.length = 0 := by rw [h2]; rfl
          have h3' : x.p.length = 0 := by rw [h3]; rfl
          have ea : x.atoms = List.replicate x.k.toNat .k := by simp [Stp.atoms, h2, h3]
          rw [ea, applyA_ks x.k.toNat S _ (by omega), Option.map_map] at hR
          have hmin : (S.take x.k.toNat).length = x.k.toNat := by simp; omega
          have hed : (S.drop x.k.toNat).length = S.length - x.k.toNat := by simp
          (refine st_E10_1 ?_; intros; rename_i bx a8 c8)
          rw [hOl, hmin]
          have em : O.map bV ++ (S.take x.k.toNat).map (fun b => [Value.int .u8 (b.toNat : Int)]) = (O ++ S.take x.k.toNat).map bV := by rw [List.map_append]; rfl
          rw [em]
          refine WQ.next (l.length - (i + 1)) ⟨i + 1, S.drop x.k.toNat, a8, c8, O.length + x.k.toNat, O ++ S.take x.k.toNat, rfl, rfl, rfl, rfl, rfl, ?_, ?_, ?_, ?_, ?_, ?_⟩ (by omega) zsb zpk
          · omega
          · rw [List.length_append, hmin]
          · rw [List.length_append, hmin]; omega
          · omega
          · omega
          · rw [← hR]; congr 1; funext q; simp
        · have h3' : x.p.length = 0 := by rw [h3]; rfl
          have ea : x.atoms = x.d.map .d := by simp [Stp.atoms, h1, h3]
          rw [ea, applyA_ds x.d S _ (by omega)] at hR
          have hed : (S.drop x.d.length).length = S.length - x.d.length := by simp
          by_cases h4 : S.take x.d.length = x.d
          · rw [if_pos h4] at hR
            (try (refine st_E10_1 ?_; intros))
            refine WQ.next (l.length - (i + 1)) ⟨i + 1, S.drop x.d.length, a9, c9, O.length, O, rfl, rfl, rfl, rfl, rfl, ?_, ?_, ?_, ?_, ?_, ?_⟩ (by omega) zsb zpk
            · omega
            · rfl
            · omega
            · omega
            · omega
            · exact hR
          · rw [if_neg h4] at hR
            have e : applyV s l = .tuple #[str [], .int .i64 270] := by simp only [applyV, hs, hfs, ne_eq, not_true, if_false, ← hR, Option.map_none]
            rw [e]
            (try (refine st_E10_1 ?_; intros))
            exact q_fin0 (H0 := H) (Gives.mk rfl) (hd := zpk)
        · have h2' : x.d.length = 0 := by rw [h2]; rfl
          have ea : x.atoms = x.p.map .p := by simp [Stp.atoms, h1, h2]
          rw [ea, applyA_ps S x.p, Option.map_map] at hR
          (refine st_E10_1 ?_; intros; rename_i bx a8 c8)
          rw [hOl]
          have em : O.map bV ++ x.p.map (fun b => [Value.int .u8 (b.toNat : Int)]) = (O ++ x.p).map bV := by rw [List.map_append]; rfl
          rw [em]
          refine WQ.next (l.length - (i + 1)) ⟨i + 1, S, a8, c8, O.length + x.p.length, O ++ x.p, rfl, rfl, rfl, rfl, rfl, ?_, ?_, ?_, ?_, ?_, ?_⟩ (by omega) zsb zpk
          · omega
          · rw [List.length_append]
          · rw [List.length_append]; omega
          · omega
          · omega
          · rw [← hR]; congr 1; funext q; simp
      · obtain rfl : i = l.length := by omega
        rw [List.drop_length] at hR
        have e : applyV s l = .tuple #[str O, .int .i64 0] := by
          have : some O = applyA s (atomsOf l) := by rw [← hR, show atomsOf [] = [] from rfl, applyA_nil]; simp
          simp only [applyV, hs, hfs, ne_eq, not_true, if_false, ← this]
        rw [e]
        (try (refine st_E10_1 ?_; intros))
        refine WL.rowStr (s := O) rfl rfl zhs rfl rfl rfl rfl rfl ?_
        (try (refine st_E10_1 ?_; intros))
        exact q_fin0 (H0 := H) (Gives.mk rfl) (hd := zpk)
    · have e : applyV s l = .tuple #[str [], .int .i64 5] := by simp [applyV, hs, hfs]
      rw [e]
      (try (refine st_E10_1 ?_; intros))
      rw [e2]
      (try (refine st_E10_1 ?_; intros))
      exact q_fin0 (H0 := H) (Gives.mk rfl) (hd := zpk)
theorem sq_E10_2 {G : Prop} (h : G := by (repeat (first | (refine sp ?_; (repeat intro zzc)))); exact WQ.q1 rfl) : G := h
theorem st_E10_2 {G G' : Prop} (next : G') (h : Bx G' → G := by intro zzn; (first | ((refine st ?_; (repeat intro zzc)); (try ((first | ((refine iDraw ?_; (first | refine WC.drawAll rfl (by decide +kernel) ?_ | refine WC.draw 1 rfl (by decide +kernel) ?_ | refine WC.draw 2 rfl (by decide +kernel) ?_ | refine WC.draw 3 rfl (by decide +kernel) ?_ | refine WC.draw 4 rfl (by decide +kernel) ?_ | refine WC.draw 5 rfl (by decide +kernel) ?_ | refine WC.draw 6 rfl (by decide +kernel) ?_ | refine WC.draw 7 rfl (by decide +kernel) ?_ | refine WC.draw 8 rfl (by decide +kernel) ?_ | refine WC.draw 9 rfl (by decide +kernel) ?_ | refine WC.draw 10 rfl (by decide +kernel) ?_ | refine WC.draw 11 rfl (by decide +kernel) ?_ | refine WC.draw 12 rfl (by decide +kernel) ?_ | refine WC.draw 13 rfl (by decide +kernel) ?_ | refine WC.draw 14 rfl (by decide +kernel) ?_ | refine WC.draw 15 rfl (by decide +kernel) ?_ | refine WC.draw 16 rfl (by decide +kernel) ?_ | refine WC.draw 17 rfl (by decide +kernel) ?_ | refine WC.draw 18 rfl (by decide +kernel) ?_ | refine WC.draw 19 rfl (by decide +kernel) ?_ | refine WC.draw 20 rfl (by decide +kernel) ?_ | refine WC.draw 21 rfl (by decide +kernel) ?_ | refine WC.draw 22 rfl (by decide +kernel) ?_ | refine WC.draw 23 rfl (by decide +kernel) ?_ | refine WC.draw 24 rfl (by decide +kernel) ?_)); (repeat (refine WD.cons rfl (fun c h => by cases h) sq_E10_2 ?_)); refine WD.nil ?_)); (try (refine st ?_; (repeat intro zzc)))))) | ((first | ((refine iDraw ?_; (first | refine WC.drawAll rfl (by decide +kernel) ?_ | refine WC.draw 1 rfl (by decide +kernel) ?_ | refine WC.draw 2 rfl (by decide +kernel) ?_ | refine WC.draw 3 rfl (by decide +kernel) ?_ | refine WC.draw 4 rfl (by decide +kernel) ?_ | refine WC.draw 5 rfl (by decide +kernel) ?_ | refine WC.draw 6 rfl (by decide +kernel) ?_ | refine WC.draw 7 rfl (by decide +kernel) ?_ | refine WC.draw 8 rfl (by decide +kernel) ?_ | refine WC.draw 9 rfl (by decide +kernel) ?_ | refine WC.draw 10 rfl (by decide +kernel) ?_ | refine WC.draw 11 rfl (by decide +kernel) ?_ | refine WC.draw 12 rfl (by decide +kernel) ?_ | refine WC.draw 13 rfl (by decide +kernel) ?_ | refine WC.draw 14 rfl (by decide +kernel) ?_ | refine WC.draw 15 rfl (by decide +kernel) ?_ | refine WC.draw 16 rfl (by decide +kernel) ?_ | refine WC.draw 17 rfl (by decide +kernel) ?_ | refine WC.draw 18 rfl (by decide +kernel) ?_ | refine WC.draw 19 rfl (by decide +kernel) ?_ | refine WC.draw 20 rfl (by decide +kernel) ?_ | refine WC.draw 21 rfl (by decide +kernel) ?_ | refine WC.draw 22 rfl (by decide +kernel) ?_ | refine WC.draw 23 rfl (by decide +kernel) ?_ | refine WC.draw 24 rfl (by decide +kernel) ?_)); (repeat (refine WD.cons rfl (fun c h => by cases h) sq_E10_2 ?_)); refine WD.nil ?_)); (try (refine st ?_; (repeat intro zzc))))); (repeat ((first | ((refine iDraw ?_; (first | refine WC.drawAll rfl (by decide +kernel) ?_ | refine WC.draw 1 rfl (by decide +kernel) ?_ | refine WC.draw 2 rfl (by decide +kernel) ?_ | refine WC.draw 3 rfl (by decide +kernel) ?_ | refine WC.draw 4 rfl (by decide +kernel) ?_ | refine WC.draw 5 rfl (by decide +kernel) ?_ | refine WC.draw 6 rfl (by decide +kernel) ?_ | refine WC.draw 7 rfl (by decide +kernel) ?_ | refine WC.draw 8 rfl (by decide +kernel) ?_ | refine WC.draw 9 rfl (by decide +kernel) ?_ | refine WC.draw 10 rfl (by decide +kernel) ?_ | refine WC.draw 11 rfl (by decide +kernel) ?_ | refine WC.draw 12 rfl (by decide +kernel) ?_ | refine WC.draw 13 rfl (by decide +kernel) ?_ | refine WC.draw 14 rfl (by decide +kernel) ?_ | refine WC.draw 15 rfl (by decide +kernel) ?_ | refine WC.draw 16 rfl (by decide +kernel) ?_ | refine WC.draw 17 rfl (by decide +kernel) ?_ | refine WC.draw 18 rfl (by decide +kernel) ?_ | refine WC.draw 19 rfl (by decide +kernel) ?_ | refine WC.draw 20 rfl (by decide +kernel) ?_ | refine WC.draw 21 rfl (by decide +kernel) ?_ | refine WC.draw 22 rfl (by decide +kernel) ?_ | refine WC.draw 23 rfl (by decide +kernel) ?_ | refine WC.draw 24 rfl (by decide +kernel) ?_)); (repeat (refine WD.cons rfl (fun c h => by cases h) sq_E10_2 ?_)); refine WD.nil ?_)); (try (refine st ?_; (repeat intro zzc))))); (repeat revert zzc); exact zzn.out) : G := h ⟨next⟩
theorem live_val : applyV [97, 98] [⟨1, [], []⟩, ⟨0, [98], []⟩, ⟨0, [], [99]⟩] = .tuple #[str [97, 99], .int .i64 0] := by
  have h1 : sizesOf [⟨1, [], []⟩, ⟨0, [98], []⟩, ⟨0, [], [99]⟩] = some (2, 2) := by decide +kernel
  have h2 : applyA [97, 98] (atomsOf [⟨1, [], []⟩, ⟨0, [98], []⟩, ⟨0, [], [99]⟩]) = some [97, 99] := by decide +kernel
  simp only [applyV, h1, h2]
  rfl
theorem live_any (w0 : World) (m : Mem) (H : SHeap) : Does Tryd.prog 6 #[] w0 m H (Gives (.bool true) m H) := by
  refine Does.of_body (args := []) Tryd.func6 rfl Tryd.ntmps6 rfl ?_
  (refine st_E10_2 ?_; intros; rename_i b)
  refine w_callF Tryd.func22 ?_ (hs := apply_any (s := [97, 98]) (l := [⟨1, [], []⟩, ⟨0, [98], []⟩, ⟨0, [], [99]⟩]) ⟨by decide, by decide, by decide, by decide⟩ (by decide) _ _ _ (RowR.blk zhs (by decide) rfl))
  rintro v m1 H1 ⟨rfl, rfl, rfl⟩
  rw [live_val]
  (try (refine st_E10_2 ?_; intros))
  (refine q_fin0 ?_)
  exact Gives.mk (by rw [dcd_true rfl])
end Go.Proofs.YtelgegefmjlimaaDoor

/-
  The walk of the law EditReads. No condition.
-/
namespace Go.Eng
open Go
theorem readF_len (s : List UInt8) : ∀ (f a fr to : Nat) (l : List Stp) (e : Nat) (l2 : List Stp), readF s f a fr to l = .yes e l2 → l2.length ≤ l.length + f
  | 0, a, fr, to, l, e, l2, h => by cases h
  | f + 1, a, fr, to, l, e, l2, h => by
    rw [readF] at h
    split at h
    · split at h
      · cases h
      · cases hs : stepF s (if l = [] then a else a + 1) fr to with
        | no w => rw [hs] at h; cases h
        | yes e1 x =>
          rw [hs] at h
          have := readF_len s f _ _ _ _ _ _ h
          rw [List.length_append, List.length_singleton] at this
          omega
    · cases h; omega
end Go.Eng
namespace Go.Proofs.YtelgegefmjlimaaDoor
open Go Go.Eng
set_option maxRecDepth 100000
set_option maxHeartbeats 4000000
set_option linter.all false
attribute [local irreducible] WL WC WQ QFun QLoop Does Q1 QRound QAssign Go.Addr.add
attribute [local irreducible] readF
theorem sq_EQ7_1 {G : Prop} (h : G := by (repeat (first | (refine sp ?_; (repeat intro zzc)) | (refine iF 6 rfl ?_; refine w_callG Tryd.func6 ?_ (hs := live_any _ _ _)))); exact WQ.q1 rfl) : G := h
theorem st_EQ7_1 {G G' : Prop} (next : G') (h : Bx G' → G := by intro zzn; (first | ((refine st ?_; (repeat intro zzc)); (try ((first | (refine iF 6 rfl ?_; refine w_callG Tryd.func6 ?_ (hs := live_any _ _ _)) | ((refine iDraw ?_; (first | refine WC.drawAll rfl (by decide +kernel) ?_ | refine WC.draw 1 rfl (by decide +kernel) ?_ | refine WC.draw 2 rfl (by decide +kernel) ?_ | refine WC.draw 3 rfl (by decide +kernel) ?_ | refine WC.draw 4 rfl (by decide +kernel) ?_ | refine WC.draw 5 rfl (by decide +kernel) ?_ | refine WC.draw 6 rfl (by decide +kernel) ?_ | refine WC.draw 7 rfl (by decide +kernel) ?_ | refine WC.draw 8 rfl (by decide +kernel) ?_ | refine WC.draw 9 rfl (by decide +kernel) ?_ | refine WC.draw 10 rfl (by decide +kernel) ?_ | refine WC.draw 11 rfl (by decide +kernel) ?_ | refine WC.draw 12 rfl (by decide +kernel) ?_ | refine WC.draw 13 rfl (by decide +kernel) ?_ | refine WC.draw 14 rfl (by decide +kernel) ?_ | refine WC.draw 15 rfl (by decide +kernel) ?_ | refine WC.draw 16 rfl (by decide +kernel) ?_ | refine WC.draw 17 rfl (by decide +kernel) ?_ | refine WC.draw 18 rfl (by decide +kernel) ?_ | refine WC.draw 19 rfl (by decide +kernel) ?_ | refine WC.draw 20 rfl (by decide +kernel) ?_ | refine WC.draw 21 rfl (by decide +kernel) ?_ | refine WC.draw 22 rfl (by decide +kernel) ?_ | refine WC.draw 23 rfl (by decide +kernel) ?_ | refine WC.draw 24 rfl (by decide +kernel) ?_)); (repeat (refine WD.cons rfl (fun c h => by cases h) sq_EQ7_1 ?_)); refine WD.nil ?_)); (try (refine st ?_; (repeat intro zzc)))))) | ((first | (refine iF 6 rfl ?_; refine w_callG Tryd.func6 ?_ (hs := live_any _ _ _)) | ((refine iDraw ?_; (first | refine WC.drawAll rfl (by decide +kernel) ?_ | refine WC.draw 1 rfl (by decide +kernel) ?_ | refine WC.draw 2 rfl (by decide +kernel) ?_ | refine WC.draw 3 rfl (by decide +kernel) ?_ | refine WC.draw 4 rfl (by decide +kernel) ?_ | refine WC.draw 5 rfl (by decide +kernel) ?_ | refine WC.draw 6 rfl (by decide +kernel) ?_ | refine WC.draw 7 rfl (by decide +kernel) ?_ | refine WC.draw 8 rfl (by decide +kernel) ?_ | refine WC.draw 9 rfl (by decide +kernel) ?_ | refine WC.draw 10 rfl (by decide +kernel) ?_ | refine WC.draw 11 rfl (by decide +kernel) ?_ | refine WC.draw 12 rfl (by decide +kernel) ?_ | refine WC.draw 13 rfl (by decide +kernel) ?_ | refine WC.draw 14 rfl (by decide +kernel) ?_ | refine WC.draw 15 rfl (by decide +kernel) ?_ | refine WC.draw 16 rfl (by decide +kernel) ?_ | refine WC.draw 17 rfl (by decide +kernel) ?_ | refine WC.draw 18 rfl (by decide +kernel) ?_ | refine WC.draw 19 rfl (by decide +kernel) ?_ | refine WC.draw 20 rfl (by decide +kernel) ?_ | refine WC.draw 21 rfl (by decide +kernel) ?_ | refine WC.draw 22 rfl (by decide +kernel) ?_ | refine WC.draw 23 rfl (by decide +kernel) ?_ | refine WC.draw 24 rfl (by decide +kernel) ?_)); (repeat (refine WD.cons rfl (fun c h => by cases h) sq_EQ7_1 ?_)); refine WD.nil ?_)); (try (refine st ?_; (repeat intro zzc))))); (repeat ((first | (refine iF 6 rfl ?_; refine w_callG Tryd.func6 ?_ (hs := live_any _ _ _)) | ((refine iDraw ?_; (first | refine WC.drawAll rfl (by decide +kernel) ?_ | refine WC.draw 1 rfl (by decide +kernel) ?_ | refine WC.draw 2 rfl (by decide +kernel) ?_ | refine WC.draw 3 rfl (by decide +kernel) ?_ | refine WC.draw 4 rfl (by decide +kernel) ?_ | refine WC.draw 5 rfl (by decide +kernel) ?_ | refine WC.draw 6 rfl (by decide +kernel) ?_ | refine WC.draw 7 rfl (by decide +kernel) ?_ | refine WC.draw 8 rfl (by decide +kernel) ?_ | refine WC.draw 9 rfl (by decide +kernel) ?_ | refine WC.draw 10 rfl (by decide +kernel) ?_ | refine WC.draw 11 rfl (by decide +kernel) ?_ | refine WC.draw 12 rfl (by decide +kernel) ?_ | refine WC.draw 13 rfl (by decide +kernel) ?_ | refine WC.draw 14 rfl (by decide +kernel) ?_ | refine WC.draw 15 rfl (by decide +kernel) ?_ | refine WC.draw 16 rfl (by decide +kernel) ?_ | refine WC.draw 17 rfl (by decide +kernel) ?_ | refine WC.draw 18 rfl (by decide +kernel) ?_ | refine WC.draw 19 rfl (by decide +kernel) ?_ | refine WC.draw 20 rfl (by decide +kernel) ?_ | refine WC.draw 21 rfl (by decide +kernel) ?_ | refine WC.draw 22 rfl (by decide +kernel) ?_ | refine WC.draw 23 rfl (by decide +kernel) ?_ | refine WC.draw 24 rfl (by decide +kernel) ?_)); (repeat (refine WD.cons rfl (fun c h => by cases h) sq_EQ7_1 ?_)); refine WD.nil ?_)); (try (refine st ?_; (repeat intro zzc))))); (repeat revert zzc); exact zzn.out) : G := h ⟨next⟩
theorem editReads_any (s : List UInt8) {w0 : World} {m : Mem} {H : SHeap} (hg : GTabs Tryd.prog m) : Does Tryd.prog 3 #[str s] w0 m H (Gives (.bool true) m H) := by
  refine Does.of_body (args := [str s]) Tryd.func3 rfl Tryd.ntmps3 rfl ?_
  by_cases hs : (20000 : Int) < (s.length : Int)
  · (try (refine st_EQ7_1 ?_; intros))
    exact q_fin0 (H0 := H) (Gives.mk rfl) (hd := zpk)
  · have hs2 : s.length ≤ 200000 := by omega
    (try (refine st_EQ7_1 ?_; intros))
    refine w_callF Tryd.func7 ?_ (hs := refRead_any s hs2 _ _ _)
    rintro v m H1 ⟨rfl, (⟨e, l, a9, c9, hR, rfl, rfl⟩ | ⟨w, hR, rfl, rfl⟩)⟩
    · have hl := readF_len s _ _ _ _ _ _ _ hR
      (try (refine st_EQ7_1 ?_; intros))
      refine w_callF Tryd.func8 ?_ (hs := eRead_any s hs2 hg)
      rintro v m H1 ⟨rfl, (⟨e2, l2, a8, c8, hR2, rfl, rfl⟩ | ⟨w, hR2, rfl, rfl⟩)⟩
      · rw [hR] at hR2
        cases hR2
        have hr1 : ∀ (w0 : World) (m : Mem) (H : SHeap), Item.row a9 c9 55 3 (l.map Stp.cs) ∈ H → RowR w0 m H 3 a9 (l.map Stp.cs) := fun _ _ _ h => RowR.row h
        (refine st_EQ7_1 ?_; intros; rename_i bs)
        refine w_callF Tryd.func9 ?_ (hs := same_any (by simp at hl; omega) _ _ _ (RowR.row (cap := c8) (T := 39) zhs) (RowR.row (cap := c9) (T := 55) zhs))
        rintro v m H1 ⟨rfl, rfl, rfl⟩
        (try (refine st_EQ7_1 ?_; intros))
        exact q_fin0 (H0 := H) (Gives.mk rfl) (hd := zpk)
      · rw [hR] at hR2; cases hR2
    · (try (refine st_EQ7_1 ?_; intros))
      refine w_callF Tryd.func8 ?_ (hs := eRead_any s hs2 hg)
      rintro v m H1 ⟨rfl, (⟨e2, l2, a8, c8, hR2, rfl, rfl⟩ | ⟨w2, hR2, rfl, rfl⟩)⟩
      · rw [hR] at hR2; cases hR2
      · rw [hR] at hR2
        cases hR2
        unfold rdErr
        (refine st_EQ7_1 ?_; intros; rename_i bs)
        exact q_fin0 (H0 := H1) (Gives.mk (congrArg Value.bool (dcd_true rfl))) (hd := zpk)
end Go.Proofs.YtelgegefmjlimaaDoor

/-
  The library's tables and its error, as a row's list of variables has them. No condition.
-/
namespace Go.Proofs.YtelgegefmjlimaaDoor
open Go Go.Eng
set_option maxRecDepth 100000
theorem gtabs_of {W : World} (h : laidMet Tryd.prog Rows.editReadsRow.laid W) : GTabs Tryd.prog (memOf W) := by
  obtain ⟨g1, t1, cs1, f1, p1, a1, b1, c1, d1⟩ := Lib.laidMet.reads h (n := "internal/strconv.uint64pow10") (d := Rows.laid_internal_strconv_uint64pow10) (.tail _ (.tail _ (.head _)))
  obtain ⟨g2, t2, cs2, f2, p2, a2, b2, c2, d2⟩ := Lib.laidMet.reads h (n := "math/bits.deBruijn64tab") (d := Rows.laid_math_bits_deBruijn64tab) (.tail _ (.head _))
  obtain ⟨g3, t3, cs3, f3, p3, a3, b3, c3, d3⟩ := Lib.laidMet.reads h (n := "strconv.ErrRange") (d := Rows.laid_strconv_ErrRange) (.tail _ (.tail _ (.tail _ (.head _))))
  obtain rfl := Option.some.inj ((show Tryd.prog.globalNamed "internal/strconv.uint64pow10" = some 2 by kernel_rfl).symm.trans a1)
  obtain rfl := Option.some.inj ((show Tryd.prog.globalNamed "math/bits.deBruijn64tab" = some 5 by kernel_rfl).symm.trans a2)
  obtain rfl := Option.some.inj ((show Tryd.prog.globalNamed "strconv.ErrRange" = some 1 by kernel_rfl).symm.trans a3)
  obtain rfl := Option.some.inj ((show (Tryd.prog.globals[2]?).map (·.type) = some 177 by kernel_rfl).symm.trans b1)
  obtain rfl := Option.some.inj ((show (Tryd.prog.globals[5]?).map (·.type) = some 186 by kernel_rfl).symm.trans b2)
  obtain rfl := Option.some.inj ((show (Tryd.prog.globals[1]?).map (·.type) = some 131 by kernel_rfl).symm.trans b3)
  have e1 : cs1.toList = Lib.pow10Tab.map fun z => Value.int .u64 z := Lib.cells_of_tab (k := .u64) (zs := Lib.pow10Tab) Tryd.underlying177 Tryd.underlying161 (by kernel_rfl) (by kernel_rfl) d1
  have e2 := Lib.cells_of_tab (k := .u8) (zs := [0, 1, 56, 2, 57, 49, 28, 3, 61, 58, 42, 50, 38, 29, 17, 4, 62, 47, 59, 36, 45, 43, 51, 22, 53, 39, 33, 30, 24, 18, 12, 5, 63, 55, 48, 27, 60, 41, 37, 16, 46, 35, 44, 21, 52, 32, 23, 11, 54, 26, 40, 15, 34, 20, 31, 10, 25, 14, 19, 9, 13, 8, 7, 6]) Tryd.underlying186 Tryd.underlying5 (by kernel_rfl) (by kernel_rfl) d2
  obtain ⟨_, u, v, e3, _, _⟩ := iface_of_trod Tryd.underlying131 d3
  refine ⟨GV.of ?_, ⟨u, v, GV.of ?_⟩, GV.of ?_⟩
  · rw [c1, ← e1]
  · rw [c3, ← e3]
  · rw [c2, ← e2]
end Go.Proofs.YtelgegefmjlimaaDoor

