/-
  Parts of a walk, joined: C2 CT2 R1 R2a C4 C5 C6 CT3 C7 C8 CR2 C3 CT4 C9 C10 CT5 C11 C13 CT6 C14 CT7. No condition.
-/
import Derived.Test.YtpghpbknjdnkkaaP4
import Derived.Test.YtpghpbknjdnkkaaP3
import Derived.Test.YtpghpbknjdnkkaaP2
import Derived.Test.YtpghpbknjdnkkaaProg
set_option linter.all false
/-
  The walk of class.Kind, and of class.Of. No condition.
-/
namespace Go.Proofs.Ytpghpbknjdnkkaa
open Go Go.Eng
set_option maxRecDepth 100000
set_option maxHeartbeats 4000000
set_option linter.all false
attribute [local irreducible] WL WC WQ QFun QLoop Does Q1 QRound QAssign Go.Addr.add
attribute [local irreducible] Great Small Wide kindN
theorem sq_C2_1 {G : Prop} (h : G := by (repeat (first | (refine sp ?_; (repeat intro zzc)) | (refine iF 77 rfl ?_; refine w_callG Try.func77 ?_ (hs := letter_any _ (by omega) _ _ _)) | (refine iF 78 rfl ?_; refine w_callG Try.func78 ?_ (hs := mark_any _ (by omega) _ _ _)))); exact WQ.q1 rfl) : G := h
theorem st_C2_1 {G G' : Prop} (next : G') (h : Bx G' → G := by intro zzn; (first | ((refine st ?_; (repeat intro zzc)); (try ((first | (refine iF 77 rfl ?_; refine w_callG Try.func77 ?_ (hs := letter_any _ (by omega) _ _ _)) | (refine iF 78 rfl ?_; refine w_callG Try.func78 ?_ (hs := mark_any _ (by omega) _ _ _)) | ((refine iDraw ?_; (first | refine WC.drawAll rfl (by decide +kernel) ?_ | refine WC.draw 1 rfl (by decide +kernel) ?_ | refine WC.draw 2 rfl (by decide +kernel) ?_ | refine WC.draw 3 rfl (by decide +kernel) ?_ | refine WC.draw 4 rfl (by decide +kernel) ?_ | refine WC.draw 5 rfl (by decide +kernel) ?_ | refine WC.draw 6 rfl (by decide +kernel) ?_ | refine WC.draw 7 rfl (by decide +kernel) ?_ | refine WC.draw 8 rfl (by decide +kernel) ?_ | refine WC.draw 9 rfl (by decide +kernel) ?_ | refine WC.draw 10 rfl (by decide +kernel) ?_ | refine WC.draw 11 rfl (by decide +kernel) ?_ | refine WC.draw 12 rfl (by decide +kernel) ?_ | refine WC.draw 13 rfl (by decide +kernel) ?_ | refine WC.draw 14 rfl (by decide +kernel) ?_ | refine WC.draw 15 rfl (by decide +kernel) ?_ | refine WC.draw 16 rfl (by decide +kernel) ?_ | refine WC.draw 17 rfl (by decide +kernel) ?_ | refine WC.draw 18 rfl (by decide +kernel) ?_ | refine WC.draw 19 rfl (by decide +kernel) ?_ | refine WC.draw 20 rfl (by decide +kernel) ?_ | refine WC.draw 21 rfl (by decide +kernel) ?_ | refine WC.draw 22 rfl (by decide +kernel) ?_ | refine WC.draw 23 rfl (by decide +kernel) ?_ | refine WC.draw 24 rfl (by decide +kernel) ?_)); (repeat (refine WD.cons rfl (fun c h => by cases h) sq_C2_1 ?_)); refine WD.nil ?_)); (try (refine st ?_; (repeat intro zzc)))))) | ((first | (refine iF 77 rfl ?_; refine w_callG Try.func77 ?_ (hs := letter_any _ (by omega) _ _ _)) | (refine iF 78 rfl ?_; refine w_callG Try.func78 ?_ (hs := mark_any _ (by omega) _ _ _)) | ((refine iDraw ?_; (first | refine WC.drawAll rfl (by decide +kernel) ?_ | refine WC.draw 1 rfl (by decide +kernel) ?_ | refine WC.draw 2 rfl (by decide +kernel) ?_ | refine WC.draw 3 rfl (by decide +kernel) ?_ | refine WC.draw 4 rfl (by decide +kernel) ?_ | refine WC.draw 5 rfl (by decide +kernel) ?_ | refine WC.draw 6 rfl (by decide +kernel) ?_ | refine WC.draw 7 rfl (by decide +kernel) ?_ | refine WC.draw 8 rfl (by decide +kernel) ?_ | refine WC.draw 9 rfl (by decide +kernel) ?_ | refine WC.draw 10 rfl (by decide +kernel) ?_ | refine WC.draw 11 rfl (by decide +kernel) ?_ | refine WC.draw 12 rfl (by decide +kernel) ?_ | refine WC.draw 13 rfl (by decide +kernel) ?_ | refine WC.draw 14 rfl (by decide +kernel) ?_ | refine WC.draw 15 rfl (by decide +kernel) ?_ | refine WC.draw 16 rfl (by decide +kernel) ?_ | refine WC.draw 17 rfl (by decide +kernel) ?_ | refine WC.draw 18 rfl (by decide +kernel) ?_ | refine WC.draw 19 rfl (by decide +kernel) ?_ | refine WC.draw 20 rfl (by decide +kernel) ?_ | refine WC.draw 21 rfl (by decide +kernel) ?_ | refine WC.draw 22 rfl (by decide +kernel) ?_ | refine WC.draw 23 rfl (by decide +kernel) ?_ | refine WC.draw 24 rfl (by decide +kernel) ?_)); (repeat (refine WD.cons rfl (fun c h => by cases h) sq_C2_1 ?_)); refine WD.nil ?_)); (try (refine st ?_; (repeat intro zzc))))); (repeat ((first | (refine iF 77 rfl ?_; refine w_callG Try.func77 ?_ (hs := letter_any _ (by omega) _ _ _)) | (refine iF 78 rfl ?_; refine w_callG Try.func78 ?_ (hs := mark_any _ (by omega) _ _ _)) | ((refine iDraw ?_; (first | refine WC.drawAll rfl (by decide +kernel) ?_ | refine WC.draw 1 rfl (by decide +kernel) ?_ | refine WC.draw 2 rfl (by decide +kernel) ?_ | refine WC.draw 3 rfl (by decide +kernel) ?_ | refine WC.draw 4 rfl (by decide +kernel) ?_ | refine WC.draw 5 rfl (by decide +kernel) ?_ | refine WC.draw 6 rfl (by decide +kernel) ?_ | refine WC.draw 7 rfl (by decide +kernel) ?_ | refine WC.draw 8 rfl (by decide +kernel) ?_ | refine WC.draw 9 rfl (by decide +kernel) ?_ | refine WC.draw 10 rfl (by decide +kernel) ?_ | refine WC.draw 11 rfl (by decide +kernel) ?_ | refine WC.draw 12 rfl (by decide +kernel) ?_ | refine WC.draw 13 rfl (by decide +kernel) ?_ | refine WC.draw 14 rfl (by decide +kernel) ?_ | refine WC.draw 15 rfl (by decide +kernel) ?_ | refine WC.draw 16 rfl (by decide +kernel) ?_ | refine WC.draw 17 rfl (by decide +kernel) ?_ | refine WC.draw 18 rfl (by decide +kernel) ?_ | refine WC.draw 19 rfl (by decide +kernel) ?_ | refine WC.draw 20 rfl (by decide +kernel) ?_ | refine WC.draw 21 rfl (by decide +kernel) ?_ | refine WC.draw 22 rfl (by decide +kernel) ?_ | refine WC.draw 23 rfl (by decide +kernel) ?_ | refine WC.draw 24 rfl (by decide +kernel) ?_)); (repeat (refine WD.cons rfl (fun c h => by cases h) sq_C2_1 ?_)); refine WD.nil ?_)); (try (refine st ?_; (repeat intro zzc))))); (repeat revert zzc); exact zzn.out) : G := h ⟨next⟩
theorem kind_any (r : Nat) (hr : r ≤ 1114111) (ho : r < 55296 ∨ 57343 < r) (w0 : World) (m : Mem) (H : SHeap) : Does Try.prog 62 #[.int .i32 (r : Int)] w0 m H (Gives (.int .i64 (kindN r : Int)) m H) := by
  refine Does.of_body (args := [.int .i32 (r : Int)]) Try.func62 rfl Try.ntmps62 rfl ?_
  (repeat' (first | (refine st_C2_1 ?_; intros) | (first | refine c_ways (fun h1 => ?_) (fun h1 => ?_) | refine c_nways (fun h1 => ?_) (fun h1 => ?_) | refine w_gways (fun h1 => ?_) (fun h1 => ?_) | refine w_gnways (fun h1 => ?_) (fun h1 => ?_))))
  all_goals ((refine q_fin0 ?_); refine Gives.mk (congrArg _ ?_))
  all_goals first | (have hk := kind_letter (r := r) (by assumption); omega) | (have hk := kind_spec (r := r) (by assumption); unfold Blank Dash Quote Point Ctl at hk; omega)
theorem sq_C2_2 {G : Prop} (h : G := by (repeat (first | (refine sp ?_; (repeat intro zzc)) | (refine iF 77 rfl ?_; refine w_callG Try.func77 ?_ (hs := letter_any _ (by omega) _ _ _)) | (refine iF 78 rfl ?_; refine w_callG Try.func78 ?_ (hs := mark_any _ (by omega) _ _ _)) | (refine iF 62 rfl ?_; refine w_callG Try.func62 ?_ (hs := kind_any _ (by omega) (by omega) _ _ _)))); exact WQ.q1 rfl) : G := h
theorem st_C2_2 {G G' : Prop} (next : G') (h : Bx G' → G := by intro zzn; (first | ((refine st ?_; (repeat intro zzc)); (try ((first | (refine iF 77 rfl ?_; refine w_callG Try.func77 ?_ (hs := letter_any _ (by omega) _ _ _)) | (refine iF 78 rfl ?_; refine w_callG Try.func78 ?_ (hs := mark_any _ (by omega) _ _ _)) | (refine iF 62 rfl ?_; refine w_callG Try.func62 ?_ (hs := kind_any _ (by omega) (by omega) _ _ _)) | ((refine iDraw ?_; (first | refine WC.drawAll rfl (by decide +kernel) ?_ | refine WC.draw 1 rfl (by decide +kernel) ?_ | refine WC.draw 2 rfl (by decide +kernel) ?_ | refine WC.draw 3 rfl (by decide +kernel) ?_ | refine WC.draw 4 rfl (by decide +kernel) ?_ | refine WC.draw 5 rfl (by decide +kernel) ?_ | refine WC.draw 6 rfl (by decide +kernel) ?_ | refine WC.draw 7 rfl (by decide +kernel) ?_ | refine WC.draw 8 rfl (by decide +kernel) ?_ | refine WC.draw 9 rfl (by decide +kernel) ?_ | refine WC.draw 10 rfl (by decide +kernel) ?_ | refine WC.draw 11 rfl (by decide +kernel) ?_ | refine WC.draw 12 rfl (by decide +kernel) ?_ | refine WC.draw 13 rfl (by decide +kernel) ?_ | refine WC.draw 14 rfl (by decide +kernel) ?_ | refine WC.draw 15 rfl (by decide +kernel) ?_ | refine WC.draw 16 rfl (by decide +kernel) ?_ | refine WC.draw 17 rfl (by decide +kernel) ?_ | refine WC.draw 18 rfl (by decide +kernel) ?_ | refine WC.draw 19 rfl (by decide +kernel) ?_ | refine WC.draw 20 rfl (by decide +kernel) ?_ | refine WC.draw 21 rfl (by decide +kernel) ?_ | refine WC.draw 22 rfl (by decide +kernel) ?_ | refine WC.draw 23 rfl (by decide +kernel) ?_ | refine WC.draw 24 rfl (by decide +kernel) ?_)); (repeat (refine WD.cons rfl (fun c h => by cases h) sq_C2_2 ?_)); refine WD.nil ?_)); (try (refine st ?_; (repeat intro zzc)))))) | ((first | (refine iF 77 rfl ?_; refine w_callG Try.func77 ?_ (hs := letter_any _ (by omega) _ _ _)) | (refine iF 78 rfl ?_; refine w_callG Try.func78 ?_ (hs := mark_any _ (by omega) _ _ _)) | (refine iF 62 rfl ?_; refine w_callG Try.func62 ?_ (hs := kind_any _ (by omega) (by omega) _ _ _)) | ((refine iDraw ?_; (first | refine WC.drawAll rfl (by decide +kernel) ?_ | refine WC.draw 1 rfl (by decide +kernel) ?_ | refine WC.draw 2 rfl (by decide +kernel) ?_ | refine WC.draw 3 rfl (by decide +kernel) ?_ | refine WC.draw 4 rfl (by decide +kernel) ?_ | refine WC.draw 5 rfl (by decide +kernel) ?_ | refine WC.draw 6 rfl (by decide +kernel) ?_ | refine WC.draw 7 rfl (by decide +kernel) ?_ | refine WC.draw 8 rfl (by decide +kernel) ?_ | refine WC.draw 9 rfl (by decide +kernel) ?_ | refine WC.draw 10 rfl (by decide +kernel) ?_ | refine WC.draw 11 rfl (by decide +kernel) ?_ | refine WC.draw 12 rfl (by decide +kernel) ?_ | refine WC.draw 13 rfl (by decide +kernel) ?_ | refine WC.draw 14 rfl (by decide +kernel) ?_ | refine WC.draw 15 rfl (by decide +kernel) ?_ | refine WC.draw 16 rfl (by decide +kernel) ?_ | refine WC.draw 17 rfl (by decide +kernel) ?_ | refine WC.draw 18 rfl (by decide +kernel) ?_ | refine WC.draw 19 rfl (by decide +kernel) ?_ | refine WC.draw 20 rfl (by decide +kernel) ?_ | refine WC.draw 21 rfl (by decide +kernel) ?_ | refine WC.draw 22 rfl (by decide +kernel) ?_ | refine WC.draw 23 rfl (by decide +kernel) ?_ | refine WC.draw 24 rfl (by decide +kernel) ?_)); (repeat (refine WD.cons rfl (fun c h => by cases h) sq_C2_2 ?_)); refine WD.nil ?_)); (try (refine st ?_; (repeat intro zzc))))); (repeat ((first | (refine iF 77 rfl ?_; refine w_callG Try.func77 ?_ (hs := letter_any _ (by omega) _ _ _)) | (refine iF 78 rfl ?_; refine w_callG Try.func78 ?_ (hs := mark_any _ (by omega) _ _ _)) | (refine iF 62 rfl ?_; refine w_callG Try.func62 ?_ (hs := kind_any _ (by omega) (by omega) _ _ _)) | ((refine iDraw ?_; (first | refine WC.drawAll rfl (by decide +kernel) ?_ | refine WC.draw 1 rfl (by decide +kernel) ?_ | refine WC.draw 2 rfl (by decide +kernel) ?_ | refine WC.draw 3 rfl (by decide +kernel) ?_ | refine WC.draw 4 rfl (by decide +kernel) ?_ | refine WC.draw 5 rfl (by decide +kernel) ?_ | refine WC.draw 6 rfl (by decide +kernel) ?_ | refine WC.draw 7 rfl (by decide +kernel) ?_ | refine WC.draw 8 rfl (by decide +kernel) ?_ | refine WC.draw 9 rfl (by decide +kernel) ?_ | refine WC.draw 10 rfl (by decide +kernel) ?_ | refine WC.draw 11 rfl (by decide +kernel) ?_ | refine WC.draw 12 rfl (by decide +kernel) ?_ | refine WC.draw 13 rfl (by decide +kernel) ?_ | refine WC.draw 14 rfl (by decide +kernel) ?_ | refine WC.draw 15 rfl (by decide +kernel) ?_ | refine WC.draw 16 rfl (by decide +kernel) ?_ | refine WC.draw 17 rfl (by decide +kernel) ?_ | refine WC.draw 18 rfl (by decide +kernel) ?_ | refine WC.draw 19 rfl (by decide +kernel) ?_ | refine WC.draw 20 rfl (by decide +kernel) ?_ | refine WC.draw 21 rfl (by decide +kernel) ?_ | refine WC.draw 22 rfl (by decide +kernel) ?_ | refine WC.draw 23 rfl (by decide +kernel) ?_ | refine WC.draw 24 rfl (by decide +kernel) ?_)); (repeat (refine WD.cons rfl (fun c h => by cases h) sq_C2_2 ?_)); refine WD.nil ?_)); (try (refine st ?_; (repeat intro zzc))))); (repeat revert zzc); exact zzn.out) : G := h ⟨next⟩
theorem of_any (p : Pc) (hr : okr p.r) (w0 : World) (m : Mem) (H : SHeap) : Does Try.prog 45 #[p.v] w0 m H (Gives (.int .i64 (kindP p : Int)) m H) := by
  have hr1 := okr_le hr
  have hr2 : p.r < 55296 ∨ 57343 < p.r := by unfold okr at hr; omega
  unfold Pc.v Pc.cs
  refine Does.of_body (args := [.agg #[.int .i64 (p.at_ : Int), .int .i64 (p.w : Int), .int .i32 (p.r : Int), .bool p.b]]) Try.func45 rfl Try.ntmps45 rfl ?_
  cases hb : p.b with
  | true =>
    (try (refine st_C2_2 ?_; intros))
    (refine q_fin0 ?_)
    exact Gives.mk (by rw [kindP_b hb]; rfl)
  | false =>
    (try (refine st_C2_2 ?_; intros))
    (refine q_fin0 ?_)
    exact Gives.mk (by rw [kindP_r hb])
end Go.Proofs.Ytpghpbknjdnkkaa

/-
  Plain facts on what takes two columns: a row of edges, a table of ranges. No condition.
-/
namespace Go.Eng
open Go
def wideGo : List Nat → Bool → Nat → Bool
  | [], _, _ => false
  | e :: es, false, r => if r < e then false else wideGo es true r
  | e :: es, true, r => if r ≤ e then true else wideGo es false r
def wideE : List Nat := [4352, 4447, 11904, 12350, 12353, 19903, 19968, 42191, 44032, 55203, 63744, 64255, 65072, 65135, 65280, 65376, 65504, 65510, 127744, 128591, 129280, 129535, 131072, 262141]
theorem wide_go (r : Nat) : wideGo wideE false r = decide (Wide r) := by
  simp only [wideE, wideGo]
  by_cases h0 : r < 4352
  · rw [if_pos h0]; refine (decide_eq_false (p := Wide r) ?_).symm; unfold Wide; omega
  rw [if_neg h0]
  by_cases h1 : r ≤ 4447
  · rw [if_pos h1]; refine (decide_eq_true (p := Wide r) ?_).symm; unfold Wide; omega
  rw [if_neg h1]
  by_cases h2 : r < 11904
  · rw [if_pos h2]; refine (decide_eq_false (p := Wide r) ?_).symm; unfold Wide; omega
  rw [if_neg h2]
  by_cases h3 : r ≤ 12350
  · rw [if_pos h3]; refine (decide_eq_true (p := Wide r) ?_).symm; unfold Wide; omega
  rw [if_neg h3]
  by_cases h4 : r < 12353
  · rw [if_pos h4]; refine (decide_eq_false (p := Wide r) ?_).symm; unfold Wide; omega
  rw [if_neg h4]
  by_cases h5 : r ≤ 19903
  · rw [if_pos h5]; refine (decide_eq_true (p := Wide r) ?_).symm; unfold Wide; omega
  rw [if_neg h5]
  by_cases h6 : r < 19968
  · rw [if_pos h6]; refine (decide_eq_false (p := Wide r) ?_).symm; unfold Wide; omega
  rw [if_neg h6]
  by_cases h7 : r ≤ 42191
  · rw [if_pos h7]; refine (decide_eq_true (p := Wide r) ?_).symm; unfold Wide; omega
  rw [if_neg h7]
  by_cases h8 : r < 44032
  · rw [if_pos h8]; refine (decide_eq_false (p := Wide r) ?_).symm; unfold Wide; omega
  rw [if_neg h8]
  by_cases h9 : r ≤ 55203
  · rw [if_pos h9]; refine (decide_eq_true (p := Wide r) ?_).symm; unfold Wide; omega
  rw [if_neg h9]
  by_cases h10 : r < 63744
  · rw [if_pos h10]; refine (decide_eq_false (p := Wide r) ?_).symm; unfold Wide; omega
  rw [if_neg h10]
  by_cases h11 : r ≤ 64255
  · rw [if_pos h11]; refine (decide_eq_true (p := Wide r) ?_).symm; unfold Wide; omega
  rw [if_neg h11]
  by_cases h12 : r < 65072
  · rw [if_pos h12]; refine (decide_eq_false (p := Wide r) ?_).symm; unfold Wide; omega
  rw [if_neg h12]
  by_cases h13 : r ≤ 65135
  · rw [if_pos h13]; refine (decide_eq_true (p := Wide r) ?_).symm; unfold Wide; omega
  rw [if_neg h13]
  by_cases h14 : r < 65280
  · rw [if_pos h14]; refine (decide_eq_false (p := Wide r) ?_).symm; unfold Wide; omega
  rw [if_neg h14]
  by_cases h15 : r ≤ 65376
  · rw [if_pos h15]; refine (decide_eq_true (p := Wide r) ?_).symm; unfold Wide; omega
  rw [if_neg h15]
  by_cases h16 : r < 65504
  · rw [if_pos h16]; refine (decide_eq_false (p := Wide r) ?_).symm; unfold Wide; omega
  rw [if_neg h16]
  by_cases h17 : r ≤ 65510
  · rw [if_pos h17]; refine (decide_eq_true (p := Wide r) ?_).symm; unfold Wide; omega
  rw [if_neg h17]
  by_cases h18 : r < 127744
  · rw [if_pos h18]; refine (decide_eq_false (p := Wide r) ?_).symm; unfold Wide; omega
  rw [if_neg h18]
  by_cases h19 : r ≤ 128591
  · rw [if_pos h19]; refine (decide_eq_true (p := Wide r) ?_).symm; unfold Wide; omega
  rw [if_neg h19]
  by_cases h20 : r < 129280
  · rw [if_pos h20]; refine (decide_eq_false (p := Wide r) ?_).symm; unfold Wide; omega
  rw [if_neg h20]
  by_cases h21 : r ≤ 129535
  · rw [if_pos h21]; refine (decide_eq_true (p := Wide r) ?_).symm; unfold Wide; omega
  rw [if_neg h21]
  by_cases h22 : r < 131072
  · rw [if_pos h22]; refine (decide_eq_false (p := Wide r) ?_).symm; unfold Wide; omega
  rw [if_neg h22]
  by_cases h23 : r ≤ 262141
  · rw [if_pos h23]; refine (decide_eq_true (p := Wide r) ?_).symm; unfold Wide; omega
  rw [if_neg h23]
  refine (decide_eq_false (p := Wide r) ?_).symm; unfold Wide; omega
def anyR : List (Nat × Nat) → Nat → Prop
  | [], _ => False
  | x :: xs, r => (x.1 ≤ r ∧ r ≤ x.2) ∨ anyR xs r
def wideR : List (Nat × Nat) := [(4352, 4447), (11904, 12350), (12353, 19903), (19968, 42191), (44032, 55203), (63744, 64255), (65072, 65135), (65280, 65376), (65504, 65510), (127744, 128591), (129280, 129535), (131072, 262141)]
/-- the text of the edges -/
def wideT : List UInt8 := [225, 132, 128, 225, 133, 159, 226, 186, 128, 227, 128, 190, 227, 129, 129, 228, 182, 191, 228, 184, 128, 234, 147, 143, 234, 176, 128, 237, 158, 163, 239, 164, 128, 239, 171, 191, 239, 184, 176] ++ [239, 185, 175, 239, 188, 128, 239, 189, 160, 239, 191, 160, 239, 191, 166, 240, 159, 140, 128, 240, 159, 153, 143, 240, 159, 164, 128, 240, 159, 167, 191, 240, 160, 128, 128, 240, 191, 191, 189]
theorem wideT_eq : wideT = [225, 132, 128, 225, 133, 159, 226, 186, 128, 227, 128, 190, 227, 129, 129, 228, 182, 191, 228, 184, 128, 234, 147, 143, 234, 176, 128, 237, 158, 163, 239, 164, 128, 239, 171, 191, 239, 184, 176].append [239, 185, 175, 239, 188, 128, 239, 189, 160, 239, 191, 160, 239, 191, 166, 240, 159, 140, 128, 240, 159, 153, 143, 240, 159, 164, 128, 240, 159, 167, 191, 240, 160, 128, 128, 240, 191, 191, 189] := rfl
theorem wide_pieces : (pieces wideT).map Pc.r = wideE := by decide +kernel
theorem wideT_len : wideT.length = 78 := by decide
end Go.Eng

/-
  The walks of package runes and of its reference, first part: a rune's width, the piece that is read at a place. No condition.
-/
namespace Go.Proofs.Ytpghpbknjdnkkaa
open Go Go.Eng
set_option maxRecDepth 100000
set_option maxHeartbeats 4000000
set_option linter.all false
attribute [local irreducible] WL WC WQ QFun QLoop Does Q1 QRound QAssign Go.Addr.add
/-- runes.Width, of whatever number -/
def widthS (r : Int) : Int := if r ≠ 65533 ∧ fmb (rn r) = [239, 191, 189] then 0 else (wd (rn r) : Int)
theorem width_any (r : Int) (w0 : World) (m : Mem) (H : SHeap) : Does Try.prog 76 #[.int .i32 r] w0 m H (Gives (.int .i64 (widthS r)) m H) := by
  refine Does.of_body (args := [.int .i32 r]) Try.func76 rfl Try.ntmps76 rfl ?_
  (try (refine st ?_; intros))
  (first | refine c_ways (fun h1 => ?_) (fun h1 => ?_) | refine c_nways (fun h1 => ?_) (fun h1 => ?_) | refine w_gways (fun h1 => ?_) (fun h1 => ?_) | refine w_gnways (fun h1 => ?_) (fun h1 => ?_))
  · (try (refine st ?_; intros))
    (first | refine c_ways (fun h2 => ?_) (fun h2 => ?_) | refine c_nways (fun h2 => ?_) (fun h2 => ?_) | refine w_gways (fun h2 => ?_) (fun h2 => ?_) | refine w_gnways (fun h2 => ?_) (fun h2 => ?_))
    · (try (refine st ?_; intros))
      rw [encode_eq] at h2
      exact WQ.fin _ (res_tmp rfl rfl) (.mk (by rw [widthS, if_pos ⟨h1, h2⟩]))
    · (try (refine st ?_; intros))
      rw [encode_eq] at h2 ⊢
      exact WQ.fin _ (res_tmp rfl rfl) (.mk (by rw [widthS, if_neg (fun h => h2 h.2), fmb_length]))
  · (try (refine st ?_; intros))
    rw [encode_eq]
    exact WQ.fin _ (res_tmp rfl rfl) (.mk (by rw [widthS, if_neg (fun h => h.1 h1), fmb_length]))

theorem widthS_ok {c : Nat} (h : okr c) : widthS (c : Int) = (wd c : Int) := by
  unfold widthS
  rw [rn_nat h, if_neg]
  rintro ⟨h1, h2⟩
  apply h1
  have h3 : wd c = 3 := by rw [← fmb_length c, h2]; rfl
  have hc : ¬ c < 128 ∧ ¬ c < 2048 ∧ c < 65536 := by
    unfold wd at h3
    split at h3
    · cases h3
    · split at h3
      · cases h3
      · split at h3
        · omega
        · cases h3
  have h4 := nb_fmb c 0 (by omega) (by omega)
  have h5 := nb_fmb c 1 (by omega) (by omega)
  have h6 := nb_fmb c 2 (by omega) (by omega)
  rw [h2] at h4 h5 h6
  unfold fm at h4 h5 h6
  rw [if_neg hc.1, if_neg hc.2.1, if_pos hc.2.2] at h4 h5 h6
  simp [nb, gb] at h4 h5 h6
  omega
theorem fmb_lost : fmb 65533 = [239, 191, 189] := by decide
/-- what the text bears there is the form of U+FFFD just if it is decoded as one of three bytes -/
theorem lost_iff (l : List UInt8) (hl : 0 < l.length) (h : (dl l).1 = 65533) : (¬ l.length < 3 ∧ l.take 3 = [239, 191, 189]) ↔ ¬ dl l = (65533, 1) := by
  have hw : wd 65533 = 3 := by decide
  constructor
  · rintro ⟨h1, h2⟩ h3
    have := dl_of_begins (l := l) (c := 65533) (by right; decide) ((begins_iff l 65533 (by decide)).2 (by rw [hw, h2, fmb_lost]))
    rw [h3, hw] at this
    cases this
  · intro h3
    rcases dl_cases l hl with ⟨_, _, hb⟩ | ⟨he, _⟩
    · rw [h] at hb
      have := (begins_iff l 65533 (by decide)).1 hb
      rw [hw, fmb_lost] at this
      have hb1 := hb.1
      rw [hw] at hb1
      exact ⟨by omega, this⟩
    · exact absurd he h3
theorem readP_some {l : List UInt8} {k : Nat} (hk : k < l.length) (h : ¬ dl (l.drop k) = (65533, 1)) : okr (dl (l.drop k)).1 ∧ widthS ((dl (l.drop k)).1 : Int) = ((dl (l.drop k)).2 : Int) := by
  rcases dl_cases (l.drop k) (by simp; omega) with ⟨h1, h2, _⟩ | ⟨he, _⟩
  · exact ⟨h1, by rw [widthS_ok h1, h2]⟩
  · exact absurd he h

theorem take_drop_swap (l : List UInt8) (k j : Nat) : (l.take (k + j)).drop k = (l.drop k).take j := by
  rw [List.drop_take]; congr 1; omega
theorem read_any (l : List UInt8) (k : Nat) (hl : l.length ≤ 9223372036854775804) (hk : k < l.length) (w0 : World) (m : Mem) (H : SHeap) :
    Does Try.prog 61 #[str l, .int .i64 (k : Int)] w0 m H (Gives (readP l k).v m H) := by
  have hlen : (l.drop k).length = l.length - k := List.length_drop
  have hli := lost_iff (l.drop k) (by omega)
  have hso := fun h => (readP_some hk h).2
  rw [hlen] at hli
  refine Does.of_body (args := [str l, .int .i64 (k : Int)]) Try.func61 rfl Try.ntmps61 rfl ?_
  (try (refine st ?_; intros))
  apply WC.loop1
  (try (refine st ?_; intros))
  refine WL.rename 15 (u := .int .i32 ((dl (l.drop k)).1 : Int)) rfl rfl ?_
  refine WL.rename 6 (u := .int .i32 ((dl (l.drop k)).1 : Int)) rfl rfl ?_
  refine w_callF Try.func76 ?_ (hs := width_any _ _ _ _)
  rintro _ _ _ ⟨rfl, rfl, rfl⟩
  by_cases hA : dl (l.drop k) = (65533, 1)
  · have h1 : (dl (l.drop k)).1 = 65533 := by rw [hA]
    (try (refine st ?_; intros))
    (first | refine c_ways (fun h2 => ?_) (fun h2 => ?_) | refine c_nways (fun h2 => ?_) (fun h2 => ?_) | refine w_gways (fun h2 => ?_) (fun h2 => ?_) | refine w_gnways (fun h2 => ?_) (fun h2 => ?_))
    · (try (refine st ?_; intros))
      (refine q_fin0 ?_)
      refine Gives.mk ?_
      unfold readP; rw [if_pos hA]; rfl
    · (try (refine st ?_; intros))
      (first | refine c_ways (fun h3 => ?_) (fun h3 => ?_) | refine c_nways (fun h3 => ?_) (fun h3 => ?_) | refine w_gways (fun h3 => ?_) (fun h3 => ?_) | refine w_gnways (fun h3 => ?_) (fun h3 => ?_))
      · (try (refine st ?_; intros))
        (refine q_fin0 ?_)
        refine Gives.mk ?_
        unfold readP; rw [if_pos hA]; rfl
      · exfalso
        rw [take_drop_swap] at h3
        exact (hli h1).1 ⟨by omega, h3⟩ hA
  · have hw := hso hA
    (try (refine st ?_; intros))
    (first | refine c_ways (fun h2 => ?_) (fun h2 => ?_) | refine c_nways (fun h2 => ?_) (fun h2 => ?_) | refine w_gways (fun h2 => ?_) (fun h2 => ?_) | refine w_gnways (fun h2 => ?_) (fun h2 => ?_))
    · have h1 : (dl (l.drop k)).1 = 65533 := by omega
      obtain ⟨h4, h5⟩ := (hli h1).2 hA
      (try (refine st ?_; intros))
      (first | refine c_ways (fun h3 => ?_) (fun h3 => ?_) | refine c_nways (fun h3 => ?_) (fun h3 => ?_) | refine w_gways (fun h3 => ?_) (fun h3 => ?_) | refine w_gnways (fun h3 => ?_) (fun h3 => ?_))
      · exfalso
        rw [take_drop_swap] at h3
        exact h3 h5
      · (try (refine st ?_; intros))
        (refine q_fin0 ?_)
        refine Gives.mk ?_
        unfold readP; rw [if_neg hA, hw]; rfl
    · (try (refine st ?_; intros))
      (refine q_fin0 ?_)
      refine Gives.mk ?_
      unfold readP; rw [if_neg hA, hw]; rfl
end Go.Proofs.Ytpghpbknjdnkkaa

/-
  The walks of package runes: the iterator over a text's pieces. No condition.
-/
namespace Go.Proofs.Ytpghpbknjdnkkaa
open Go Go.Eng
set_option maxRecDepth 100000
set_option maxHeartbeats 4000000
set_option linter.all false
attribute [local irreducible] WL WC WQ QFun QLoop Does Q1 QRound QAssign Go.Addr.add
/-- what a text's iterator leans on: its text in a cell that stays -/
def TextAt (b : Nat) (l : List UInt8) (m : Mem) : Prop := m b = some (.cells [str l].toArray 9 (0, 0))
/-- an iterator's value: made anew, over a text of its own -/
def IterOf (f : Nat) (l : List UInt8) (m : Mem) (H : SHeap) : Value → Mem → SHeap → Prop := fun v m' H' =>
  ∃ b, v = .func (.func f) #[] #[.pointer (some ⟨b, 0, none⟩)] ∧ m' = m ∧ H' = .blk b (.cells [str l].toArray 9 (0, 0)) :: H
theorem pieces_any (l : List UInt8) (w0 : World) (m : Mem) (H : SHeap) : Does Try.prog 44 #[str l] w0 m H (IterOf 60 l m H) := by
  refine Does.of_body (args := [str l]) Try.func44 rfl Try.ntmps44 rfl ?_
  (try (refine st ?_; intros))
  apply WQ.fin
  · (first | (apply res_tmp; (· exact rfl); (· exact rfl)) | (apply res_cell; (· exact rfl); (· exact rfl); (· (first | (apply Loads.one; (· exact rfl); (· first | (apply Cell.blk; (· (repeat (first | exact List.Mem.head _ | apply List.Mem.tail))); (· exact rfl)) | (apply Cell.mem; (· assumption); (· exact rfl)))) | (apply Loads.whole; (· exact rfl); (· exact rfl); (· (repeat (first | exact List.Mem.head _ | apply List.Mem.tail))); (· exact rfl)) | (apply Loads.blk; (· exact rfl); (· exact rfl); (· (repeat (first | exact List.Mem.head _ | apply List.Mem.tail))); (· (repeat (first | exact Seg.nil | (apply Seg.cons; (· exact rfl)))))) | (apply Loads.row; (· (repeat (first | exact List.Mem.head _ | apply List.Mem.tail))); (first | (rotate_left; (· exact rfl); rotate_right; (· assumption)) | ((· assumption); (· exact rfl))); (· exact rfl); (· exact rfl); (· exact rfl)) | (apply Loads.row1; (· (repeat (first | exact List.Mem.head _ | apply List.Mem.tail))); (first | (rotate_left; (· exact rfl); rotate_right; (· assumption)) | ((· assumption); (· exact rfl))); (· exact rfl)) | (apply Loads.rowF; (· (repeat (first | exact List.Mem.head _ | apply List.Mem.tail))); (first | (rotate_left; (· exact rfl); rotate_right; (· assumption)) | ((· assumption); (· exact rfl))); (· exact rfl); (· exact rfl)) | (apply Loads.prow; (· assumption); (first | (rotate_left; (· exact rfl); rotate_right; (· assumption)) | ((· assumption); (· exact rfl))); (· exact rfl); (· exact rfl); (· exact rfl)) | (apply Loads.prow1; (· assumption); (first | (rotate_left; (· exact rfl); rotate_right; (· assumption)) | ((· assumption); (· exact rfl))); (· exact rfl)) | (apply Loads.prowF; (· assumption); (first | (rotate_left; (· exact rfl); rotate_right; (· assumption)) | ((· assumption); (· exact rfl))); (· exact rfl); (· exact rfl)) | (apply Loads.rrow; (· assumption); (first | (rotate_left; (· exact rfl); rotate_right; (· assumption)) | ((· assumption); (· exact rfl))); (· exact rfl); (· exact rfl); (· exact rfl)) | (apply Loads.rrow1; (· assumption); (first | (rotate_left; (· exact rfl); rotate_right; (· assumption)) | ((· assumption); (· exact rfl))); (· exact rfl)) | (apply Loads.rrowF; (· assumption); (first | (rotate_left; (· exact rfl); rotate_right; (· assumption)) | ((· assumption); (· exact rfl))); (· exact rfl); (· exact rfl)) | (apply Loads.rowS; (· (repeat (first | exact List.Mem.head _ | apply List.Mem.tail))); (first | (rotate_left; (· exact rfl); rotate_right; (· assumption)) | ((· assumption); (· exact rfl))); (· exact rfl); (· exact rfl); (· (repeat (first | exact Seg.nil | (apply Seg.cons; (· exact rfl))))))))) | (apply res_none; exact rfl) | (apply res_many; (· exact rfl); (· repeat (first | exact ResAll.nil | (apply ResAll.tmp; (· exact rfl)) | (apply ResAll.cell; (· exact rfl); (· (first | (apply Loads.one; (· exact rfl); (· first | (apply Cell.blk; (· (repeat (first | exact List.Mem.head _ | apply List.Mem.tail))); (· exact rfl)) | (apply Cell.mem; (· assumption); (· exact rfl)))) | (apply Loads.whole; (· exact rfl); (· exact rfl); (· (repeat (first | exact List.Mem.head _ | apply List.Mem.tail))); (· exact rfl)) | (apply Loads.blk; (· exact rfl); (· exact rfl); (· (repeat (first | exact List.Mem.head _ | apply List.Mem.tail))); (· (repeat (first | exact Seg.nil | (apply Seg.cons; (· exact rfl)))))) | (apply Loads.row; (· (repeat (first | exact List.Mem.head _ | apply List.Mem.tail))); (first | (rotate_left; (· exact rfl); rotate_right; (· assumption)) | ((· assumption); (· exact rfl))); (· exact rfl); (· exact rfl); (· exact rfl)) | (apply Loads.row1; (· (repeat (first | exact List.Mem.head _ | apply List.Mem.tail))); (first | (rotate_left; (· exact rfl); rotate_right; (· assumption)) | ((· assumption); (· exact rfl))); (· exact rfl)) | (apply Loads.rowF; (· (repeat (first | exact List.Mem.head _ | apply List.Mem.tail))); (first | (rotate_left; (· exact rfl); rotate_right; (· assumption)) | ((· assumption); (· exact rfl))); (· exact rfl); (· exact rfl)) | (apply Loads.prow; (· assumption); (first | (rotate_left; (· exact rfl); rotate_right; (· assumption)) | ((· assumption); (· exact rfl))); (· exact rfl); (· exact rfl); (· exact rfl)) | (apply Loads.prow1; (· assumption); (first | (rotate_left; (· exact rfl); rotate_right; (· assumption)) | ((· assumption); (· exact rfl))); (· exact rfl)) | (apply Loads.prowF; (· assumption); (first | (rotate_left; (· exact rfl); rotate_right; (· assumption)) | ((· assumption); (· exact rfl))); (· exact rfl); (· exact rfl)) | (apply Loads.rrow; (· assumption); (first | (rotate_left; (· exact rfl); rotate_right; (· assumption)) | ((· assumption); (· exact rfl))); (· exact rfl); (· exact rfl); (· exact rfl)) | (apply Loads.rrow1; (· assumption); (first | (rotate_left; (· exact rfl); rotate_right; (· assumption)) | ((· assumption); (· exact rfl))); (· exact rfl)) | (apply Loads.rrowF; (· assumption); (first | (rotate_left; (· exact rfl); rotate_right; (· assumption)) | ((· assumption); (· exact rfl))); (· exact rfl); (· exact rfl)) | (apply Loads.rowS; (· (repeat (first | exact List.Mem.head _ | apply List.Mem.tail))); (first | (rotate_left; (· exact rfl); rotate_right; (· assumption)) | ((· assumption); (· exact rfl))); (· exact rfl); (· exact rfl); (· (repeat (first | exact Seg.nil | (apply Seg.cons; (· exact rfl))))))))))); (· exact rfl)))
  · exact ⟨_, rfl, rfl, rfl⟩
theorem pieces_seq (l : List UInt8) (hl : l.length ≤ 9223372036854775804) (b : Nat) : SeqC Try.prog 60 [.pointer (some ⟨b, 0, none⟩)] (fun p : Pc => [p.v]) (pieces l) (TextAt b l) := by
  intro w0 lp J Jx m H hcap h0 hY
  have hcap' : m b = some (.cells [str l].toArray 9 (0, 0)) := hcap
  refine Does.of_body Try.func60 rfl Try.ntmps60 rfl ?_
  (try (refine st ?_; intros))
  refine WC.loopW [(5, _), (0, .func (.yield lp) #[] #[]), (1, .pointer (some ⟨b, 0, none⟩))] ?_ (fun j r ds m' H' => ∃ k pre H1 it, j = l.length - k ∧ r = [(5, .pointer (some ⟨it, 0, none⟩)), (0, .func (.yield lp) #[] #[]), (1, .pointer (some ⟨b, 0, none⟩))] ∧ ds = [] ∧ H' = .blk it (.stringIter ⟨l.toArray⟩ k) :: H1 ∧ m.le m' ∧ pieces l = pre ++ from_ l k ∧ J pre m' H1) l.length ⟨0, [], H, _, rfl, rfl, rfl, rfl, Mem.le.refl _, rfl, h0⟩ ?_
  · (repeat (first | exact Env.Sub.nil | refine Env.Sub.cons rfl ?_))
  rintro j r ds m1 H1 ⟨k, pre, H1, it, rfl, rfl, rfl, rfl, hle, hp, hJ⟩
  have hcap1 := hle _ _ hcap'
  by_cases hk : k < l.length
  · have hw := readP_w hk
    rw [from_cons hk] at hp
    (try (refine st ?_; intros))
    refine w_callF Try.func61 ?_ (hs := read_any l k hl hk _ _ _)
    rintro _ _ _ ⟨rfl, rfl, rfl⟩
    (try (refine st ?_; intros))
    rw [readP_w_eq] at hp hw
    apply WL.yield
    · exact rfl
    · exact rfl
    · exact rfl
    · exact hY pre (readP l k) _ hp _ H1 [_] hJ hle
    · rintro m2 _ ⟨H2, rfl, hJ2, hle2⟩
      (try (refine st ?_; intros))
      refine WQ.next (l.length - (k + (dl (l.drop k)).2)) ⟨_, pre ++ [readP l k], H2, it, rfl, rfl, rfl, rfl, hle.trans hle2, by rw [hp]; simp, hJ2⟩ (by omega) zsb (fun w h => h)
    · rintro m2 _ ⟨H2, rfl, hJ2, hle2⟩
      (try (refine st ?_; intros))
      (refine q_fin0 ?_)
      exact ⟨hle.trans hle2, .inr ⟨pre ++ [readP l k], ⟨from_ l (k + (dl (l.drop k)).2), by rw [hp]; simp⟩, hJ2⟩⟩
  · rw [from_nil hk, List.append_nil] at hp
    (try (refine st ?_; intros))
    apply WQ.finNorm
    · (first | (apply res_tmp; (· exact rfl); (· exact rfl)) | (apply res_cell; (· exact rfl); (· exact rfl); (· (first | (apply Loads.one; (· exact rfl); (· first | (apply Cell.blk; (· (repeat (first | exact List.Mem.head _ | apply List.Mem.tail))); (· exact rfl)) | (apply Cell.mem; (· assumption); (· exact rfl)))) | (apply Loads.whole; (· exact rfl); (· exact rfl); (· (repeat (first | exact List.Mem.head _ | apply List.Mem.tail))); (· exact rfl)) | (apply Loads.blk; (· exact rfl); (· exact rfl); (· (repeat (first | exact List.Mem.head _ | apply List.Mem.tail))); (· (repeat (first | exact Seg.nil | (apply Seg.cons; (· exact rfl)))))) | (apply Loads.row; (· (repeat (first | exact List.Mem.head _ | apply List.Mem.tail))); (first | (rotate_left; (· exact rfl); rotate_right; (· assumption)) | ((· assumption); (· exact rfl))); (· exact rfl); (· exact rfl); (· exact rfl)) | (apply Loads.row1; (· (repeat (first | exact List.Mem.head _ | apply List.Mem.tail))); (first | (rotate_left; (· exact rfl); rotate_right; (· assumption)) | ((· assumption); (· exact rfl))); (· exact rfl)) | (apply Loads.rowF; (· (repeat (first | exact List.Mem.head _ | apply List.Mem.tail))); (first | (rotate_left; (· exact rfl); rotate_right; (· assumption)) | ((· assumption); (· exact rfl))); (· exact rfl); (· exact rfl)) | (apply Loads.prow; (· assumption); (first | (rotate_left; (· exact rfl); rotate_right; (· assumption)) | ((· assumption); (· exact rfl))); (· exact rfl); (· exact rfl); (· exact rfl)) | (apply Loads.prow1; (· assumption); (first | (rotate_left; (· exact rfl); rotate_right; (· assumption)) | ((· assumption); (· exact rfl))); (· exact rfl)) | (apply Loads.prowF; (· assumption); (first | (rotate_left; (· exact rfl); rotate_right; (· assumption)) | ((· assumption); (· exact rfl))); (· exact rfl); (· exact rfl)) | (apply Loads.rrow; (· assumption); (first | (rotate_left; (· exact rfl); rotate_right; (· assumption)) | ((· assumption); (· exact rfl))); (· exact rfl); (· exact rfl); (· exact rfl)) | (apply Loads.rrow1; (· assumption); (first | (rotate_left; (· exact rfl); rotate_right; (· assumption)) | ((· assumption); (· exact rfl))); (· exact rfl)) | (apply Loads.rrowF; (· assumption); (first | (rotate_left; (· exact rfl); rotate_right; (· assumption)) | ((· assumption); (· exact rfl))); (· exact rfl); (· exact rfl)) | (apply Loads.rowS; (· (repeat (first | exact List.Mem.head _ | apply List.Mem.tail))); (first | (rotate_left; (· exact rfl); rotate_right; (· assumption)) | ((· assumption); (· exact rfl))); (· exact rfl); (· exact rfl); (· (repeat (first | exact Seg.nil | (apply Seg.cons; (· exact rfl))))))))) | (apply res_none; exact rfl) | (apply res_many; (· exact rfl); (· repeat (first | exact ResAll.nil | (apply ResAll.tmp; (· exact rfl)) | (apply ResAll.cell; (· exact rfl); (· (first | (apply Loads.one; (· exact rfl); (· first | (apply Cell.blk; (· (repeat (first | exact List.Mem.head _ | apply List.Mem.tail))); (· exact rfl)) | (apply Cell.mem; (· assumption); (· exact rfl)))) | (apply Loads.whole; (· exact rfl); (· exact rfl); (· (repeat (first | exact List.Mem.head _ | apply List.Mem.tail))); (· exact rfl)) | (apply Loads.blk; (· exact rfl); (· exact rfl); (· (repeat (first | exact List.Mem.head _ | apply List.Mem.tail))); (· (repeat (first | exact Seg.nil | (apply Seg.cons; (· exact rfl)))))) | (apply Loads.row; (· (repeat (first | exact List.Mem.head _ | apply List.Mem.tail))); (first | (rotate_left; (· exact rfl); rotate_right; (· assumption)) | ((· assumption); (· exact rfl))); (· exact rfl); (· exact rfl); (· exact rfl)) | (apply Loads.row1; (· (repeat (first | exact List.Mem.head _ | apply List.Mem.tail))); (first | (rotate_left; (· exact rfl); rotate_right; (· assumption)) | ((· assumption); (· exact rfl))); (· exact rfl)) | (apply Loads.rowF; (· (repeat (first | exact List.Mem.head _ | apply List.Mem.tail))); (first | (rotate_left; (· exact rfl); rotate_right; (· assumption)) | ((· assumption); (· exact rfl))); (· exact rfl); (· exact rfl)) | (apply Loads.prow; (· assumption); (first | (rotate_left; (· exact rfl); rotate_right; (· assumption)) | ((· assumption); (· exact rfl))); (· exact rfl); (· exact rfl); (· exact rfl)) | (apply Loads.prow1; (· assumption); (first | (rotate_left; (· exact rfl); rotate_right; (· assumption)) | ((· assumption); (· exact rfl))); (· exact rfl)) | (apply Loads.prowF; (· assumption); (first | (rotate_left; (· exact rfl); rotate_right; (· assumption)) | ((· assumption); (· exact rfl))); (· exact rfl); (· exact rfl)) | (apply Loads.rrow; (· assumption); (first | (rotate_left; (· exact rfl); rotate_right; (· assumption)) | ((· assumption); (· exact rfl))); (· exact rfl); (· exact rfl); (· exact rfl)) | (apply Loads.rrow1; (· assumption); (first | (rotate_left; (· exact rfl); rotate_right; (· assumption)) | ((· assumption); (· exact rfl))); (· exact rfl)) | (apply Loads.rrowF; (· assumption); (first | (rotate_left; (· exact rfl); rotate_right; (· assumption)) | ((· assumption); (· exact rfl))); (· exact rfl); (· exact rfl)) | (apply Loads.rowS; (· (repeat (first | exact List.Mem.head _ | apply List.Mem.tail))); (first | (rotate_left; (· exact rfl); rotate_right; (· assumption)) | ((· assumption); (· exact rfl))); (· exact rfl); (· exact rfl); (· (repeat (first | exact Seg.nil | (apply Seg.cons; (· exact rfl))))))))))); (· exact rfl)))
    · exact ⟨hle, .inl (by rw [hp]; exact hJ)⟩
end Go.Proofs.Ytpghpbknjdnkkaa

/-
  The walks of cluster.wide and of the reference's wide. No condition.
-/
namespace Go.Proofs.Ytpghpbknjdnkkaa
open Go Go.Eng
set_option maxRecDepth 100000
set_option maxHeartbeats 4000000
set_option linter.all false
attribute [local irreducible] WL WC WQ QFun QLoop Does Q1 QRound QAssign Go.Addr.add
attribute [local irreducible] Wide wideT dl from_ pieces readP
theorem wide1_any (c : Nat) (hr : c ≤ 1114111) (w0 : World) (m : Mem) (H : SHeap) : Does Try.prog 63 #[.int .i32 (c : Int)] w0 m H (Gives (.bool (dcd (Wide c))) m H) := by
  refine Does.of_body (args := [.int .i32 (c : Int)]) Try.func63 rfl Try.ntmps63 rfl ?_
  have hp0 : (from_ wideT 0).map Pc.r = wideE := by have := wide_pieces; unfold pieces at this; exact this
  have hw0 := wide_go c
  have hTl := wideT_len
  (refine st ?_; intros; rename_i it)
  rw [← wideT_eq]
  refine WC.loopH [(6, .pointer (some ⟨it, 0, none⟩)), (3, .bool (false)), (0, .int .i32 (c : Int))] ?_ ?_ (fun j r ds m' H' => ∃ (k : Nat) (b : Bool), j = wideT.length - k ∧ r = [(6, .pointer (some ⟨it, 0, none⟩)), (3, .bool b), (0, .int .i32 (c : Int))] ∧ ds = [] ∧ m = m' ∧ H' = .blk it (.stringIter ⟨wideT.toArray⟩ k) :: H ∧ (wideGo ((from_ wideT k).map Pc.r) b c = decide (Wide c)) ∧ (k ≤ wideT.length)) (wideT.length - (0)) ⟨0, false, rfl, rfl, rfl, rfl, rfl, by rw [hp0]; exact hw0, Nat.zero_le _⟩ ?_
  · (repeat (first | exact Env.Sub.nil | refine Env.Sub.cons rfl ?_))
  · exact zpk
  rintro j r ds m' H' ⟨k, b, rfl, rfl, rfl, rfl, rfl, hg, hkl⟩
  by_cases hk : k < wideT.length
  · have hw := readP_w hk
    have hwe := readP_w_eq wideT k
    have hre := readP_r_eq wideT k
    rw [from_cons hk, List.map_cons, hre, hwe] at hg
    cases b with
    | false =>
      rw [show wideGo ((dl (wideT.drop k)).1 :: (from_ wideT (k + (dl (wideT.drop k)).2)).map Pc.r) false c = if c < (dl (wideT.drop k)).1 then false else wideGo ((from_ wideT (k + (dl (wideT.drop k)).2)).map Pc.r) true c from rfl] at hg
      by_cases h1 : c < (dl (wideT.drop k)).1
      · rw [if_pos h1] at hg
        (try (refine st ?_; intros))
        (refine q_fin0 ?_)
        exact Gives.mk (congrArg _ (by rw [dcd_eq]; exact hg))
      · rw [if_neg h1] at hg
        (try (refine st ?_; intros))
        refine WQ.next (wideT.length - (k + (dl (wideT.drop k)).2)) ⟨k + (dl (wideT.drop k)).2, true, rfl, rfl, rfl, rfl, rfl, ?_, ?_⟩ (by omega) zsb zpk
        · exact hg
        · omega
    | true =>
      rw [show wideGo ((dl (wideT.drop k)).1 :: (from_ wideT (k + (dl (wideT.drop k)).2)).map Pc.r) true c = if c ≤ (dl (wideT.drop k)).1 then true else wideGo ((from_ wideT (k + (dl (wideT.drop k)).2)).map Pc.r) false c from rfl] at hg
      by_cases h1 : c ≤ (dl (wideT.drop k)).1
      · rw [if_pos h1] at hg
        (try (refine st ?_; intros))
        (refine q_fin0 ?_)
        exact Gives.mk (congrArg _ (by rw [dcd_eq]; exact hg))
      · rw [if_neg h1] at hg
        (try (refine st ?_; intros))
        refine WQ.next (wideT.length - (k + (dl (wideT.drop k)).2)) ⟨k + (dl (wideT.drop k)).2, false, rfl, rfl, rfl, rfl, rfl, ?_, ?_⟩ (by omega) zsb zpk
        · exact hg
        · omega
  · rw [from_nil hk] at hg
    (try (refine st ?_; intros))
    (refine q_fin0 ?_)
    exact Gives.mk (congrArg _ (by rw [dcd_eq]; exact hg))
end Go.Proofs.Ytpghpbknjdnkkaa

/-
  The walks of cluster.columns and cluster.joins. No condition.
-/
namespace Go.Proofs.Ytpghpbknjdnkkaa
open Go Go.Eng
set_option maxRecDepth 100000
set_option maxHeartbeats 4000000
set_option linter.all false
attribute [local irreducible] WL WC WQ QFun QLoop Does Q1 QRound QAssign Go.Addr.add
attribute [local irreducible] Wide kindN
theorem of_cs {p : Pc} (hr : okr p.r) (w0 : World) (m : Mem) (H : SHeap) : Does Try.prog 45 #[.agg #[.int .i64 (p.at_ : Int), .int .i64 (p.w : Int), .int .i32 (p.r : Int), .bool p.b]] w0 m H (Gives (.int .i64 (kindP p : Int)) m H) := of_any p hr w0 m H
theorem sq_C5_1 {G : Prop} (h : G := by (repeat (first | (refine sp ?_; (repeat intro zzc)) | (refine iF 45 rfl ?_; refine w_callG Try.func45 ?_ (hs := of_cs (by assumption) _ _ _)) | (refine iF 63 rfl ?_; refine w_callG Try.func63 ?_ (hs := wide1_any _ (by omega) _ _ _)))); exact WQ.q1 rfl) : G := h
theorem st_C5_1 {G G' : Prop} (next : G') (h : Bx G' → G := by intro zzn; (first | ((refine st ?_; (repeat intro zzc)); (try ((first | (refine iF 45 rfl ?_; refine w_callG Try.func45 ?_ (hs := of_cs (by assumption) _ _ _)) | (refine iF 63 rfl ?_; refine w_callG Try.func63 ?_ (hs := wide1_any _ (by omega) _ _ _)) | ((refine iDraw ?_; (first | refine WC.drawAll rfl (by decide +kernel) ?_ | refine WC.draw 1 rfl (by decide +kernel) ?_ | refine WC.draw 2 rfl (by decide +kernel) ?_ | refine WC.draw 3 rfl (by decide +kernel) ?_ | refine WC.draw 4 rfl (by decide +kernel) ?_ | refine WC.draw 5 rfl (by decide +kernel) ?_ | refine WC.draw 6 rfl (by decide +kernel) ?_ | refine WC.draw 7 rfl (by decide +kernel) ?_ | refine WC.draw 8 rfl (by decide +kernel) ?_ | refine WC.draw 9 rfl (by decide +kernel) ?_ | refine WC.draw 10 rfl (by decide +kernel) ?_ | refine WC.draw 11 rfl (by decide +kernel) ?_ | refine WC.draw 12 rfl (by decide +kernel) ?_ | refine WC.draw 13 rfl (by decide +kernel) ?_ | refine WC.draw 14 rfl (by decide +kernel) ?_ | refine WC.draw 15 rfl (by decide +kernel) ?_ | refine WC.draw 16 rfl (by decide +kernel) ?_ | refine WC.draw 17 rfl (by decide +kernel) ?_ | refine WC.draw 18 rfl (by decide +kernel) ?_ | refine WC.draw 19 rfl (by decide +kernel) ?_ | refine WC.draw 20 rfl (by decide +kernel) ?_ | refine WC.draw 21 rfl (by decide +kernel) ?_ | refine WC.draw 22 rfl (by decide +kernel) ?_ | refine WC.draw 23 rfl (by decide +kernel) ?_ | refine WC.draw 24 rfl (by decide +kernel) ?_)); (repeat (refine WD.cons rfl (fun c h => by cases h) sq_C5_1 ?_)); refine WD.nil ?_)); (try (refine st ?_; (repeat intro zzc)))))) | ((first | (refine iF 45 rfl ?_; refine w_callG Try.func45 ?_ (hs := of_cs (by assumption) _ _ _)) | (refine iF 63 rfl ?_; refine w_callG Try.func63 ?_ (hs := wide1_any _ (by omega) _ _ _)) | ((refine iDraw ?_; (first | refine WC.drawAll rfl (by decide +kernel) ?_ | refine WC.draw 1 rfl (by decide +kernel) ?_ | refine WC.draw 2 rfl (by decide +kernel) ?_ | refine WC.draw 3 rfl (by decide +kernel) ?_ | refine WC.draw 4 rfl (by decide +kernel) ?_ | refine WC.draw 5 rfl (by decide +kernel) ?_ | refine WC.draw 6 rfl (by decide +kernel) ?_ | refine WC.draw 7 rfl (by decide +kernel) ?_ | refine WC.draw 8 rfl (by decide +kernel) ?_ | refine WC.draw 9 rfl (by decide +kernel) ?_ | refine WC.draw 10 rfl (by decide +kernel) ?_ | refine WC.draw 11 rfl (by decide +kernel) ?_ | refine WC.draw 12 rfl (by decide +kernel) ?_ | refine WC.draw 13 rfl (by decide +kernel) ?_ | refine WC.draw 14 rfl (by decide +kernel) ?_ | refine WC.draw 15 rfl (by decide +kernel) ?_ | refine WC.draw 16 rfl (by decide +kernel) ?_ | refine WC.draw 17 rfl (by decide +kernel) ?_ | refine WC.draw 18 rfl (by decide +kernel) ?_ | refine WC.draw 19 rfl (by decide +kernel) ?_ | refine WC.draw 20 rfl (by decide +kernel) ?_ | refine WC.draw 21 rfl (by decide +kernel) ?_ | refine WC.draw 22 rfl (by decide +kernel) ?_ | refine WC.draw 23 rfl (by decide +kernel) ?_ | refine WC.draw 24 rfl (by decide +kernel) ?_)); (repeat (refine WD.cons rfl (fun c h => by cases h) sq_C5_1 ?_)); refine WD.nil ?_)); (try (refine st ?_; (repeat intro zzc))))); (repeat ((first | (refine iF 45 rfl ?_; refine w_callG Try.func45 ?_ (hs := of_cs (by assumption) _ _ _)) | (refine iF 63 rfl ?_; refine w_callG Try.func63 ?_ (hs := wide1_any _ (by omega) _ _ _)) | ((refine iDraw ?_; (first | refine WC.drawAll rfl (by decide +kernel) ?_ | refine WC.draw 1 rfl (by decide +kernel) ?_ | refine WC.draw 2 rfl (by decide +kernel) ?_ | refine WC.draw 3 rfl (by decide +kernel) ?_ | refine WC.draw 4 rfl (by decide +kernel) ?_ | refine WC.draw 5 rfl (by decide +kernel) ?_ | refine WC.draw 6 rfl (by decide +kernel) ?_ | refine WC.draw 7 rfl (by decide +kernel) ?_ | refine WC.draw 8 rfl (by decide +kernel) ?_ | refine WC.draw 9 rfl (by decide +kernel) ?_ | refine WC.draw 10 rfl (by decide +kernel) ?_ | refine WC.draw 11 rfl (by decide +kernel) ?_ | refine WC.draw 12 rfl (by decide +kernel) ?_ | refine WC.draw 13 rfl (by decide +kernel) ?_ | refine WC.draw 14 rfl (by decide +kernel) ?_ | refine WC.draw 15 rfl (by decide +kernel) ?_ | refine WC.draw 16 rfl (by decide +kernel) ?_ | refine WC.draw 17 rfl (by decide +kernel) ?_ | refine WC.draw 18 rfl (by decide +kernel) ?_ | refine WC.draw 19 rfl (by decide +kernel) ?_ | refine WC.draw 20 rfl (by decide +kernel) ?_ | refine WC.draw 21 rfl (by decide +kernel) ?_ | refine WC.draw 22 rfl (by decide +kernel) ?_ | refine WC.draw 23 rfl (by decide +kernel) ?_ | refine WC.draw 24 rfl (by decide +kernel) ?_)); (repeat (refine WD.cons rfl (fun c h => by cases h) sq_C5_1 ?_)); refine WD.nil ?_)); (try (refine st ?_; (repeat intro zzc))))); (repeat revert zzc); exact zzn.out) : G := h ⟨next⟩
theorem columns_any (p : Pc) (hr : okr p.r) (w0 : World) (m : Mem) (H : SHeap) : Does Try.prog 47 #[p.v] w0 m H (Gives (.int .i64 (colP p : Int)) m H) := by
  have hr1 := okr_le hr
  have hk1 := kindN_le p.r
  have hkb : ∀ h : p.b = true, kindP p = 11 := kindP_b
  have hc : colP p = if kindP p = 11 then 1 else if kindP p = 2 ∨ kindP p = 4 ∨ kindP p = 9 then 0 else if Wide p.r then 2 else 1 := rfl
  unfold Pc.v Pc.cs
  refine Does.of_body (args := [.agg #[.int .i64 (p.at_ : Int), .int .i64 (p.w : Int), .int .i32 (p.r : Int), .bool p.b]]) Try.func47 rfl Try.ntmps47 rfl ?_
  (try (refine st_C5_1 ?_; intros))
  generalize kindP p = k at *
  by_cases h1 : k = 11
  · subst h1
    (try (refine st_C5_1 ?_; intros))
    (refine q_fin0 ?_)
    exact Gives.mk (by rw [hc]; rfl)
  by_cases h2 : k = 2
  · subst h2
    (try (refine st_C5_1 ?_; intros))
    (refine q_fin0 ?_)
    exact Gives.mk (by rw [hc]; rfl)
  by_cases h3 : k = 4
  · subst h3
    (try (refine st_C5_1 ?_; intros))
    (refine q_fin0 ?_)
    exact Gives.mk (by rw [hc]; rfl)
  by_cases h4 : k = 9
  · subst h4
    (try (refine st_C5_1 ?_; intros))
    (refine q_fin0 ?_)
    exact Gives.mk (by rw [hc]; rfl)
  rw [if_neg h1, if_neg (by omega)] at hc
  by_cases h5 : Wide p.r
  · rw [if_pos h5] at hc
    (try (refine st_C5_1 ?_; intros))
    (refine q_fin0 ?_)
    exact Gives.mk (by rw [hc]; rfl)
  · rw [if_neg h5] at hc
    (try (refine st_C5_1 ?_; intros))
    (refine q_fin0 ?_)
    exact Gives.mk (by rw [hc]; rfl)
theorem joins_any (h : Nat) (q p : Pc) (hr : okr p.r) (w0 : World) (m : Mem) (H : SHeap) : Does Try.prog 46 #[.int .i64 (h : Int), q.v, p.v] w0 m H (Gives (.bool (dcd (Joins h q p))) m H) := by
  have hr1 := okr_le hr
  have hj : Joins h q p ↔ (p.b = false ∧ (kindP p = 2 ∨ p.r = 8205 ∨ (h = 10 ∧ kindP p = 10 ∧ q.r = 8205))) := Iff.rfl
  obtain ⟨J, hJ⟩ : ∃ J, dcd (Joins h q p) = J := ⟨_, rfl⟩
  rw [dcd_eq] at hJ
  unfold Pc.v Pc.cs
  refine Does.of_body (args := [.int .i64 (h : Int), .agg #[.int .i64 (q.at_ : Int), .int .i64 (q.w : Int), .int .i32 (q.r : Int), .bool q.b], .agg #[.int .i64 (p.at_ : Int), .int .i64 (p.w : Int), .int .i32 (p.r : Int), .bool p.b]]) Try.func46 rfl Try.ntmps46 rfl ?_
  by_cases hb : p.b = true
  · (try (refine st_C5_1 ?_; intros))
    (refine q_fin0 ?_)
    exact Gives.mk (congrArg _ (fls_iff (fun g => by rw [hj, hb] at g; cases g.1)))
  · have hb' : p.b = false := by simpa using hb
    (try (refine st_C5_1 ?_; intros))
    rw [hb'] at hj
    generalize kindP p = k at *
    by_cases h1 : k = 2
    · (try (refine st_C5_1 ?_; intros))
      (refine q_fin0 ?_)
      exact Gives.mk (congrArg _ (tru_iff (hj.2 ⟨rfl, .inl h1⟩)))
    by_cases h2 : p.r = 8205
    · (try (refine st_C5_1 ?_; intros))
      (refine q_fin0 ?_)
      exact Gives.mk (congrArg _ (tru_iff (hj.2 ⟨rfl, .inr (.inl h2)⟩)))
    by_cases h3 : h = 10
    · by_cases h4 : k = 10
      · (try (refine st_C5_1 ?_; intros))
        (refine q_fin0 ?_)
        exact Gives.mk (congrArg _ (dcd_cong (by rw [hj]; simp only [true_and]; omega)))
      · (try (refine st_C5_1 ?_; intros))
        (refine q_fin0 ?_)
        exact Gives.mk (congrArg _ (fls_iff (by rw [hj]; simp only [true_and]; omega)))
    · (try (refine st_C5_1 ?_; intros))
      (refine q_fin0 ?_)
      exact Gives.mk (congrArg _ (fls_iff (by rw [hj]; simp only [true_and]; omega)))
end Go.Proofs.Ytpghpbknjdnkkaa

/-
  The walk of the iterator cluster.Each. No condition.
-/
namespace Go.Proofs.Ytpghpbknjdnkkaa
open Go Go.Eng
set_option maxRecDepth 100000
set_option maxHeartbeats 4000000
set_option linter.all false
attribute [local irreducible] WL WC WQ QFun QLoop Does Q1 QRound QAssign Go.Addr.add
attribute [local irreducible] Wide kindN kindP colP Joins Glue readP pieces dl from_ clGo
theorem each_any (l : List UInt8) (w0 : World) (m : Mem) (H : SHeap) : Does Try.prog 17 #[str l] w0 m H (IterOf 43 l m H) := by
  refine Does.of_body (args := [str l]) Try.func17 rfl Try.ntmps17 rfl ?_
  (try (refine st ?_; intros))
  apply WQ.fin
  · (first | (apply res_tmp; (· exact rfl); (· exact rfl)) | (apply res_cell; (· exact rfl); (· exact rfl); (· (first | (apply Loads.one; (· exact rfl); (· first | (apply Cell.blk; (· (repeat (first | exact List.Mem.head _ | apply List.Mem.tail))); (· exact rfl)) | (apply Cell.mem; (· assumption); (· exact rfl)))) | (apply Loads.whole; (· exact rfl); (· exact rfl); (· (repeat (first | exact List.Mem.head _ | apply List.Mem.tail))); (· exact rfl)) | (apply Loads.blk; (· exact rfl); (· exact rfl); (· (repeat (first | exact List.Mem.head _ | apply List.Mem.tail))); (· (repeat (first | exact Seg.nil | (apply Seg.cons; (· exact rfl)))))) | (apply Loads.row; (· (repeat (first | exact List.Mem.head _ | apply List.Mem.tail))); (first | (rotate_left; (· exact rfl); rotate_right; (· assumption)) | ((· assumption); (· exact rfl))); (· exact rfl); (· exact rfl); (· exact rfl)) | (apply Loads.row1; (· (repeat (first | exact List.Mem.head _ | apply List.Mem.tail))); (first | (rotate_left; (· exact rfl); rotate_right; (· assumption)) | ((· assumption); (· exact rfl))); (· exact rfl)) | (apply Loads.rowF; (· (repeat (first | exact List.Mem.head _ | apply List.Mem.tail))); (first | (rotate_left; (· exact rfl); rotate_right; (· assumption)) | ((· assumption); (· exact rfl))); (· exact rfl); (· exact rfl)) | (apply Loads.prow; (· assumption); (first | (rotate_left; (· exact rfl); rotate_right; (· assumption)) | ((· assumption); (· exact rfl))); (· exact rfl); (· exact rfl); (· exact rfl)) | (apply Loads.prow1; (· assumption); (first | (rotate_left; (· exact rfl); rotate_right; (· assumption)) | ((· assumption); (· exact rfl))); (· exact rfl)) | (apply Loads.prowF; (· assumption); (first | (rotate_left; (· exact rfl); rotate_right; (· assumption)) | ((· assumption); (· exact rfl))); (· exact rfl); (· exact rfl)) | (apply Loads.rrow; (· assumption); (first | (rotate_left; (· exact rfl); rotate_right; (· assumption)) | ((· assumption); (· exact rfl))); (· exact rfl); (· exact rfl); (· exact rfl)) | (apply Loads.rrow1; (· assumption); (first | (rotate_left; (· exact rfl); rotate_right; (· assumption)) | ((· assumption); (· exact rfl))); (· exact rfl)) | (apply Loads.rrowF; (· assumption); (first | (rotate_left; (· exact rfl); rotate_right; (· assumption)) | ((· assumption); (· exact rfl))); (· exact rfl); (· exact rfl)) | (apply Loads.rowS; (· (repeat (first | exact List.Mem.head _ | apply List.Mem.tail))); (first | (rotate_left; (· exact rfl); rotate_right; (· assumption)) | ((· assumption); (· exact rfl))); (· exact rfl); (· exact rfl); (· (repeat (first | exact Seg.nil | (apply Seg.cons; (· exact rfl))))))))) | (apply res_none; exact rfl) | (apply res_many; (· exact rfl); (· repeat (first | exact ResAll.nil | (apply ResAll.tmp; (· exact rfl)) | (apply ResAll.cell; (· exact rfl); (· (first | (apply Loads.one; (· exact rfl); (· first | (apply Cell.blk; (· (repeat (first | exact List.Mem.head _ | apply List.Mem.tail))); (· exact rfl)) | (apply Cell.mem; (· assumption); (· exact rfl)))) | (apply Loads.whole; (· exact rfl); (· exact rfl); (· (repeat (first | exact List.Mem.head _ | apply List.Mem.tail))); (· exact rfl)) | (apply Loads.blk; (· exact rfl); (· exact rfl); (· (repeat (first | exact List.Mem.head _ | apply List.Mem.tail))); (· (repeat (first | exact Seg.nil | (apply Seg.cons; (· exact rfl)))))) | (apply Loads.row; (· (repeat (first | exact List.Mem.head _ | apply List.Mem.tail))); (first | (rotate_left; (· exact rfl); rotate_right; (· assumption)) | ((· assumption); (· exact rfl))); (· exact rfl); (· exact rfl); (· exact rfl)) | (apply Loads.row1; (· (repeat (first | exact List.Mem.head _ | apply List.Mem.tail))); (first | (rotate_left; (· exact rfl); rotate_right; (· assumption)) | ((· assumption); (· exact rfl))); (· exact rfl)) | (apply Loads.rowF; (· (repeat (first | exact List.Mem.head _ | apply List.Mem.tail))); (first | (rotate_left; (· exact rfl); rotate_right; (· assumption)) | ((· assumption); (· exact rfl))); (· exact rfl); (· exact rfl)) | (apply Loads.prow; (· assumption); (first | (rotate_left; (· exact rfl); rotate_right; (· assumption)) | ((· assumption); (· exact rfl))); (· exact rfl); (· exact rfl); (· exact rfl)) | (apply Loads.prow1; (· assumption); (first | (rotate_left; (· exact rfl); rotate_right; (· assumption)) | ((· assumption); (· exact rfl))); (· exact rfl)) | (apply Loads.prowF; (· assumption); (first | (rotate_left; (· exact rfl); rotate_right; (· assumption)) | ((· assumption); (· exact rfl))); (· exact rfl); (· exact rfl)) | (apply Loads.rrow; (· assumption); (first | (rotate_left; (· exact rfl); rotate_right; (· assumption)) | ((· assumption); (· exact rfl))); (· exact rfl); (· exact rfl); (· exact rfl)) | (apply Loads.rrow1; (· assumption); (first | (rotate_left; (· exact rfl); rotate_right; (· assumption)) | ((· assumption); (· exact rfl))); (· exact rfl)) | (apply Loads.rrowF; (· assumption); (first | (rotate_left; (· exact rfl); rotate_right; (· assumption)) | ((· assumption); (· exact rfl))); (· exact rfl); (· exact rfl)) | (apply Loads.rowS; (· (repeat (first | exact List.Mem.head _ | apply List.Mem.tail))); (first | (rotate_left; (· exact rfl); rotate_right; (· assumption)) | ((· assumption); (· exact rfl))); (· exact rfl); (· exact rfl); (· (repeat (first | exact Seg.nil | (apply Seg.cons; (· exact rfl))))))))))); (· exact rfl)))
  · exact ⟨_, rfl, rfl, rfl⟩
/-- what Each's iterator holds: whether a cluster is open, its last piece, its head's kind, itself; yield -/
def heldC (bo bl bh bn by_ lp : Nat) (o : Bool) (q : Pc) (h : Nat) (c : Cl) : SHeap :=
  [.blk bo (.cells [.bool o].toArray 4 (0, 0)), .blk bl (.cells q.cs.toArray 73 (0, 0)), .blk bh (.cells [.int .i64 (h : Int)].toArray 71 (0, 0)), .blk bn (.cells c.cs.toArray 38 (0, 0)), .blk by_ (.cells [.func (.yield lp) #[] #[]].toArray 70 (0, 0))]
def openC (o : Bool) (q : Pc) (h : Nat) (c : Cl) : Option (Cl × Nat × Pc) := if o then some (c, h, q) else none
/-- where the iterator stands behind some pieces -/
def AtC (l : List UInt8) (bo bl bh bn by_ lp : Nat) (J : List Cl → Mem → SHeap → Prop) (pre : List Pc) (m' : Mem) (Hl : SHeap) : Prop :=
  ∃ (o : Bool) (q : Pc) (h : Nat) (c : Cl) (told : List Cl) (H1 : SHeap), (∀ post, clGo none (pre ++ post) = told ++ clGo (openC o q h c) post) ∧ Hl = heldC bo bl bh bn by_ lp o q h c ++ H1 ∧ J told m' H1
/-- where it was left -/
def LeftC (l : List UInt8) (Jx : List Cl → Mem → SHeap → Prop) (cd : Code) (m' : Mem) (Hl : SHeap) : Prop :=
  cd = .ret ∧ ∃ (X H1 : SHeap) (told : List Cl), Hl = X ++ H1 ∧ told <+: clusters l ∧ Jx told m' H1
theorem sq_C6_1 {G : Prop} (h : G := by (repeat (first | (refine sp ?_; (repeat intro zzc)) | (refine iF 45 rfl ?_; refine w_callG Try.func45 ?_ (hs := of_any _ (by assumption) _ _ _)) | (refine iF 47 rfl ?_; refine w_callG Try.func47 ?_ (hs := columns_any _ (by assumption) _ _ _)) | (refine iF 46 rfl ?_; refine w_callG Try.func46 ?_ (hs := joins_any _ _ _ (by assumption) _ _ _)))); exact WQ.q1 rfl) : G := h
theorem cm_C6_1 {G G' : Prop} (next : G') (h : Bx G' → G := by intro zzn; (try (refine wcal 0 ?_ (hwl := by intro zm zF zle; exact sq_C6_1))); (try (refine wcal 1 ?_ (hwl := by intro zm zF zle; exact sq_C6_1))); (try (refine wcal 2 ?_ (hwl := by intro zm zF zle; exact sq_C6_1))); (try (refine wcal 3 ?_ (hwl := by intro zm zF zle; exact sq_C6_1))); (try (refine wcal 4 ?_ (hwl := by intro zm zF zle; exact sq_C6_1))); (try (refine wcal 5 ?_ (hwl := by intro zm zF zle; exact sq_C6_1))); (try (refine wcal 6 ?_ (hwl := by intro zm zF zle; exact sq_C6_1))); (try (refine wcal 7 ?_ (hwl := by intro zm zF zle; exact sq_C6_1))); (try (refine wcal 8 ?_ (hwl := by intro zm zF zle; exact sq_C6_1))); (try (refine wcal 9 ?_ (hwl := by intro zm zF zle; exact sq_C6_1))); (try (refine wcal 10 ?_ (hwl := by intro zm zF zle; exact sq_C6_1))); (try (refine wcal 11 ?_ (hwl := by intro zm zF zle; exact sq_C6_1))); (try (refine wcal 12 ?_ (hwl := by intro zm zF zle; exact sq_C6_1))); (try (refine wcal 13 ?_ (hwl := by intro zm zF zle; exact sq_C6_1))); (try (refine wcal 14 ?_ (hwl := by intro zm zF zle; exact sq_C6_1))); (try (refine wcal 15 ?_ (hwl := by intro zm zF zle; exact sq_C6_1))); (try (refine wcal 16 ?_ (hwl := by intro zm zF zle; exact sq_C6_1))); (try (refine wcal 17 ?_ (hwl := by intro zm zF zle; exact sq_C6_1))); (try (refine wcal 18 ?_ (hwl := by intro zm zF zle; exact sq_C6_1))); (try (refine wcal 19 ?_ (hwl := by intro zm zF zle; exact sq_C6_1))); (try (refine wcal 20 ?_ (hwl := by intro zm zF zle; exact sq_C6_1))); (try (refine wcal 21 ?_ (hwl := by intro zm zF zle; exact sq_C6_1))); (try (refine wcal 22 ?_ (hwl := by intro zm zF zle; exact sq_C6_1))); (try (refine wcal 23 ?_ (hwl := by intro zm zF zle; exact sq_C6_1))); (try (refine wcal 24 ?_ (hwl := by intro zm zF zle; exact sq_C6_1))); (try (refine wcal 25 ?_ (hwl := by intro zm zF zle; exact sq_C6_1))); (try (refine wcal 26 ?_ (hwl := by intro zm zF zle; exact sq_C6_1))); (try (refine wcal 27 ?_ (hwl := by intro zm zF zle; exact sq_C6_1))); (try (refine wcal 28 ?_ (hwl := by intro zm zF zle; exact sq_C6_1))); (try (refine wcal 29 ?_ (hwl := by intro zm zF zle; exact sq_C6_1))); (try (refine wcal 30 ?_ (hwl := by intro zm zF zle; exact sq_C6_1))); (try (refine wcal 31 ?_ (hwl := by intro zm zF zle; exact sq_C6_1))); (try (refine wcal 32 ?_ (hwl := by intro zm zF zle; exact sq_C6_1))); (try (refine wcal 33 ?_ (hwl := by intro zm zF zle; exact sq_C6_1))); (try (refine wcal 34 ?_ (hwl := by intro zm zF zle; exact sq_C6_1))); (try (refine wcal 35 ?_ (hwl := by intro zm zF zle; exact sq_C6_1))); (try (refine wcal 36 ?_ (hwl := by intro zm zF zle; exact sq_C6_1))); (try (refine wcal 37 ?_ (hwl := by intro zm zF zle; exact sq_C6_1))); (try (refine wcal 38 ?_ (hwl := by intro zm zF zle; exact sq_C6_1))); (try (refine wcal 39 ?_ (hwl := by intro zm zF zle; exact sq_C6_1))); (try (refine wcal 40 ?_ (hwl := by intro zm zF zle; exact sq_C6_1))); (try (refine wcal 41 ?_ (hwl := by intro zm zF zle; exact sq_C6_1))); exact zzn.out) : G := h ⟨next⟩
theorem st_C6_1 {G G' : Prop} (next : G') (h : Bx G' → G := by intro zzn; (first | ((refine st ?_; (repeat intro zzc)); (try ((first | (refine iF 45 rfl ?_; refine w_callG Try.func45 ?_ (hs := of_any _ (by assumption) _ _ _)) | (refine iF 47 rfl ?_; refine w_callG Try.func47 ?_ (hs := columns_any _ (by assumption) _ _ _)) | (refine iF 46 rfl ?_; refine w_callG Try.func46 ?_ (hs := joins_any _ _ _ (by assumption) _ _ _)) | ((refine iDraw ?_; (first | refine WC.drawAll rfl (by decide +kernel) ?_ | refine WC.draw 1 rfl (by decide +kernel) ?_ | refine WC.draw 2 rfl (by decide +kernel) ?_ | refine WC.draw 3 rfl (by decide +kernel) ?_ | refine WC.draw 4 rfl (by decide +kernel) ?_ | refine WC.draw 5 rfl (by decide +kernel) ?_ | refine WC.draw 6 rfl (by decide +kernel) ?_ | refine WC.draw 7 rfl (by decide +kernel) ?_ | refine WC.draw 8 rfl (by decide +kernel) ?_ | refine WC.draw 9 rfl (by decide +kernel) ?_ | refine WC.draw 10 rfl (by decide +kernel) ?_ | refine WC.draw 11 rfl (by decide +kernel) ?_ | refine WC.draw 12 rfl (by decide +kernel) ?_ | refine WC.draw 13 rfl (by decide +kernel) ?_ | refine WC.draw 14 rfl (by decide +kernel) ?_ | refine WC.draw 15 rfl (by decide +kernel) ?_ | refine WC.draw 16 rfl (by decide +kernel) ?_ | refine WC.draw 17 rfl (by decide +kernel) ?_ | refine WC.draw 18 rfl (by decide +kernel) ?_ | refine WC.draw 19 rfl (by decide +kernel) ?_ | refine WC.draw 20 rfl (by decide +kernel) ?_ | refine WC.draw 21 rfl (by decide +kernel) ?_ | refine WC.draw 22 rfl (by decide +kernel) ?_ | refine WC.draw 23 rfl (by decide +kernel) ?_ | refine WC.draw 24 rfl (by decide +kernel) ?_)); (repeat (refine WD.cons rfl (fun c h => by cases h) sq_C6_1 ?_)); refine WD.nil ?_)); (try (refine st ?_; (repeat intro zzc)))))) | ((first | (refine iF 45 rfl ?_; refine w_callG Try.func45 ?_ (hs := of_any _ (by assumption) _ _ _)) | (refine iF 47 rfl ?_; refine w_callG Try.func47 ?_ (hs := columns_any _ (by assumption) _ _ _)) | (refine iF 46 rfl ?_; refine w_callG Try.func46 ?_ (hs := joins_any _ _ _ (by assumption) _ _ _)) | ((refine iDraw ?_; (first | refine WC.drawAll rfl (by decide +kernel) ?_ | refine WC.draw 1 rfl (by decide +kernel) ?_ | refine WC.draw 2 rfl (by decide +kernel) ?_ | refine WC.draw 3 rfl (by decide +kernel) ?_ | refine WC.draw 4 rfl (by decide +kernel) ?_ | refine WC.draw 5 rfl (by decide +kernel) ?_ | refine WC.draw 6 rfl (by decide +kernel) ?_ | refine WC.draw 7 rfl (by decide +kernel) ?_ | refine WC.draw 8 rfl (by decide +kernel) ?_ | refine WC.draw 9 rfl (by decide +kernel) ?_ | refine WC.draw 10 rfl (by decide +kernel) ?_ | refine WC.draw 11 rfl (by decide +kernel) ?_ | refine WC.draw 12 rfl (by decide +kernel) ?_ | refine WC.draw 13 rfl (by decide +kernel) ?_ | refine WC.draw 14 rfl (by decide +kernel) ?_ | refine WC.draw 15 rfl (by decide +kernel) ?_ | refine WC.draw 16 rfl (by decide +kernel) ?_ | refine WC.draw 17 rfl (by decide +kernel) ?_ | refine WC.draw 18 rfl (by decide +kernel) ?_ | refine WC.draw 19 rfl (by decide +kernel) ?_ | refine WC.draw 20 rfl (by decide +kernel) ?_ | refine WC.draw 21 rfl (by decide +kernel) ?_ | refine WC.draw 22 rfl (by decide +kernel) ?_ | refine WC.draw 23 rfl (by decide +kernel) ?_ | refine WC.draw 24 rfl (by decide +kernel) ?_)); (repeat (refine WD.cons rfl (fun c h => by cases h) sq_C6_1 ?_)); refine WD.nil ?_)); (try (refine st ?_; (repeat intro zzc))))); (repeat ((first | (refine iF 45 rfl ?_; refine w_callG Try.func45 ?_ (hs := of_any _ (by assumption) _ _ _)) | (refine iF 47 rfl ?_; refine w_callG Try.func47 ?_ (hs := columns_any _ (by assumption) _ _ _)) | (refine iF 46 rfl ?_; refine w_callG Try.func46 ?_ (hs := joins_any _ _ _ (by assumption) _ _ _)) | ((refine iDraw ?_; (first | refine WC.drawAll rfl (by decide +kernel) ?_ | refine WC.draw 1 rfl (by decide +kernel) ?_ | refine WC.draw 2 rfl (by decide +kernel) ?_ | refine WC.draw 3 rfl (by decide +kernel) ?_ | refine WC.draw 4 rfl (by decide +kernel) ?_ | refine WC.draw 5 rfl (by decide +kernel) ?_ | refine WC.draw 6 rfl (by decide +kernel) ?_ | refine WC.draw 7 rfl (by decide +kernel) ?_ | refine WC.draw 8 rfl (by decide +kernel) ?_ | refine WC.draw 9 rfl (by decide +kernel) ?_ | refine WC.draw 10 rfl (by decide +kernel) ?_ | refine WC.draw 11 rfl (by decide +kernel) ?_ | refine WC.draw 12 rfl (by decide +kernel) ?_ | refine WC.draw 13 rfl (by decide +kernel) ?_ | refine WC.draw 14 rfl (by decide +kernel) ?_ | refine WC.draw 15 rfl (by decide +kernel) ?_ | refine WC.draw 16 rfl (by decide +kernel) ?_ | refine WC.draw 17 rfl (by decide +kernel) ?_ | refine WC.draw 18 rfl (by decide +kernel) ?_ | refine WC.draw 19 rfl (by decide +kernel) ?_ | refine WC.draw 20 rfl (by decide +kernel) ?_ | refine WC.draw 21 rfl (by decide +kernel) ?_ | refine WC.draw 22 rfl (by decide +kernel) ?_ | refine WC.draw 23 rfl (by decide +kernel) ?_ | refine WC.draw 24 rfl (by decide +kernel) ?_)); (repeat (refine WD.cons rfl (fun c h => by cases h) sq_C6_1 ?_)); refine WD.nil ?_)); (try (refine st ?_; (repeat intro zzc))))); (repeat revert zzc); exact zzn.out) : G := h ⟨next⟩
theorem each_seq (l : List UInt8) (hl : l.length ≤ 9223372036854775800) (b : Nat) : SeqM Try.prog 43 [.pointer (some ⟨b, 0, none⟩)] (fun c : Cl => [c.v]) (clusters l) (TextAt b l) := by
  intro w0 lp J Jx m H mJ mX hcap h0 hY
  have hcap' : m b = some (.cells [str l].toArray 9 (0, 0)) := hcap
  refine Does.of_body Try.func43 rfl Try.ntmps43 rfl ?_
  (refine st_C6_1 ?_; intros; rename_i by_ bn bh bl bo)
  refine w_callF Try.func44 ?_ (hs := pieces_any _ _ _ _)
  rintro v m H0 ⟨bs, rfl, rfl, rfl⟩
  refine WL.persist (b := bs) (by (repeat (first | exact Out.here | apply Out.there))) ?_
  intro m1 hle1 hbs
  (try (refine st_C6_1 ?_; intros))
  refine WC.rangeFunc (encs := fun p : Pc => [p.v]) (xs := pieces l) (Cap := TextAt bs l) (lb := [.pointer (some ⟨bs, 0, none⟩)]) (ps := [11]) (Hc := [])
    (J := fun pre m' Hl => m.le m' ∧ AtC l bo bl bh bn by_ lp J pre m' Hl) (Jx := fun cd _ m' Hl => LeftC l Jx cd m' Hl)
    rfl Try.func60 rfl rfl (pieces_seq l (by omega) bs) hbs (fun _ => rfl) rfl Tail.all ?_ ?_ ?_ ?_
  · exact ⟨hle1, false, ⟨0, 0, 0, false⟩, 0, ⟨0, 0, 0⟩, [], H, fun _ => rfl, rfl, mJ _ _ _ _ h0 hle1⟩
  · rintro lp2 pre p post hx m2 Hl ⟨hle2, o, q, h, c, told, H1, hcl, rfl, hJ⟩ hm2 Hfr hfr
    have hmw := mem_w (l := l) (p := p) (by rw [hx]; simp)
    have hpr : okr p.r := by
      have hsp := pieces_split (pre := pre) (p := p) (post := post) hx
      rw [hsp.2.1]; exact readP_ok hsp.1
    have hat : (p.at_ : Int) + (p.w : Int) = ((p.at_ + p.w : Nat) : Int) := by omega
    simp only [heldC, List.cons_append, List.nil_append, List.append_assoc]
    (refine st_C6_1 ?_; intros; rename_i bp)
    refine WQ.assignedIn (.cons (.cons (.cons (.cons (.cons (.cons Tail.app)))))) (Mem.le.refl _) ?_
    intro Hfr2 hfr2
    simp only [List.cons_append]
    (try (refine st_C6_1 ?_; intros))
    refine WC.join (fun r' ds' m5 H5 => ∃ (o : Bool) (q : Pc) (h : Nat) (c : Cl) (told2 : List Cl) (H6 : SHeap), r' = [(8, .int .i64 (kindP p : Int)), (7, .pointer (some ⟨bp, 0, none⟩)), (6, .pointer (some ⟨bo, 0, none⟩)), (5, .pointer (some ⟨bl, 0, none⟩)), (4, .pointer (some ⟨bh, 0, none⟩)), (3, .pointer (some ⟨bn, 0, none⟩)), (2, .pointer (some ⟨by_, 0, none⟩))] ∧ ds' = [] ∧ m2.le m5 ∧
      H5 = .blk bp (.cells p.cs.toArray 73 (0, 0)) :: (heldC bo bl bh bn by_ lp o q h c ++ (H6 ++ Hfr2)) ∧ (∀ post, clGo none (pre ++ p :: post) = told2 ++ clGo (some (headC p, kindP p, p)) post) ∧ J told2 m5 H6) ?_ ?_
    · cases o with
      | false =>
        (try (refine st_C6_1 ?_; intros))
        exact WQ.join ⟨false, q, h, c, told, H1, rfl, rfl, Mem.le.refl _, rfl, fun post => by rw [hcl]; exact congrArg _ (clGo_none p post), hJ⟩ zsb zpk
      | true =>
        have hcl' : ∀ post, clGo none (pre ++ p :: post) = told ++ clGo (some (c, h, q)) (p :: post) := fun post => hcl (p :: post)
        by_cases hG : Glue h q p
        · have hon : ∀ post, clGo none ((pre ++ [p]) ++ post) = told ++ clGo (openC true p h (c.ext p)) post := fun post => by
            rw [List.append_assoc]
            exact (hcl' post).trans (by rw [clGo_glue hG]; rfl)
          by_cases hcr : q.r = 13 ∧ p.r = 10
          · obtain ⟨g1, g2⟩ := hcr
            have hc0 : colP p = 0 := by
              have hb : p.b = false := by
                cases hb : p.b with
                | false => rfl
                | true => have := (pc_broken (l := l) (p := p) (by rw [hx]; simp)).1 hb; omega
              unfold colP; rw [kindP_r hb, g2, kind_lf]; rfl
            (try (refine st_C6_1 ?_; intros))
            rw [hat, show (c.c : Int) = ((max c.c (colP p) : Nat) : Int) by rw [hc0]; omega]
            exact WQ.roundOn (Hl := heldC bo bl bh bn by_ lp true p h (c.ext p) ++ H1) (fun w h => h.drop) (Mem.le.refl _) ⟨hle2, true, p, h, c.ext p, told, H1, hon, rfl, hJ⟩
          · have hcs : (q.r = 13 ∧ p.r ≠ 10 ∨ q.r ≠ 13) ∧ h ≠ 11 ∧ h ≠ 4 ∧ h ≠ 9 ∧ Joins h q p := by
              unfold Glue at hG
              by_cases g1 : q.r = 13 <;> by_cases g2 : p.r = 10 <;> simp_all
            obtain ⟨hq, g3, g4, g5, g6⟩ := hcs
            have hmx : max (c.c : Int) (colP p : Int) = ((max c.c (colP p) : Nat) : Int) := by omega
            rcases hq with ⟨g1, g2⟩ | g1
            all_goals
              (try (refine st_C6_1 ?_; intros))
              rw [hat, hmx]
              exact WQ.roundOn (Hl := heldC bo bl bh bn by_ lp true p h (c.ext p) ++ H1) (fun w h => h.drop) (Mem.le.refl _) ⟨hle2, true, p, h, c.ext p, told, H1, hon, rfl, hJ⟩
        · have hno : ∀ post, clGo none (pre ++ p :: post) = (told ++ [c]) ++ clGo (some (headC p, kindP p, p)) post := fun post => by
            rw [hcl', clGo_free hG]; simp
          have hY1 := hY told c (clGo (some (headC p, kindP p, p)) post) (by unfold clusters; rw [hx, hcl', clGo_free hG])
          have hcs : (q.r = 13 ∧ p.r ≠ 10 ∨ q.r ≠ 13) ∧ (h = 11 ∨ (h ≠ 11 ∧ h = 4) ∨ (h ≠ 11 ∧ h ≠ 4 ∧ h = 9) ∨ (h ≠ 11 ∧ h ≠ 4 ∧ h ≠ 9 ∧ ¬ Joins h q p)) := by
            unfold Glue at hG
            by_cases g1 : q.r = 13 <;> by_cases g2 : p.r = 10 <;> by_cases g3 : h = 11 <;> by_cases g4 : h = 4 <;> by_cases g5 : h = 9 <;> simp_all
          obtain ⟨hq, hh⟩ := hcs
          rcases hq with ⟨g1, g2⟩ | g1 <;> rcases hh with g3 | ⟨g3, g4⟩ | ⟨g3, g4, g5⟩ | ⟨g3, g4, g5, g6⟩
          all_goals
            (try (refine st_C6_1 ?_; intros))
            refine WL.heap (fun w h => h.perm (perm_frame [_, _, _, _, _, _] H1 Hfr2)) ?_
            refine WL.yield (vs := [c.v]) rfl rfl rfl (hY1 m2 H1 _ hJ hle2) ?_ ?_
            · rintro m5 H9 ⟨H5, rfl, hJ5, hle5⟩
              refine WL.heap (fun w h => h.perm (perm_frame [_, _, _, _, _, _] H5 Hfr2).symm) ?_
              simp only [List.cons_append, List.nil_append]
              (try (refine st_C6_1 ?_; intros))
              exact WQ.join ⟨true, q, h, c, told ++ [c], H5, rfl, rfl, hle5, rfl, hno, hJ5⟩ zsb zpk
            · rintro m5 H9 ⟨H5, rfl, hJ5, hle5⟩
              refine WL.heap (fun w h => h.perm (perm_frame [_, _, _, _, _, _] H5 Hfr2).symm) ?_
              simp only [List.cons_append, List.nil_append]
              (try (refine st_C6_1 ?_; intros))
              exact WQ.roundRet (Hl := [_, _, _, _, _, _] ++ H5) (fun w h => by simpa using h) hle5 ⟨rfl, _, H5, told ++ [c], rfl, ⟨clGo (some (headC p, kindP p, p)) post, by unfold clusters; rw [hx, hno]⟩, hJ5⟩
    · rintro r ds m5 H5 ⟨o, q, h, c, told2, H6, rfl, rfl, hm5, rfl, hcl2, hJ6⟩
      simp only [heldC, List.cons_append, List.nil_append]
      (try (refine st_C6_1 ?_; intros))
      refine WC.drawE 5 ([.blk bp (.cells p.cs.toArray 73 (0, 0)), .blk bn (.cells c.cs.toArray 38 (0, 0)), .blk by_ (.cells [.func (.yield lp) #[] #[]].toArray 70 (0, 0))]) (.blk bo (.cells [.bool o].toArray 4 (0, 0)) :: .blk bl (.cells q.cs.toArray 73 (0, 0)) :: .blk bh (.cells [.int .i64 (h : Int)].toArray 71 (0, 0)) :: (H6 ++ Hfr2)) rfl (by decide +kernel) zpk ?_
      (refine cm_C6_1 ?_)
      refine WE.act0 2 (by decide +kernel) rfl rfl (fun c h => by cases h) ?_
      (try (refine st_C6_1 ?_; intros))
      refine WQ.stored (B := []) (U := .blk bo (.cells [.bool true].toArray 4 (0, 0)) :: .blk bl (.cells q.cs.toArray 73 (0, 0)) :: .blk bh (.cells [.int .i64 (h : Int)].toArray 71 (0, 0)) :: (H6 ++ Hfr2)) (Mem.le.refl _) zpk ?_
      (refine cm_C6_1 ?_)
      refine WE.act0 3 (by decide +kernel) rfl rfl (fun c h => by cases h) ?_
      (try (refine st_C6_1 ?_; intros))
      refine WQ.stored (B := []) (U := .blk bo (.cells [.bool true].toArray 4 (0, 0)) :: .blk bl (.cells q.cs.toArray 73 (0, 0)) :: .blk bh (.cells [.int .i64 (kindP p : Int)].toArray 71 (0, 0)) :: (H6 ++ Hfr2)) (Mem.le.refl _) zpk ?_
      (refine cm_C6_1 ?_)
      refine WE.act0 4 (by decide +kernel) rfl rfl (fun c h => by cases h) ?_
      (try (refine st_C6_1 ?_; intros))
      refine WQ.stored (B := []) (U := .blk bo (.cells [.bool true].toArray 4 (0, 0)) :: .blk bl (.cells p.cs.toArray 73 (0, 0)) :: .blk bh (.cells [.int .i64 (kindP p : Int)].toArray 71 (0, 0)) :: (H6 ++ Hfr2)) (Mem.le.refl _) zpk ?_
      refine WE.done (by decide +kernel) ?_
      (try (refine st_C6_1 ?_; intros))
      rw [hat]
      refine WQ.roundOn (Hl := heldC bo bl bh bn by_ lp true p (kindP p) (headC p) ++ H6) zpk (hm5) ⟨hle2.trans hm5, true, p, kindP p, headC p, told2, H6, fun post => ?_, rfl, hJ6⟩
      rw [List.append_assoc]; exact hcl2 post
  · rintro D m2 Hl ⟨hle2, o, q, h, c, told, H1, hcl, rfl, hJ⟩ hm2
    have hcl0 := hcl []
    rw [List.append_nil] at hcl0
    simp only [heldC, List.cons_append, List.nil_append, List.append_assoc]
    cases o with
    | false =>
      have hend : clusters l = told := by unfold clusters; rw [hcl0]; simp [openC, clGo]
      (try (refine st_C6_1 ?_; intros))
      refine WQ.markNorm (H1 := [_, _, _, _, _] ++ H1) (List.perm_append_comm (l₁ := [_, _, _, _, _] ++ H1) (l₂ := [_])) ?_
      exact q_finNorm0 (H0 := H1) ⟨hle2, .inl (by rw [hend]; exact hJ)⟩ (hd := fun w h => h.drop.drop.drop.drop.drop)
    | true =>
      have hend : clusters l = told ++ [c] := by unfold clusters; rw [hcl0]; simp [openC, clGo]
      (try (refine st_C6_1 ?_; intros))
      refine WL.heap (fun w h => h.perm (perm_frame [_, _, _, _, _] H1 [.blk D (.deferred (some []))])) ?_
      refine WL.yield (vs := [c.v]) rfl rfl rfl (hY told c [] (by rw [hend]) m2 H1 _ hJ hle2) ?_ ?_
      · rintro m5 H9 ⟨H5, rfl, hJ5, hle5⟩
        refine WL.heap (fun w h => h.perm (perm_frame [_, _, _, _, _] H5 [.blk D (.deferred (some []))]).symm) ?_
        simp only [List.cons_append, List.nil_append]
        (try (refine st_C6_1 ?_; intros))
        refine WQ.markNorm (H1 := [_, _, _, _, _] ++ H5) (List.perm_append_comm (l₁ := [_, _, _, _, _] ++ H5) (l₂ := [_])) ?_
        exact q_finNorm0 (H0 := H5) ⟨hle2.trans hle5, .inl (by rw [hend]; exact hJ5)⟩ (hd := fun w h => h.drop.drop.drop.drop.drop)
      · rintro m5 H9 ⟨H5, rfl, hJ5, hle5⟩
        refine WL.heap (fun w h => h.perm (perm_frame [_, _, _, _, _] H5 [.blk D (.deferred (some []))]).symm) ?_
        simp only [List.cons_append, List.nil_append]
        (try (refine st_C6_1 ?_; intros))
        refine WQ.markNorm (H1 := [_, _, _, _, _] ++ H5) (List.perm_append_comm (l₁ := [_, _, _, _, _] ++ H5) (l₂ := [_])) ?_
        exact q_finNorm0 (H0 := H5) ⟨hle2.trans hle5, .inr ⟨told ++ [c], ⟨[], by rw [hend, List.append_nil]⟩, hJ5⟩⟩ (hd := fun w h => h.drop.drop.drop.drop.drop)
  · rintro D cd pre2 m4 Hl _ ⟨rfl, X, H4, told', rfl, hpre, hJ4⟩ hm4
    (try (refine st_C6_1 ?_; intros))
    refine WQ.mark (H1 := X ++ H4) List.perm_append_comm ?_
    exact q_fin0 (H0 := H4) ⟨hle1.trans hm4, .inr ⟨told', hpre, hJ4⟩⟩ (hd := fun w h => drops_app h)
end Go.Proofs.Ytpghpbknjdnkkaa

/-
  Plain facts on the clusters of a text: they follow one another; what is found among them. No condition.
-/
namespace Go.Eng
open Go
/-- clusters that follow one another from a place to another one -/
def Ch : Nat → List Cl → Nat → Prop
  | k, [], n => k = n
  | k, c :: cs, n => c.a = k ∧ c.a < c.z ∧ c.c ≤ 2 ∧ Ch c.z cs n
theorem ch_go (l : List UInt8) : ∀ (d k : Nat), l.length - k ≤ d → k ≤ l.length → Ch k (clGo none (from_ l k)) l.length ∧ ∀ (c : Cl) (h : Nat) (q : Pc), c.z = k → c.a < c.z → c.c ≤ 2 → Ch c.a (clGo (some (c, h, q)) (from_ l k)) l.length
  | 0, k, hd, hk => by
    have e : k = l.length := by omega
    rw [from_nil (by omega)]
    exact ⟨e, fun c h q h1 h2 h3 => ⟨rfl, h2, h3, by rw [h1]; exact e⟩⟩
  | d + 1, k, hd, hk => by
    by_cases hlt : k < l.length
    · have hw := readP_w hlt
      have ha := readP_at l k
      obtain ⟨_, ih⟩ := ch_go l d (k + (readP l k).w) (by omega) (by omega)
      have hh := ih (headC (readP l k)) (kindP (readP l k)) (readP l k) (by show (readP l k).at_ + _ = _; rw [ha]) (by show (readP l k).at_ < (readP l k).at_ + _; omega) (colP_le _)
      rw [show (headC (readP l k)).a = k from ha] at hh
      rw [from_cons hlt]
      refine ⟨hh, fun c h q h1 h2 h3 => ?_⟩
      by_cases hg : Glue h q (readP l k)
      · rw [clGo_glue hg]
        have h4 := colP_le (readP l k)
        refine ih (c.ext (readP l k)) h (readP l k) (by show (readP l k).at_ + _ = _; rw [ha]) (by show c.a < (readP l k).at_ + _; omega) ?_
        show max c.c (colP (readP l k)) ≤ 2
        omega
      · rw [clGo_free hg]
        exact ⟨rfl, h2, h3, by rw [h1]; exact hh⟩
    · have e : k = l.length := by omega
      rw [from_nil hlt]
      exact ⟨e, fun c h q h1 h2 h3 => ⟨rfl, h2, h3, by rw [h1]; exact e⟩⟩
theorem ch_all (l : List UInt8) : Ch 0 (clusters l) l.length := (ch_go l l.length 0 (by omega) (Nat.zero_le _)).1
theorem ch_le : ∀ {k n : Nat} {L : List Cl}, Ch k L n → k + L.length ≤ n
  | _, _, [], h => by have : _ = _ := h; simp; omega
  | k, n, c :: cs, h => by
    obtain ⟨h1, h2, _, h3⟩ := h
    have := ch_le h3
    simp only [List.length_cons]; omega
theorem ch_app : ∀ {k n : Nat} {A : List Cl} {c : Cl} {B : List Cl}, Ch k (A ++ c :: B) n → Ch k A c.a ∧ c.a < c.z ∧ c.c ≤ 2 ∧ Ch c.z B n
  | _, _, [], _, _, h => ⟨h.1.symm, h.2.1, h.2.2.1, h.2.2.2⟩
  | _, _, _ :: _, _, _, h => by
    obtain ⟨h1, h2, h3, h4⟩ := h
    obtain ⟨g1, g2, g3, g4⟩ := ch_app h4
    exact ⟨⟨h1, h2, h3, g1⟩, g2, g3, g4⟩
theorem ch_mem {k n : Nat} {L : List Cl} {c : Cl} (h : Ch k L n) (hc : c ∈ L) : k ≤ c.a ∧ c.a < c.z ∧ c.z ≤ n ∧ c.c ≤ 2 := by
  obtain ⟨A, B, rfl⟩ := List.append_of_mem hc
  obtain ⟨h1, h2, h3, h4⟩ := ch_app h
  have g1 := ch_le h1
  have g2 := ch_le h4
  exact ⟨by omega, h2, by omega, h3⟩
theorem clusters_len (l : List UInt8) : (clusters l).length ≤ l.length := by have := ch_le (ch_all l); omega
def sumC (L : List Cl) : Nat := (L.map Cl.c).sum
theorem sumC_snoc (L : List Cl) (c : Cl) : sumC (L ++ [c]) = sumC L + c.c := by simp [sumC]
theorem sumC_app (A B : List Cl) : sumC (A ++ B) = sumC A + sumC B := by simp [sumC]
theorem sumC_cons (c : Cl) (L : List Cl) : sumC (c :: L) = c.c + sumC L := rfl
theorem ch_sum : ∀ {k n : Nat} {L : List Cl}, Ch k L n → sumC L ≤ 2 * L.length
  | _, _, [], _ => Nat.le_refl _
  | _, _, c :: cs, h => by have := ch_sum h.2.2.2; have h3 := h.2.2.1; rw [sumC_cons, List.length_cons]; omega
theorem sum_pre {l : List UInt8} {pre post : List Cl} (h : clusters l = pre ++ post) : sumC pre ≤ 2 * l.length ∧ pre.length ≤ l.length := by
  have h1 := ch_sum (ch_all l)
  have h2 := clusters_len l
  rw [h, sumC_app] at h1
  rw [h] at h2
  simp only [List.length_append] at h1 h2
  omega
/-- the cluster of a place -/
def atC (L : List Cl) (k : Int) : Option Cl := L.find? fun c => decide (k < (c.z : Int))
def atR (L : List Cl) (k : Int) : Option Cl := if k < 0 then none else atC L k
/-- the first cluster that begins not ahead of a place -/
def edgeC (L : List Cl) (k : Int) : Option Cl := L.find? fun c => decide (k ≤ (c.a : Int))
def edgeR (L : List Cl) (k : Int) (n : Nat) : Prop := match edgeC L k with | some c => (c.a : Int) = k | none => k = (n : Int)
instance (L : List Cl) (k : Int) (n : Nat) : Decidable (edgeR L k n) := by unfold edgeR; cases edgeC L k <;> infer_instance
/-- the cluster that takes a column -/
def underC : List Cl → Nat → Int → Option Cl
  | [], _, _ => none
  | c :: cs, n, k => if k < ((n + c.c : Nat) : Int) then some c else underC cs (n + c.c) k
def underR (L : List Cl) (k : Int) : Option Cl := if k < 0 then none else underC L 0 k
/-- what is cut off: its columns, its end -/
def cutC : List Cl → Nat → Nat → Int → Nat × Nat
  | [], n, a, _ => (n, a)
  | c :: cs, n, a, k => if k < ((n + c.c : Nat) : Int) then (n, a) else cutC cs (n + c.c) c.z k
def cutL (l : List UInt8) (k : Int) : Nat × Nat := cutC (clusters l) 0 0 (max k 0)
theorem cutC_le : ∀ {k n : Nat} {L : List Cl}, Ch k L n → ∀ (s : Nat) (j : Int), k ≤ (cutC L s k j).2 ∧ (cutC L s k j).2 ≤ n ∧ s ≤ (cutC L s k j).1 ∧ (cutC L s k j).1 ≤ s + 2 * L.length ∧ ((s : Int) ≤ j → ((cutC L s k j).1 : Int) ≤ j)
  | k, n, [], h, s, j => by have e : k = n := h; unfold cutC; exact ⟨Nat.le_refl _, by omega, Nat.le_refl _, by simp, id⟩
  | k, n, c :: cs, h, s, j => by
    obtain ⟨h1, h2, h3, h4⟩ := h
    unfold cutC
    split
    · have := ch_le h4
      exact ⟨Nat.le_refl _, by simp only; omega, Nat.le_refl _, by simp only; omega, id⟩
    · obtain ⟨g1, g2, g3, g4, g5⟩ := cutC_le h4 (s + c.c) j
      simp only [List.length_cons]
      exact ⟨by omega, by omega, by omega, by omega, fun _ => g5 (by omega)⟩
theorem cutL_le (l : List UInt8) (k : Int) : (cutL l k).2 ≤ l.length ∧ (cutL l k).1 ≤ 2 * l.length ∧ ((cutL l k).1 : Int) ≤ max k 0 := by
  have h := cutC_le (ch_all l) 0 (max k 0)
  have h2 := clusters_len l
  exact ⟨h.2.1, by have := h.2.2.2.1; unfold cutL; omega, h.2.2.2.2 (by omega)⟩
end Go.Eng

/-
  The walks of cluster.Columns, all, Count, Back. No condition.
-/
namespace Go.Proofs.Ytpghpbknjdnkkaa
open Go Go.Eng
set_option maxRecDepth 100000
set_option maxHeartbeats 4000000
set_option linter.all false
attribute [local irreducible] WL WC WQ QFun QLoop Does Q1 QRound QAssign Go.Addr.add
attribute [local irreducible] clusters
/-- a call that hands back a value; memory may have grown -/
def Tells (v : Value) (m : Mem) (H : SHeap) : Value → Mem → SHeap → Prop := fun u m' H' => m.le m' ∧ u = v ∧ H' = H
theorem Tells.mk {v u : Value} {m m' : Mem} {H : SHeap} (hm : m.le m') (h : u = v) : Tells v m H u m' H := ⟨hm, h, rfl⟩
theorem columnsT_any (l : List UInt8) (hl : l.length ≤ 4194304) (w0 : World) (m : Mem) (H : SHeap) : Does Try.prog 16 #[str l] w0 m H (Tells (.int .i64 (sumC (clusters l) : Int)) m H) := by
  refine Does.of_body (args := [str l]) Try.func16 rfl Try.ntmps16 rfl ?_
  (refine st ?_; intros; rename_i b3)
  refine w_callF Try.func17 ?_ (hs := each_any _ _ _ _)
  rintro v m H ⟨b, rfl, rfl, rfl⟩
  (try (refine st ?_; intros))
  refine WC.persist (b := b) (by (repeat (first | exact Out.here | apply Out.there))) ?_
  intro m1 hle1 hb
  refine WC.rangeFuncM (encs := fun c : Cl => [c.v]) (xs := clusters l) (Cap := TextAt b l) (lb := [.pointer (some ⟨b, 0, none⟩)]) (ps := [7])
    (J := fun pre m' Hl => m.le m' ∧ Hl = [.blk b3 (.cells [.int .i64 (sumC pre : Int)].toArray 3 (0, 0))]) (Jx := fun _ _ _ _ => False)
    rfl Try.func43 rfl rfl (each_seq l (by omega) b) hb (fun _ => rfl) rfl (fun _ _ _ _ h hm => ⟨h.1.trans hm, h.2⟩) (fun _ _ _ _ _ h _ => h) (.cons .nil) ⟨hle1, rfl⟩ ?_ ?_ ?_
  · rintro lp pre c post hx m2 Hl ⟨hle2, rfl⟩ hm2 Hfr hfr
    have hs := sum_pre hx
    have hsn := sumC_snoc pre c
    have hcc := (ch_mem (ch_all l) (c := c) (by rw [hx]; simp)).2.2.2
    (try (refine st ?_; intros))
    refine WQ.assigned (.cons (.cons .nil)) (Mem.le.refl _) ?_
    intro Hfr2
    (try (refine st ?_; intros))
    rw [show (sumC pre : Int) + (c.c : Int) = ((sumC (pre ++ [c]) : Nat) : Int) by omega]
    exact WQ.roundOn (Hl := [_]) (fun w h => h.drop) (Mem.le.refl _) ⟨hle2, rfl⟩
  · rintro D m2 Hl ⟨hle2, rfl⟩ hm2
    (try (refine st ?_; intros))
    refine WQ.mark List.perm_middle ?_
    exact q_fin0 (H0 := H) (Tells.mk hle2 rfl) (hd := zpk)
  · intro D cd pre m2 Hl _ h
    exact h.elim
theorem all_any (l : List UInt8) (hl : l.length ≤ 4194304) (w0 : World) (m : Mem) (H : SHeap) : Does Try.prog 48 #[str l] w0 m H (fun v m' H' => m.le m' ∧ ∃ a cp, v = .slice a (clusters l).length cp ∧ H' = .row a cp 38 3 ((clusters l).map Cl.cs) :: H) := by
  refine Does.of_body (args := [str l]) Try.func48 rfl Try.ntmps48 rfl ?_
  (refine st ?_; intros; rename_i b3)
  refine w_callF Try.func17 ?_ (hs := each_any _ _ _ _)
  rintro v m H ⟨b, rfl, rfl, rfl⟩
  (try (refine st ?_; intros))
  refine WC.persist (b := b) (by (repeat (first | exact Out.here | apply Out.there))) ?_
  intro m1 hle1 hb
  refine WC.newRow (T := 38) (sz := 3) ?_
  refine WC.rangeFuncM (encs := fun c : Cl => [c.v]) (xs := clusters l) (Cap := TextAt b l) (lb := [.pointer (some ⟨b, 0, none⟩)]) (ps := [7])
    (J := fun pre m' Hl => m.le m' ∧ ∃ a cp, Hl = [.row a cp 38 3 (pre.map Cl.cs), .blk b3 (.cells [.slice a pre.length cp].toArray 42 (0, 0))]) (Jx := fun _ _ _ _ => False)
    rfl Try.func43 rfl rfl (each_seq l (by omega) b) hb (fun _ => rfl) rfl (fun _ _ _ _ h hm => ⟨h.1.trans hm, h.2⟩) (fun _ _ _ _ _ h _ => h) (.cons (.cons .nil)) ⟨hle1, none, 0, rfl⟩ ?_ ?_ ?_
  · rintro lp pre c post hx m2 Hl ⟨hle2, a, cp, rfl⟩ hm2 Hfr hfr
    have hs := sum_pre hx
    have hpl : (pre.map Cl.cs).length = pre.length := List.length_map _
    (try (refine st ?_; intros))
    refine WQ.assigned (.cons (.cons (.cons .nil))) (Mem.le.refl _) ?_
    intro Hfr2
    (refine st ?_; intros; rename_i b9 a2 cp2)
    rw [hpl]
    exact WQ.roundOn (Hl := [_, .blk b3 _]) zpk (Mem.le.refl _) ⟨hle2, a2, cp2, by rw [List.map_append, List.length_append]; rfl⟩
  · rintro D m2 Hl ⟨hle2, a, cp, rfl⟩ hm2
    (try (refine st ?_; intros))
    refine WQ.mark (H1 := _ :: _ :: _) List.perm_middle ?_
    exact q_fin0 (H0 := .row a cp 38 3 ((clusters l).map Cl.cs) :: H) ⟨hle2, a, cp, rfl, rfl⟩ (hd := zpk)
  · intro D cd pre m2 Hl _ h
    exact h.elim
theorem backC_any (l : List UInt8) (w0 : World) (m : Mem) (H : SHeap) : Does Try.prog 33 #[str l] w0 m H (IterOf 53 l m H) := by
  refine Does.of_body (args := [str l]) Try.func33 rfl Try.ntmps33 rfl ?_
  (try (refine st ?_; intros))
  apply WQ.fin
  · (first | (apply res_tmp; (· exact rfl); (· exact rfl)) | (apply res_cell; (· exact rfl); (· exact rfl); (· (first | (apply Loads.one; (· exact rfl); (· first | (apply Cell.blk; (· (repeat (first | exact List.Mem.head _ | apply List.Mem.tail))); (· exact rfl)) | (apply Cell.mem; (· assumption); (· exact rfl)))) | (apply Loads.whole; (· exact rfl); (· exact rfl); (· (repeat (first | exact List.Mem.head _ | apply List.Mem.tail))); (· exact rfl)) | (apply Loads.blk; (· exact rfl); (· exact rfl); (· (repeat (first | exact List.Mem.head _ | apply List.Mem.tail))); (· (repeat (first | exact Seg.nil | (apply Seg.cons; (· exact rfl)))))) | (apply Loads.row; (· (repeat (first | exact List.Mem.head _ | apply List.Mem.tail))); (first | (rotate_left; (· exact rfl); rotate_right; (· assumption)) | ((· assumption); (· exact rfl))); (· exact rfl); (· exact rfl); (· exact rfl)) | (apply Loads.row1; (· (repeat (first | exact List.Mem.head _ | apply List.Mem.tail))); (first | (rotate_left; (· exact rfl); rotate_right; (· assumption)) | ((· assumption); (· exact rfl))); (· exact rfl)) | (apply Loads.rowF; (· (repeat (first | exact List.Mem.head _ | apply List.Mem.tail))); (first | (rotate_left; (· exact rfl); rotate_right; (· assumption)) | ((· assumption); (· exact rfl))); (· exact rfl); (· exact rfl)) | (apply Loads.prow; (· assumption); (first | (rotate_left; (· exact rfl); rotate_right; (· assumption)) | ((· assumption); (· exact rfl))); (· exact rfl); (· exact rfl); (· exact rfl)) | (apply Loads.prow1; (· assumption); (first | (rotate_left; (· exact rfl); rotate_right; (· assumption)) | ((· assumption); (· exact rfl))); (· exact rfl)) | (apply Loads.prowF; (· assumption); (first | (rotate_left; (· exact rfl); rotate_right; (· assumption)) | ((· assumption); (· exact rfl))); (· exact rfl); (· exact rfl)) | (apply Loads.rrow; (· assumption); (first | (rotate_left; (· exact rfl); rotate_right; (· assumption)) | ((· assumption); (· exact rfl))); (· exact rfl); (· exact rfl); (· exact rfl)) | (apply Loads.rrow1; (· assumption); (first | (rotate_left; (· exact rfl); rotate_right; (· assumption)) | ((· assumption); (· exact rfl))); (· exact rfl)) | (apply Loads.rrowF; (· assumption); (first | (rotate_left; (· exact rfl); rotate_right; (· assumption)) | ((· assumption); (· exact rfl))); (· exact rfl); (· exact rfl)) | (apply Loads.rowS; (· (repeat (first | exact List.Mem.head _ | apply List.Mem.tail))); (first | (rotate_left; (· exact rfl); rotate_right; (· assumption)) | ((· assumption); (· exact rfl))); (· exact rfl); (· exact rfl); (· (repeat (first | exact Seg.nil | (apply Seg.cons; (· exact rfl))))))))) | (apply res_none; exact rfl) | (apply res_many; (· exact rfl); (· repeat (first | exact ResAll.nil | (apply ResAll.tmp; (· exact rfl)) | (apply ResAll.cell; (· exact rfl); (· (first | (apply Loads.one; (· exact rfl); (· first | (apply Cell.blk; (· (repeat (first | exact List.Mem.head _ | apply List.Mem.tail))); (· exact rfl)) | (apply Cell.mem; (· assumption); (· exact rfl)))) | (apply Loads.whole; (· exact rfl); (· exact rfl); (· (repeat (first | exact List.Mem.head _ | apply List.Mem.tail))); (· exact rfl)) | (apply Loads.blk; (· exact rfl); (· exact rfl); (· (repeat (first | exact List.Mem.head _ | apply List.Mem.tail))); (· (repeat (first | exact Seg.nil | (apply Seg.cons; (· exact rfl)))))) | (apply Loads.row; (· (repeat (first | exact List.Mem.head _ | apply List.Mem.tail))); (first | (rotate_left; (· exact rfl); rotate_right; (· assumption)) | ((· assumption); (· exact rfl))); (· exact rfl); (· exact rfl); (· exact rfl)) | (apply Loads.row1; (· (repeat (first | exact List.Mem.head _ | apply List.Mem.tail))); (first | (rotate_left; (· exact rfl); rotate_right; (· assumption)) | ((· assumption); (· exact rfl))); (· exact rfl)) | (apply Loads.rowF; (· (repeat (first | exact List.Mem.head _ | apply List.Mem.tail))); (first | (rotate_left; (· exact rfl); rotate_right; (· assumption)) | ((· assumption); (· exact rfl))); (· exact rfl); (· exact rfl)) | (apply Loads.prow; (· assumption); (first | (rotate_left; (· exact rfl); rotate_right; (· assumption)) | ((· assumption); (· exact rfl))); (· exact rfl); (· exact rfl); (· exact rfl)) | (apply Loads.prow1; (· assumption); (first | (rotate_left; (· exact rfl); rotate_right; (· assumption)) | ((· assumption); (· exact rfl))); (· exact rfl)) | (apply Loads.prowF; (· assumption); (first | (rotate_left; (· exact rfl); rotate_right; (· assumption)) | ((· assumption); (· exact rfl))); (· exact rfl); (· exact rfl)) | (apply Loads.rrow; (· assumption); (first | (rotate_left; (· exact rfl); rotate_right; (· assumption)) | ((· assumption); (· exact rfl))); (· exact rfl); (· exact rfl); (· exact rfl)) | (apply Loads.rrow1; (· assumption); (first | (rotate_left; (· exact rfl); rotate_right; (· assumption)) | ((· assumption); (· exact rfl))); (· exact rfl)) | (apply Loads.rrowF; (· assumption); (first | (rotate_left; (· exact rfl); rotate_right; (· assumption)) | ((· assumption); (· exact rfl))); (· exact rfl); (· exact rfl)) | (apply Loads.rowS; (· (repeat (first | exact List.Mem.head _ | apply List.Mem.tail))); (first | (rotate_left; (· exact rfl); rotate_right; (· assumption)) | ((· assumption); (· exact rfl))); (· exact rfl); (· exact rfl); (· (repeat (first | exact Seg.nil | (apply Seg.cons; (· exact rfl))))))))))); (· exact rfl)))
  · exact ⟨_, rfl, rfl, rfl⟩
theorem backC_seq (l : List UInt8) (hl : l.length ≤ 4194304) (b : Nat) : SeqM Try.prog 53 [.pointer (some ⟨b, 0, none⟩)] (fun c : Cl => [c.v]) (clusters l).reverse (TextAt b l) := by
  intro w0 lp J Jx m H mJ mX hcap h0 hY
  have hcap' : m b = some (.cells [str l].toArray 9 (0, 0)) := hcap
  have hcl := clusters_len l
  refine Does.of_body Try.func53 rfl Try.ntmps53 rfl ?_
  (try (refine st ?_; intros))
  refine w_callF Try.func48 ?_ (hs := all_any l hl _ _ _)
  rintro v m1 H1 ⟨hle1, a, cp, rfl, rfl⟩
  (try (refine st ?_; intros))
  refine WC.rename 4 (u := .int .i64 (((clusters l).length : Int) - 1)) rfl rfl ?_
  refine WC.loopH [(4, .int .i64 ((((clusters l).length) : Int) - 1)), (3, .slice a (clusters l).length cp), (0, .func (.yield lp) #[] #[])] ?_ ?_ (fun j r ds m' H' => ∃ (n : Nat) (mm : Mem) (H2 : SHeap), j = 2 * n ∧ r = [(4, .int .i64 ((n : Int) - 1)), (3, .slice a (clusters l).length cp), (0, .func (.yield lp) #[] #[])] ∧ ds = [] ∧ mm = m' ∧ H' = .row a cp 38 3 ((clusters l).map Cl.cs) :: H2 ∧ (n ≤ (clusters l).length) ∧ (m.le mm) ∧ (J ((clusters l).drop n).reverse mm H2)) (2 * ((clusters l).length)) ⟨(clusters l).length, m1, H, rfl, rfl, rfl, rfl, rfl, Nat.le_refl _, hle1, by rw [List.drop_length]; exact mJ _ _ _ _ h0 hle1⟩ ?_
  · (repeat (first | exact Env.Sub.nil | refine Env.Sub.cons rfl ?_))
  · exact zpk
  rintro j r ds m' H' ⟨n, mm, H2, rfl, rfl, rfl, rfl, rfl, hn, hle, hJ⟩
  rcases Nat.eq_zero_or_pos n with rfl | hn0
  · (try (refine st ?_; intros))
    exact q_finNorm0 (H0 := H2) ⟨hle, .inl hJ⟩ (hd := zpk)
  · have hlt : n - 1 < (clusters l).length := by omega
    obtain ⟨c, hc⟩ : ∃ c, (clusters l)[n - 1] = c := ⟨_, rfl⟩
    have hget : ((clusters l).map Cl.cs)[n - 1]? = some c.cs := by simp [hlt, hc]
    have hel : ((clusters l).map Cl.cs).length = (clusters l).length := List.length_map _
    have hdr : (clusters l).drop (n - 1) = c :: (clusters l).drop n := by
      rw [List.drop_eq_getElem_cons hlt, hc, show n - 1 + 1 = n by omega]
    have htk : (clusters l).reverse = ((clusters l).drop n).reverse ++ c :: ((clusters l).take (n - 1)).reverse := by
      have e : clusters l = (clusters l).take (n - 1) ++ c :: (clusters l).drop n := by rw [← hdr, List.take_append_drop]
      exact (congrArg List.reverse e).trans (by simp)
    have hz : (n : Int) - 1 = ((n - 1 : Nat) : Int) := by omega
    generalize hE : (clusters l).map Cl.cs = E at *
    refine WC.rowSome (a := a) (es := E) zhs (by omega) ?_
    rintro a0 rfl
    rw [hz]
    (try (refine st ?_; intros))
    refine WL.yield (vs := [c.v]) rfl rfl rfl (hY _ c _ htk mm H2 [_] hJ hle) ?_ ?_
    · rintro m2 H9 ⟨H3, rfl, hJ2, hle2⟩
      simp only [List.cons_append, List.nil_append]
      (try (refine st ?_; intros))
      subst hE
      refine WQ.next (2 * (n - 1)) ⟨n - 1, m2, H3, rfl, rfl, rfl, rfl, rfl, ?_, ?_, ?_⟩ (by omega) zsb zpk
      · omega
      · exact hle.trans hle2
      · rw [hdr]; simpa using hJ2
    · rintro m2 H9 ⟨H3, rfl, hJ2, hle2⟩
      simp only [List.cons_append, List.nil_append]
      (try (refine st ?_; intros))
      exact q_fin0 (H0 := H3) ⟨hle.trans hle2, .inr ⟨_, ⟨_, by rw [htk, List.append_assoc]; rfl⟩, hJ2⟩⟩ (hd := zpk)
end Go.Proofs.Ytpghpbknjdnkkaa

/-
  The walks of cluster.At, Edge, Under, Cut. No condition.
-/
namespace Go.Eng
open Go
theorem find_no {α : Type} {p : α → Bool} {pre : List α} {c : α} (h : ∀ post, (pre ++ post).find? p = post.find? p) (hc : p c = false) : ∀ post, ((pre ++ [c]) ++ post).find? p = post.find? p := fun post => by
  rw [List.append_assoc, h, List.cons_append, List.find?_cons, hc]; rfl
theorem find_yes {α : Type} {p : α → Bool} {pre post : List α} {c : α} (h : ∀ post, (pre ++ post).find? p = post.find? p) (hc : p c = true) : (pre ++ c :: post).find? p = some c := by
  rw [h, List.find?_cons, hc]
theorem find_end {α : Type} {p : α → Bool} {l : List α} (h : ∀ post, (l ++ post).find? p = post.find? p) : l.find? p = none := by
  have := h []; rwa [List.append_nil] at this
def atV : Option Cl → Value
  | some c => .tuple #[c.v, .int .i64 0]
  | none => .tuple #[(⟨0, 0, 0⟩ : Cl).v, .int .i64 5]
theorem under_no {pre : List Cl} {n : Nat} {c : Cl} {k : Int} (h : ∀ post, underC (pre ++ post) 0 k = underC post n k) (hc : ¬ k < ((n + c.c : Nat) : Int)) : ∀ post, underC ((pre ++ [c]) ++ post) 0 k = underC post (n + c.c) k := fun post => by
  rw [List.append_assoc, h]; exact if_neg hc
theorem under_yes {pre post : List Cl} {n : Nat} {c : Cl} {k : Int} (h : ∀ post, underC (pre ++ post) 0 k = underC post n k) (hc : k < ((n + c.c : Nat) : Int)) : underC (pre ++ c :: post) 0 k = some c := by
  rw [h]; unfold underC; rw [if_pos hc]
theorem under_end {l : List Cl} {n : Nat} {k : Int} (h : ∀ post, underC (l ++ post) 0 k = underC post n k) : underC l 0 k = none := by
  have := h []; rw [List.append_nil] at this; rw [this]; rfl
theorem cut_no {pre : List Cl} {n a : Nat} {c : Cl} {k : Int} (h : ∀ post, cutC (pre ++ post) 0 0 k = cutC post n a k) (hc : ¬ k < ((n + c.c : Nat) : Int)) : ∀ post, cutC ((pre ++ [c]) ++ post) 0 0 k = cutC post (n + c.c) c.z k := fun post => by
  rw [List.append_assoc, h]; exact if_neg hc
theorem cut_yes {pre post : List Cl} {n a : Nat} {c : Cl} {k : Int} (h : ∀ post, cutC (pre ++ post) 0 0 k = cutC post n a k) (hc : k < ((n + c.c : Nat) : Int)) : cutC (pre ++ c :: post) 0 0 k = (n, a) := by
  rw [h]; unfold cutC; rw [if_pos hc]
theorem cut_end {l : List Cl} {n a : Nat} {k : Int} (h : ∀ post, cutC (l ++ post) 0 0 k = cutC post n a k) : cutC l 0 0 k = (n, a) := by
  have := h []; rw [List.append_nil] at this; rw [this]; rfl
end Go.Eng
namespace Go.Proofs.Ytpghpbknjdnkkaa
open Go Go.Eng
set_option maxRecDepth 100000
set_option maxHeartbeats 4000000
set_option linter.all false
attribute [local irreducible] WL WC WQ QFun QLoop Does Q1 QRound QAssign Go.Addr.add
attribute [local irreducible] clusters atC edgeC underC cutC
theorem at_any (l : List UInt8) (hl : l.length ≤ 4194304) (k : Int) (w0 : World) (m : Mem) (H : SHeap) : Does Try.prog 20 #[str l, .int .i64 k] w0 m H (Tells (atV (atR (clusters l) k)) m H) := by
  refine Does.of_body (args := [str l, .int .i64 k]) Try.func20 rfl Try.ntmps20 rfl ?_
  by_cases hk : k < 0
  · rw [show atR (clusters l) k = none from if_pos hk]
    (try (refine st ?_; intros))
    exact q_fin0 (H0 := H) (Tells.mk (Mem.le.refl _) rfl) (hd := zpk)
  rw [show atR (clusters l) k = atC (clusters l) k from if_neg hk]
  (refine st ?_; intros; rename_i b3 b4 b5)
  refine w_callF Try.func17 ?_ (hs := each_any _ _ _ _)
  rintro v m H ⟨b, rfl, rfl, rfl⟩
  (try (refine st ?_; intros))
  refine WC.persist (b := b) (by (repeat (first | exact Out.here | apply Out.there))) ?_
  intro m1 hle1 hb
  refine WC.rangeFuncM (encs := fun c : Cl => [c.v]) (xs := clusters l) (Cap := TextAt b l) (lb := [.pointer (some ⟨b, 0, none⟩)]) (ps := [11])
    (J := fun pre m' Hl => m.le m' ∧ (∀ post, atC (pre ++ post) k = atC post k) ∧ Hl = [.blk b5 (.cells [.int .i64 0].toArray 25 (0, 0)), .blk b4 (.cells (⟨0, 0, 0⟩ : Cl).cs.toArray 38 (0, 0)), .blk b3 (.cells [.int .i64 k].toArray 3 (0, 0))])
    (Jx := fun cd pre m' Hl => cd = .ret ∧ m.le m' ∧ ∃ c, (∀ post, atC (pre ++ post) k = some c) ∧ Hl = [.blk b5 (.cells [.int .i64 0].toArray 25 (0, 0)), .blk b4 (.cells c.cs.toArray 38 (0, 0)), .blk b3 (.cells [.int .i64 k].toArray 3 (0, 0))])
    rfl Try.func43 rfl rfl (each_seq l (by omega) b) hb (fun _ => rfl) rfl (fun _ _ _ _ h hm => ⟨h.1.trans hm, h.2⟩) (fun _ _ _ _ _ h hm => ⟨h.1, h.2.1.trans hm, h.2.2⟩) (.cons (.cons (.cons .nil))) ⟨hle1, fun _ => rfl, rfl⟩ ?_ ?_ ?_
  · rintro lp pre c post hx m2 Hl ⟨hle2, hno, rfl⟩ hm2 Hfr hfr
    (try (refine st ?_; intros))
    refine WQ.assigned (.cons (.cons (.cons (.cons .nil)))) (Mem.le.refl _) ?_
    intro Hfr2
    by_cases hc : k < (c.z : Int)
    · (try (refine st ?_; intros))
      refine WQ.roundRet (Hl := [_, _, _]) (fun w h => h.drop) (Mem.le.refl _) ⟨rfl, hle2, c, fun post => ?_, rfl⟩
      rw [List.append_assoc]; unfold atC at hno ⊢; exact find_yes hno (by simpa using hc)
    · (try (refine st ?_; intros))
      refine WQ.roundOn (Hl := [_, _, _]) (fun w h => h.drop) (Mem.le.refl _) ⟨hle2, fun post => ?_, rfl⟩
      unfold atC at hno ⊢; exact find_no hno (by simpa using hc) post
  · rintro D m2 Hl ⟨hle2, hno, rfl⟩ hm2
    have he : atC (clusters l) k = none := by unfold atC at hno ⊢; exact find_end hno
    rw [he]
    (try (refine st ?_; intros))
    refine WQ.mark (H1 := [_, _, _] ++ H) (List.perm_middle (l₁ := [_, _, _])) ?_
    exact q_fin0 (H0 := H) (Tells.mk hle2 rfl) (hd := zpk)
  · rintro D cd pre m2 Hl ⟨post, hpre⟩ ⟨rfl, hle2, c, hc, rfl⟩ hm2
    have he : atC (clusters l) k = some c := by rw [← hpre]; exact hc post
    rw [he]
    (try (refine st ?_; intros))
    refine WQ.mark (H1 := [_, _, _] ++ H) (List.perm_middle (l₁ := [_, _, _])) ?_
    exact q_fin0 (H0 := H) (Tells.mk hle2 rfl) (hd := zpk)
theorem edge_any (l : List UInt8) (hl : l.length ≤ 4194304) (k : Int) (w0 : World) (m : Mem) (H : SHeap) : Does Try.prog 21 #[str l, .int .i64 k] w0 m H (Tells (.bool (dcd (edgeR (clusters l) k l.length))) m H) := by
  refine Does.of_body (args := [str l, .int .i64 k]) Try.func21 rfl Try.ntmps21 rfl ?_
  (refine st ?_; intros; rename_i b3 b4)
  refine w_callF Try.func17 ?_ (hs := each_any _ _ _ _)
  rintro v m H ⟨b, rfl, rfl, rfl⟩
  (try (refine st ?_; intros))
  refine WC.persist (b := b) (by (repeat (first | exact Out.here | apply Out.there))) ?_
  intro m1 hle1 hb
  refine WC.rangeFuncM (encs := fun c : Cl => [c.v]) (xs := clusters l) (Cap := TextAt b l) (lb := [.pointer (some ⟨b, 0, none⟩)]) (ps := [8])
    (J := fun pre m' Hl => m.le m' ∧ (∀ post, edgeC (pre ++ post) k = edgeC post k) ∧ Hl = [.blk b4 (.cells [.bool false].toArray 4 (0, 0)), .blk b3 (.cells [.int .i64 k].toArray 3 (0, 0))])
    (Jx := fun cd pre m' Hl => cd = .ret ∧ m.le m' ∧ ∃ c : Cl, (∀ post, edgeC (pre ++ post) k = some c) ∧ Hl = [.blk b4 (.cells [.bool (dcd ((c.a : Int) = k))].toArray 4 (0, 0)), .blk b3 (.cells [.int .i64 k].toArray 3 (0, 0))])
    rfl Try.func43 rfl rfl (each_seq l (by omega) b) hb (fun _ => rfl) rfl (fun _ _ _ _ h hm => ⟨h.1.trans hm, h.2⟩) (fun _ _ _ _ _ h hm => ⟨h.1, h.2.1.trans hm, h.2.2⟩) (.cons (.cons .nil)) ⟨hle1, fun _ => rfl, rfl⟩ ?_ ?_ ?_
  · rintro lp pre c post hx m2 Hl ⟨hle2, hno, rfl⟩ hm2 Hfr hfr
    (try (refine st ?_; intros))
    refine WQ.assigned (.cons (.cons (.cons .nil))) (Mem.le.refl _) ?_
    intro Hfr2
    by_cases hc : k ≤ (c.a : Int)
    · (try (refine st ?_; intros))
      refine WQ.roundRet (Hl := [_, _]) (fun w h => h.drop) (Mem.le.refl _) ⟨rfl, hle2, c, fun post => ?_, rfl⟩
      rw [List.append_assoc]; unfold edgeC at hno ⊢; exact find_yes hno (by simpa using hc)
    · (try (refine st ?_; intros))
      refine WQ.roundOn (Hl := [_, _]) (fun w h => h.drop) (Mem.le.refl _) ⟨hle2, fun post => ?_, rfl⟩
      unfold edgeC at hno ⊢; exact find_no hno (by simpa using hc) post
  · rintro D m2 Hl ⟨hle2, hno, rfl⟩ hm2
    have he : edgeC (clusters l) k = none := by unfold edgeC at hno ⊢; exact find_end hno
    (try (refine st ?_; intros))
    refine WQ.mark (H1 := [_, _] ++ H) (List.perm_middle (l₁ := [_, _])) ?_
    exact q_fin0 (H0 := H) (Tells.mk hle2 (congrArg _ (dcd_cong (by unfold edgeR; rw [he])))) (hd := zpk)
  · rintro D cd pre m2 Hl ⟨post, hpre⟩ ⟨rfl, hle2, c, hc, rfl⟩ hm2
    have he : edgeC (clusters l) k = some c := by rw [← hpre]; exact hc post
    (try (refine st ?_; intros))
    refine WQ.mark (H1 := [_, _] ++ H) (List.perm_middle (l₁ := [_, _])) ?_
    exact q_fin0 (H0 := H) (Tells.mk hle2 (congrArg _ (dcd_cong (by unfold edgeR; rw [he])))) (hd := zpk)
theorem under_any (l : List UInt8) (hl : l.length ≤ 4194304) (k : Int) (w0 : World) (m : Mem) (H : SHeap) : Does Try.prog 27 #[str l, .int .i64 k] w0 m H (Tells (atV (underR (clusters l) k)) m H) := by
  refine Does.of_body (args := [str l, .int .i64 k]) Try.func27 rfl Try.ntmps27 rfl ?_
  by_cases hk : k < 0
  · rw [show underR (clusters l) k = none from if_pos hk]
    (try (refine st ?_; intros))
    exact q_fin0 (H0 := H) (Tells.mk (Mem.le.refl _) rfl) (hd := zpk)
  rw [show underR (clusters l) k = underC (clusters l) 0 k from if_neg hk]
  (refine st ?_; intros; rename_i b3 b4 b5 b6)
  refine w_callF Try.func17 ?_ (hs := each_any _ _ _ _)
  rintro v m H ⟨b, rfl, rfl, rfl⟩
  (try (refine st ?_; intros))
  refine WC.persist (b := b) (by (repeat (first | exact Out.here | apply Out.there))) ?_
  intro m1 hle1 hb
  refine WC.rangeFuncM (encs := fun c : Cl => [c.v]) (xs := clusters l) (Cap := TextAt b l) (lb := [.pointer (some ⟨b, 0, none⟩)]) (ps := [12])
    (J := fun pre m' Hl => m.le m' ∧ (∀ post, underC (pre ++ post) 0 k = underC post (sumC pre) k) ∧ Hl = [.blk b6 (.cells [.int .i64 (sumC pre : Int)].toArray 3 (0, 0)), .blk b5 (.cells [.int .i64 0].toArray 25 (0, 0)), .blk b4 (.cells (⟨0, 0, 0⟩ : Cl).cs.toArray 38 (0, 0)), .blk b3 (.cells [.int .i64 k].toArray 3 (0, 0))])
    (Jx := fun cd pre m' Hl => cd = .ret ∧ m.le m' ∧ ∃ c, (∀ post, underC (pre ++ post) 0 k = some c) ∧ Hl = [.blk b6 (.cells [.int .i64 (sumC pre : Int)].toArray 3 (0, 0)), .blk b5 (.cells [.int .i64 0].toArray 25 (0, 0)), .blk b4 (.cells c.cs.toArray 38 (0, 0)), .blk b3 (.cells [.int .i64 k].toArray 3 (0, 0))])
    rfl Try.func43 rfl rfl (each_seq l (by omega) b) hb (fun _ => rfl) rfl (fun _ _ _ _ h hm => ⟨h.1.trans hm, h.2⟩) (fun _ _ _ _ _ h hm => ⟨h.1, h.2.1.trans hm, h.2.2⟩) (.cons (.cons (.cons (.cons .nil)))) ⟨hle1, fun _ => rfl, rfl⟩ ?_ ?_ ?_
  · rintro lp pre c post hx m2 Hl ⟨hle2, hno, rfl⟩ hm2 Hfr hfr
    have hs := sum_pre hx
    have hsn := sumC_snoc pre c
    have hcc := (ch_mem (ch_all l) (c := c) (by rw [hx]; simp)).2.2.2
    have he : (sumC pre : Int) + (c.c : Int) = ((sumC (pre ++ [c]) : Nat) : Int) := by omega
    (try (refine st ?_; intros))
    refine WQ.assigned (.cons (.cons (.cons (.cons (.cons .nil))))) (Mem.le.refl _) ?_
    intro Hfr2
    by_cases hc : k < ((sumC pre + c.c : Nat) : Int)
    · (try (refine st ?_; intros))
      rw [he]
      refine WQ.roundRet (Hl := [_, _, _, _]) (fun w h => h.drop) (Mem.le.refl _) ⟨rfl, hle2, c, fun post => ?_, rfl⟩
      rw [List.append_assoc]; exact under_yes hno hc
    · (try (refine st ?_; intros))
      rw [he]
      refine WQ.roundOn (Hl := [_, _, _, _]) (fun w h => h.drop) (Mem.le.refl _) ⟨hle2, fun post => ?_, rfl⟩
      rw [hsn]; exact under_no hno hc post
  · rintro D m2 Hl ⟨hle2, hno, rfl⟩ hm2
    rw [under_end hno]
    (try (refine st ?_; intros))
    refine WQ.mark (H1 := [_, _, _, _] ++ H) (List.perm_middle (l₁ := [_, _, _, _])) ?_
    exact q_fin0 (H0 := H) (Tells.mk hle2 rfl) (hd := zpk)
  · rintro D cd pre m2 Hl ⟨post, hpre⟩ ⟨rfl, hle2, c, hc, rfl⟩ hm2
    have he : underC (clusters l) 0 k = some c := by rw [← hpre]; exact hc post
    rw [he]
    (try (refine st ?_; intros))
    refine WQ.mark (H1 := [_, _, _, _] ++ H) (List.perm_middle (l₁ := [_, _, _, _])) ?_
    exact q_fin0 (H0 := H) (Tells.mk hle2 rfl) (hd := zpk)
theorem cut_any (l : List UInt8) (hl : l.length ≤ 4194304) (k : Int) (w0 : World) (m : Mem) (H : SHeap) : Does Try.prog 12 #[str l, .int .i64 k] w0 m H (Tells (.tuple #[str (l.take (cutL l k).2), str (l.drop (cutL l k).2), .int .i64 ((cutL l k).1 : Int)]) m H) := by
  refine Does.of_body (args := [str l, .int .i64 k]) Try.func12 rfl Try.ntmps12 rfl ?_
  have hcl := cutL_le l k
  (refine st ?_; intros; rename_i b3 b7 b8)
  refine w_callF Try.func17 ?_ (hs := each_any _ _ _ _)
  rintro v m H ⟨b, rfl, rfl, rfl⟩
  (try (refine st ?_; intros))
  refine WC.persist (b := b) (by (repeat (first | exact Out.here | apply Out.there))) ?_
  intro m1 hle1 hb
  obtain ⟨j, hj⟩ : ∃ j, max k 0 = j := ⟨_, rfl⟩
  rw [hj]
  unfold cutL at hcl ⊢
  rw [hj] at hcl ⊢
  refine WC.rangeFuncM (encs := fun c : Cl => [c.v]) (xs := clusters l) (Cap := TextAt b l) (lb := [.pointer (some ⟨b, 0, none⟩)]) (ps := [14])
    (J := fun pre m' Hl => m.le m' ∧ ∃ a : Nat, (∀ post, cutC (pre ++ post) 0 0 j = cutC post (sumC pre) a j) ∧ Hl = [.blk b8 (.cells [.int .i64 (a : Int)].toArray 3 (0, 0)), .blk b7 (.cells [.int .i64 (sumC pre : Int)].toArray 3 (0, 0)), .blk b3 (.cells [.int .i64 j].toArray 3 (0, 0))])
    (Jx := fun cd pre m' Hl => cd = .exit 0 ∧ m.le m' ∧ ∃ n a : Nat, (∀ post, cutC (pre ++ post) 0 0 j = (n, a)) ∧ Hl = [.blk b8 (.cells [.int .i64 (a : Int)].toArray 3 (0, 0)), .blk b7 (.cells [.int .i64 (n : Int)].toArray 3 (0, 0)), .blk b3 (.cells [.int .i64 j].toArray 3 (0, 0))])
    rfl Try.func43 rfl rfl (each_seq l (by omega) b) hb (fun _ => rfl) rfl (fun _ _ _ _ h hm => ⟨h.1.trans hm, h.2⟩) (fun _ _ _ _ _ h hm => ⟨h.1, h.2.1.trans hm, h.2.2⟩) (.cons (.cons (.cons .nil))) ⟨hle1, 0, fun _ => rfl, rfl⟩ ?_ ?_ ?_
  · rintro lp pre c post hx m2 Hl ⟨hle2, a, hno, rfl⟩ hm2 Hfr hfr
    have hs := sum_pre hx
    have hsn := sumC_snoc pre c
    have hcc := (ch_mem (ch_all l) (c := c) (by rw [hx]; simp)).2.2.2
    have he : (sumC pre : Int) + (c.c : Int) = ((sumC (pre ++ [c]) : Nat) : Int) := by omega
    (try (refine st ?_; intros))
    refine WQ.assigned (.cons (.cons (.cons (.cons .nil)))) (Mem.le.refl _) ?_
    intro Hfr2
    by_cases hc : j < ((sumC pre + c.c : Nat) : Int)
    · (try (refine st ?_; intros))
      refine WQ.roundExit (Hl := [_, _, _]) (fun w h => h.drop) (Mem.le.refl _) ⟨rfl, hle2, sumC pre, a, fun post => ?_, rfl⟩
      rw [List.append_assoc]; exact cut_yes hno hc
    · (try (refine st ?_; intros))
      rw [he]
      refine WQ.roundOn (Hl := [_, _, _]) (fun w h => h.drop) (Mem.le.refl _) ⟨hle2, c.z, fun post => ?_, rfl⟩
      rw [hsn]; exact cut_no hno hc post
  · rintro D m2 Hl ⟨hle2, a, hno, rfl⟩ hm2
    rw [cut_end hno] at hcl ⊢
    simp only at hcl ⊢
    (try (refine st ?_; intros))
    refine WQ.mark (H1 := [_, _, _] ++ H) (List.perm_middle (l₁ := [_, _, _])) ?_
    exact q_fin0 (H0 := H) (Tells.mk hle2 rfl) (hd := zpk)
  · rintro D cd pre m2 Hl ⟨post, hpre⟩ ⟨rfl, hle2, n, a, hc, rfl⟩ hm2
    have he : cutC (clusters l) 0 0 j = (n, a) := by rw [← hpre]; exact hc post
    rw [he] at hcl ⊢
    simp only at hcl ⊢
    (try (refine st ?_; intros))
    refine WQ.mark (H1 := [_, _, _] ++ H) (List.perm_middle (l₁ := [_, _, _])) ?_
    exact q_fin0 (H0 := H) (Tells.mk hle2 rfl) (hd := zpk)
end Go.Proofs.Ytpghpbknjdnkkaa

/-
  The walk of canticleref02.Pieces. No condition.
-/
namespace Go.Eng
open Go
/-- a piece without its break, and one whose width is not told yet -/
def Pc.c3 (p : Pc) : List Value := [.int .i64 (p.at_ : Int), .int .i64 (p.w : Int), .int .i32 (p.r : Int)]
def Pc.z3 (p : Pc) : List Value := [.int .i64 (p.at_ : Int), .int .i64 0, .int .i32 (p.r : Int)]
end Go.Eng
namespace Go.Proofs.Ytpghpbknjdnkkaa
open Go Go.Eng
set_option maxRecDepth 100000
set_option maxHeartbeats 4000000
set_option linter.all false
attribute [local irreducible] WL WC WQ QFun QLoop Does Q1 QRound QAssign Go.Addr.add
attribute [local irreducible] readP pieces dl from_
end Go.Proofs.Ytpghpbknjdnkkaa

/-
  The walks of the reference's kinds of runes (canticleref03). No condition.
-/
namespace Go.Proofs.Ytpghpbknjdnkkaa
open Go Go.Eng
set_option maxRecDepth 100000
set_option maxHeartbeats 4000000
set_option linter.all false
attribute [local irreducible] WL WC WQ QFun QLoop Does Q1 QRound QAssign Go.Addr.add
attribute [local irreducible] Great Small Wide kindN
end Go.Proofs.Ytpghpbknjdnkkaa

/-
  Plain facts on clusters as the reference finds them: how many pieces a cluster takes, where it ends, its columns. No condition.
-/
namespace Go.Eng
open Go
def special (h : Nat) : Prop := h = 11 ∨ h = 4 ∨ h = 9
/-- the columns of some pieces -/
def maxC (ps : List Pc) : Nat := ps.foldl (fun n p => max n (colP p)) 0
end Go.Eng

/-
  The walk of the reference's Pieces (canticleref05). No condition.
-/
namespace Go.Eng
open Go
/-- a piece as the reference of this layer has it -/
def Pc.c5 (p : Pc) : List Value := [.int .i64 (p.at_ : Int), .int .i64 ((p.at_ + p.w : Nat) : Int), .int .i64 (kindP p : Int), .bool (dcd (p.r = 8205)), .int .i64 (colP p : Int)]
end Go.Eng
namespace Go.Proofs.Ytpghpbknjdnkkaa
open Go Go.Eng
set_option maxRecDepth 100000
set_option maxHeartbeats 4000000
set_option linter.all false
attribute [local irreducible] WL WC WQ QFun QLoop Does Q1 QRound QAssign Go.Addr.add
attribute [local irreducible] Wide kindN kindP colP pieces readP dl
end Go.Proofs.Ytpghpbknjdnkkaa

/-
  The walk of the reference's Cells. No condition.
-/
namespace Go.Proofs.Ytpghpbknjdnkkaa
open Go Go.Eng
set_option maxRecDepth 100000
set_option maxHeartbeats 4000000
set_option linter.all false
attribute [local irreducible] WL WC WQ QFun QLoop Does Q1 QRound QAssign Go.Addr.add
attribute [local irreducible] Wide kindN kindP colP pieces readP dl runC Glue clGo maxC
end Go.Proofs.Ytpghpbknjdnkkaa

/-
  Plain facts: what the reference finds among clusters is what the program finds. No condition.
-/
namespace Go.Eng
open Go
def at2 (L : List Cl) (k : Int) : Option Cl := L.find? fun c => decide ((c.a : Int) ≤ k ∧ k < (c.z : Int))
def edge2 (L : List Cl) (k : Int) (n : Nat) : Prop := (∃ c ∈ L, (c.a : Int) = k) ∨ k = (n : Int)
def under2 : List Cl → Nat → Int → Option Cl
  | [], _, _ => none
  | c :: cs, n, k => if (n : Int) ≤ k ∧ k < ((n + c.c : Nat) : Int) then some c else under2 cs (n + c.c) k
def atV2 : Option Cl → Value
  | some c => .tuple #[c.v, .bool true]
  | none => .tuple #[(⟨0, 0, 0⟩ : Cl).v, .bool false]
/-- the texts of clusters, from the last one on -/
def clT (l : List UInt8) (c : Cl) : List UInt8 := (l.take c.z).drop c.a
def revT (l : List UInt8) : List UInt8 := (clusters l).reverse.flatMap (clT l)
theorem take_step {L : List Cl} {i : Nat} {c : Cl} (h : L[i]? = some c) : L.take (i + 1) = L.take i ++ [c] ∧ L.drop i = c :: L.drop (i + 1) := by
  obtain ⟨hi, he⟩ := List.getElem?_eq_some_iff.1 h
  exact ⟨by rw [List.take_succ_eq_append_getElem hi, he], by rw [List.drop_eq_getElem_cons hi, he]⟩
end Go.Eng

/-
  The walks of the reference's At, Edge, Columns, Under, Cut. No condition.
-/
namespace Go.Proofs.Ytpghpbknjdnkkaa
open Go Go.Eng
set_option maxRecDepth 100000
set_option maxHeartbeats 4000000
set_option linter.all false
attribute [local irreducible] WL WC WQ QFun QLoop Does Q1 QRound QAssign Go.Addr.add
attribute [local irreducible] clusters
end Go.Proofs.Ytpghpbknjdnkkaa

/-
  The walks of cluster.Pad and of the reference's Pad. No condition.
-/
namespace Go.Eng
open Go
def blanks (k : Nat) : List UInt8 := List.replicate k 32
theorem blanks_length (k : Nat) : (blanks k).length = k := List.length_replicate
/-- how many blanks stand ahead -/
def aheadOf (side lack : Int) : Nat := if side = 2 then lack.toNat else if side = 3 then (lack / 2).toNat else 0
/-- what is padded -/
def padT (l : List UInt8) (k side : Int) : List UInt8 := blanks (aheadOf side (k - ((cutL l k).1 : Int))) ++ l.take (cutL l k).2 ++ blanks ((k - ((cutL l k).1 : Int)).toNat - aheadOf side (k - ((cutL l k).1 : Int)))
def padV (l : List UInt8) (k side : Int) : Value := if side < 1 ∨ 3 < side ∨ k < 0 then .tuple #[str [], .int .i64 2] else if 65536 < k then .tuple #[str [], .int .i64 3] else .tuple #[str (padT l k side), .int .i64 0]
end Go.Eng
namespace Go.Proofs.Ytpghpbknjdnkkaa
open Go Go.Eng
set_option maxRecDepth 100000
set_option maxHeartbeats 4000000
set_option linter.all false
attribute [local irreducible] WL WC WQ QFun QLoop Does Q1 QRound QAssign Go.Addr.add
attribute [local irreducible] clusters cutL
theorem padAdd_any {b cap : Nat} {ao a : Option Addr} {t : List UInt8} (hao : ao = none ∨ ao = some ⟨b, 0, none⟩) (hc : a = none ∨ 0 < cap) (k : Nat) (hk : k ≤ 65536) (hl : t.length ≤ 8388608) (w0 : World) (m : Mem) (H : SHeap) :
    Does Try.prog 39 #[.int .i64 (k : Int), .pointer (some ⟨b, 0, none⟩)] w0 m (.blk b (.cells [.pointer ao, .slice a t.length cap].toArray 51 (0, 0)) :: .row a cap 5 1 (bCs t) :: H) (fun v m' H' => m' = m ∧ Bldr b (t ++ blanks k) H H') := by
  refine Does.of_body (args := [.int .i64 (k : Int), .pointer (some ⟨b, 0, none⟩)]) Try.func39 rfl Try.ntmps39 rfl ?_
  (try (refine st ?_; intros))
  refine w_callF Try.func41 ?_ (hs := repeat_any (s := [32]) (c := k) (by simp; omega) (by omega) _ _ _)
  rintro v m H1 ⟨rfl, rfl, rfl⟩
  rw [repeat_blank]
  (try (refine st ?_; intros))
  refine w_callF Try.func40 ?_ (hs := writeString_any hao hc (by unfold FitsB; rw [List.length_replicate]; omega) _ _ _)
  rintro v m H1 ⟨rfl, rfl, hB⟩
  (try (refine st ?_; intros))
  exact q_finNorm0 (H0 := H1) ⟨rfl, hB⟩ (hd := fun w h => h)
theorem pad_any (l : List UInt8) (hl : l.length ≤ 4194304) (k side : Int) (w0 : World) (m : Mem) (H : SHeap) : Does Try.prog 14 #[str l, .int .i64 k, .int .i64 side] w0 m H (Tells (padV l k side) m H) := by
  refine Does.of_body (args := [str l, .int .i64 k, .int .i64 side]) Try.func14 rfl Try.ntmps14 rfl ?_
  have hcl := cutL_le l k
  unfold padV
  by_cases h1 : side < 1 ∨ 3 < side ∨ k < 0
  · rw [if_pos h1]
    have h1' : side < 1 ∨ (¬ side < 1 ∧ 3 < side) ∨ (¬ side < 1 ∧ ¬ 3 < side ∧ k < 0) := by omega
    rcases h1' with h | ⟨h, g⟩ | ⟨h, g, f⟩
    all_goals
      (try (refine st ?_; intros))
      (refine q_fin0 ?_)
      exact Tells.mk (Mem.le.refl _) rfl
  rw [if_neg h1]
  by_cases h2 : 65536 < k
  · rw [if_pos h2]
    (try (refine st ?_; intros))
    (refine q_fin0 ?_)
    exact Tells.mk (Mem.le.refl _) rfl
  rw [if_neg h2]
  (try (refine st ?_; intros))
  refine w_callF Try.func12 ?_ (hs := cut_any l hl k _ _ _)
  rintro v m1 H1 ⟨hle1, rfl, rfl⟩
  obtain ⟨lack, hlack⟩ : ∃ lack : Nat, (k - ((cutL l k).1 : Int)) = (lack : Int) := ⟨(k - ((cutL l k).1 : Int)).toNat, by omega⟩
  have hpad : padT l k side = blanks (aheadOf side lack) ++ l.take (cutL l k).2 ++ blanks (lack - aheadOf side lack) := by unfold padT; rw [hlack]; rfl
  rw [hpad]
  have htl : (l.take (cutL l k).2).length = (cutL l k).2 := by rw [List.length_take]; omega
  generalize hT : l.take (cutL l k).2 = T at *
  generalize (cutL l k).1 = cn at *
  have hlk : lack ≤ 65536 := by omega
  have hah : aheadOf side lack ≤ lack := by unfold aheadOf; split <;> (try split) <;> omega
  (refine st ?_; intros; rename_i b)
  rw [hlack]
  refine WC.join (fun r' ds' m' H' => ∃ A : Nat, A = aheadOf side lack ∧ r' = [(14, .int .i64 (A : Int)), (13, .int .i64 (lack : Int)), (12, .func (.func 39) #[] #[.pointer (some ⟨b, 0, none⟩)]), (11, .pointer (some ⟨b, 0, none⟩)), (8, str T)] ∧ ds' = [] ∧ m' = m1 ∧ H' = .blk b (.cells [.pointer none, .slice none 0 0].toArray 51 (0, 0)) :: H1) ?_ ?_
  · by_cases g2 : side = 2
    · (try (refine st ?_; intros))
      exact WQ.join ⟨lack, by unfold aheadOf; rw [if_pos g2]; omega, rfl, rfl, rfl, rfl⟩ zsb zpk
    · by_cases g3 : side = 3
      · (try (refine st ?_; intros))
        exact WQ.join ⟨lack / 2, by unfold aheadOf; rw [if_neg g2, if_pos g3]; omega, by rw [show ((lack / 2 : Nat) : Int) = (lack : Int) / 2 by omega], rfl, rfl, rfl⟩ zsb zpk
      · (try (refine st ?_; intros))
        exact WQ.join ⟨0, by unfold aheadOf; rw [if_neg g2, if_neg g3], rfl, rfl, rfl, rfl⟩ zsb zpk
  rintro r ds m1 H1 ⟨A, hA, rfl, rfl, rfl, rfl⟩
  rw [← hA] at hah ⊢
  (try (refine st ?_; intros))
  refine WL.newRow (T := 5) (sz := 1) ?_
  refine WL.heap (H' := .blk b (.cells [.pointer none, .slice none ([] : List UInt8).length 0].toArray 51 (0, 0)) :: .row none 0 5 1 (bCs []) :: H1) zpk ?_
  refine WL.callV rfl Try.func39 rfl rfl (by exact rfl) (by exact rfl) (padAdd_any (t := []) (.inl rfl) (.inl rfl) A (by omega) (by simp) _ _ _) ?_
  rintro v m9 H9 ⟨rfl, ao, a, cap, hao, hc, rfl⟩
  rw [List.nil_append]
  have hbA := blanks_length A
  (try (refine st ?_; intros))
  refine w_callF Try.func40 ?_ (hs := writeString_any hao hc (by unfold FitsB; omega) _ _ _)
  rintro v m9 H9 ⟨rfl, rfl, ao, a, cap, hao, hc, rfl⟩
  have hlx : (blanks A ++ T).length = A + T.length := by rw [List.length_append, hbA]
  have hsub : (lack : Int) - (A : Int) = ((lack - A : Nat) : Int) := by omega
  (try (refine st ?_; intros))
  rw [hsub]
  refine WL.callV rfl Try.func39 rfl rfl (by exact rfl) (by exact rfl) (padAdd_any (t := blanks A ++ T) hao hc (lack - A) (by omega) (by omega) _ _ _) ?_
  rintro v m9 H9 ⟨rfl, ao, a, cap, hao, hc, rfl⟩
  have hly : (blanks A ++ T ++ blanks (lack - A)).length = A + T.length + (lack - A) := by rw [List.length_append, hlx, blanks_length]
  (try (refine st ?_; intros))
  refine w_callF Try.func25 ?_ (hs := bString_any hc (by omega) _ _ _)
  rintro v m9 H9 ⟨rfl, rfl, rfl⟩
  (try (refine st ?_; intros))
  exact q_fin0 (Tells.mk hle1 rfl) (hd := fun w h => h)
end Go.Proofs.Ytpghpbknjdnkkaa

/-
  Plain facts on the texts of clusters. No condition.
-/
namespace Go.Eng
open Go
theorem clT_len {l : List UInt8} {c : Cl} (h : c.z ≤ l.length) : (clT l c).length = c.z - c.a := by
  unfold clT; rw [List.length_drop, List.length_take]; omega
theorem ch_texts (l : List UInt8) : ∀ {k n : Nat} {L : List Cl}, Ch k L n → n ≤ l.length → L.flatMap (clT l) = (l.take n).drop k
  | k, n, [], h, hn => by
    have e : k = n := h
    subst e
    rw [List.drop_of_length_le (by rw [List.length_take]; omega)]; rfl
  | k, n, c :: cs, h, hn => by
    obtain ⟨h1, h2, h3, h4⟩ := h
    have h5 := ch_le h4
    have h6 : c.z ≤ n := by omega
    rw [List.flatMap_cons, ch_texts l h4 hn]
    subst h1
    have e : clT l c = ((l.take n).drop c.a).take (c.z - c.a) := by
      unfold clT
      rw [← List.drop_take, List.take_take, Nat.min_eq_left h6]
    have e2 : (l.take n).drop c.z = ((l.take n).drop c.a).drop (c.z - c.a) := by rw [List.drop_drop]; congr 1; omega
    rw [e, e2, List.take_append_drop]
theorem clusters_texts (l : List UInt8) : (clusters l).flatMap (clT l) = l := by
  rw [ch_texts l (ch_all l) (Nat.le_refl _), List.take_length, List.drop_zero]
theorem rev_len {l : List UInt8} {pre post : List Cl} (h : (clusters l).reverse = pre ++ post) : (pre.flatMap (clT l)).length ≤ l.length := by
  have h1 := congrArg List.length (clusters_texts l)
  have h2 : clusters l = post.reverse ++ pre.reverse := by rw [← List.reverse_reverse (clusters l), h, List.reverse_append]
  have h3 : (pre.reverse.flatMap (clT l)).length = (pre.flatMap (clT l)).length := by simp [List.length_flatMap, List.sum_reverse]
  rw [h2, List.flatMap_append, List.length_append, h3] at h1
  omega
end Go.Eng

/-
  The walks of cluster.Reverse and of the reference's Reverse. No condition.
-/
namespace Go.Proofs.Ytpghpbknjdnkkaa
open Go Go.Eng
set_option maxRecDepth 100000
set_option maxHeartbeats 4000000
set_option linter.all false
attribute [local irreducible] WL WC WQ QFun QLoop Does Q1 QRound QAssign Go.Addr.add
attribute [local irreducible] clusters clT
theorem reverse_any (l : List UInt8) (hl : l.length ≤ 4194304) (w0 : World) (m : Mem) (H : SHeap) : Does Try.prog 28 #[str l] w0 m H (Tells (str (revT l)) m H) := by
  refine Does.of_body (args := [str l]) Try.func28 rfl Try.ntmps28 rfl ?_
  (refine st ?_; intros; rename_i b1 b3)
  refine w_callF Try.func33 ?_ (hs := backC_any _ _ _ _)
  rintro v m H ⟨b, rfl, rfl, rfl⟩
  (try (refine st ?_; intros))
  refine WC.persist (b := b) (by (repeat (first | exact Out.here | apply Out.there))) ?_
  intro m1 hle1 hb
  refine WC.newRow (T := 5) (sz := 1) ?_
  refine WC.heap (H' := .blk b3 (.cells [.pointer none, .slice none 0 0].toArray 51 (0, 0)) :: .row none 0 5 1 (bCs []) :: .blk b1 (.cells [str l].toArray 9 (0, 0)) :: H) zpk ?_
  refine WC.rangeFuncM (encs := fun c : Cl => [c.v]) (xs := (clusters l).reverse) (Cap := TextAt b l) (lb := [.pointer (some ⟨b, 0, none⟩)]) (ps := [7])
    (J := fun pre m' Hl => m.le m' ∧ Bldr b3 (pre.flatMap (clT l)) [.blk b1 (.cells [str l].toArray 9 (0, 0))] Hl) (Jx := fun _ _ _ _ => False)
    rfl Try.func53 rfl rfl (backC_seq l hl b) hb (fun _ => rfl) rfl (fun _ _ _ _ h hm => ⟨h.1.trans hm, h.2⟩) (fun _ _ _ _ _ h _ => h) (Hl0 := [_, _, _]) (.cons (.cons (.cons .nil))) ?_ ?_ ?_ ?_
  · exact ⟨hle1, none, none, 0, .inl rfl, .inl rfl, rfl⟩
  · rintro lp pre c post hx m2 Hl ⟨hle2, ao, a, cap, hao, hc, rfl⟩ hm2 Hfr hfr
    have hcm := ch_mem (ch_all l) (c := c) (by rw [← List.mem_reverse, hx]; simp)
    have hct := clT_len (l := l) (c := c) hcm.2.2.1
    have hpl := rev_len hx
    (refine st ?_; intros; rename_i bp)
    refine WQ.assigned (.cons (.cons (.cons (.cons .nil)))) (Mem.le.refl _) ?_
    intro Hfr2
    (try (refine st ?_; intros))
    rw [show (l.take c.z).drop c.a = clT l c by unfold clT; rfl]
    refine WL.heap (H' := .blk b3 (.cells [.pointer ao, .slice a (pre.flatMap (clT l)).length cap].toArray 51 (0, 0)) :: .row a cap 5 1 (bCs (pre.flatMap (clT l))) :: .blk bp (.cells [.int .i64 (c.a : Int), .int .i64 (c.z : Int), .int .i64 (c.c : Int)].toArray 38 (0, 0)) :: .blk b1 (.cells [str l].toArray 9 (0, 0)) :: Hfr2) zpk ?_
    refine w_callF Try.func40 ?_ (hs := writeString_any hao hc (by unfold FitsB; omega) _ _ _)
    rintro v m2 H9 ⟨rfl, rfl, ao2, a2, cap2, hao2, hc2, rfl⟩
    rw [show pre.flatMap (clT l) ++ clT l c = (pre ++ [c]).flatMap (clT l) by simp]
    (try (refine st ?_; intros))
    exact WQ.roundOn (Hl := [_, _, .blk b1 _]) zpk (Mem.le.refl _) ⟨hle2, ao2, a2, cap2, hao2, hc2, rfl⟩
  · rintro D m2 Hl ⟨hle2, ao, a, cap, hao, hc, rfl⟩ hm2
    have hpl := rev_len (l := l) (pre := (clusters l).reverse) (post := []) (by simp)
    (try (refine st ?_; intros))
    refine w_callF Try.func25 ?_ (hs := bString_any hc (by omega) _ _ _)
    rintro v m9 H9 ⟨rfl, rfl, rfl⟩
    (try (refine st ?_; intros))
    refine WQ.mark (H1 := [_] ++ H) (List.perm_middle (l₁ := [_])) ?_
    exact q_fin0 (H0 := H) (Tells.mk hle2 rfl) (hd := zpk)
  · intro D cd pre m2 Hl _ h
    exact h.elim
end Go.Proofs.Ytpghpbknjdnkkaa

/-
  Plain facts: what the laws' first lines name. No condition.
-/
namespace Go.Eng
open Go
def tee : List UInt8 := [97, 204, 129, 204, 130, 13, 10, 255, 240, 159, 145, 169, 226, 128, 141, 240, 159, 145, 169]
theorem tee_clusters : clusters tee = [⟨0, 5, 1⟩, ⟨5, 7, 0⟩, ⟨7, 8, 1⟩, ⟨8, 19, 2⟩] := by decide +kernel
theorem tee_sum : sumC (clusters tee) = 4 := by rw [tee_clusters]; rfl
theorem shi_cut : cutL [232, 169, 169, 97] 5 = (3, 4) := by decide +kernel
theorem shi_pad : padV [232, 169, 169, 97] 5 3 = .tuple #[str [32, 232, 169, 169, 97, 32], .int .i64 0] := by
  unfold padV padT
  rw [shi_cut]
  rfl
end Go.Eng

