/-
  Parts of a walk, joined: R30 R10 RT5 R13 R14 RT6 R16 R31. No condition.
-/
import Derived.Test.YtdmdabjaboigcaaP6
import Derived.Test.YtdmdabjaboigcaaP2
import Derived.Test.YtdmdabjaboigcaaP1
import Derived.Test.YtdmdabjaboigcaaP4
/-
  The walks of Seam, and of the reference's. No condition.
-/
namespace Go.Proofs.Ytdmdabjaboigcaa
open Go Go.Eng
set_option maxRecDepth 100000
set_option maxHeartbeats 4000000
set_option linter.all false
attribute [local irreducible] WL WC WQ QFun QLoop Does Q1 QRound QAssign Go.Addr.add
theorem within_is {l : List UInt8} {z : Int} {k i : Nat} {p : Pc} (hz : z = (k : Int)) (hl : l.length ≤ 9223372036854775804) (hk : k ≤ l.length) (h : Within l k i) (hp : readP l i = p) (w0 : World) (m : Mem) (H : SHeap) :
    Does Try.prog 70 #[str l, .int .i64 z] w0 m H (Gives (.tuple #[p.v, .bool true]) m H) := by subst hz; subst hp; exact within_yes l k i hl hk h w0 m H
theorem sq_R30_1 {G : Prop} (h : G := by (repeat (first | (refine sp ?_; (repeat intro zzc)) | (refine iF 70 rfl ?_; refine w_callG Try.func70 ?_ (hs := within_is (by (first | with_reducible exact natz _ | with_reducible exact natz0 | with_reducible exact natz1 | with_reducible exact natz2 | with_reducible exact natz3 | with_reducible exact natz4 | with_reducible exact natz8 | (apply natz_add; (· first | with_reducible exact natz _ | with_reducible exact natz0 | with_reducible exact natz1 | with_reducible exact natz2 | with_reducible exact natz3 | with_reducible exact natz4 | with_reducible exact natz8); (· first | with_reducible exact natz _ | with_reducible exact natz0 | with_reducible exact natz1 | with_reducible exact natz2 | with_reducible exact natz3 | with_reducible exact natz4 | with_reducible exact natz8)) | (apply natz_sub; (· first | with_reducible exact natz _ | with_reducible exact natz0 | with_reducible exact natz1 | with_reducible exact natz2 | with_reducible exact natz3 | with_reducible exact natz4 | with_reducible exact natz8); (· first | with_reducible exact natz _ | with_reducible exact natz0 | with_reducible exact natz1 | with_reducible exact natz2 | with_reducible exact natz3 | with_reducible exact natz4 | with_reducible exact natz8); (· omega)) | exact (Int.toNat_of_nonneg (by omega)).symm)) (by omega) (by omega) (by assumption) (by assumption) _ _ _)) | (refine iF 70 rfl ?_; refine w_callG Try.func70 ?_ (hs := within_no_z _ _ (by (first | with_reducible exact natz _ | with_reducible exact natz0 | with_reducible exact natz1 | with_reducible exact natz2 | with_reducible exact natz3 | with_reducible exact natz4 | with_reducible exact natz8 | (apply natz_add; (· first | with_reducible exact natz _ | with_reducible exact natz0 | with_reducible exact natz1 | with_reducible exact natz2 | with_reducible exact natz3 | with_reducible exact natz4 | with_reducible exact natz8); (· first | with_reducible exact natz _ | with_reducible exact natz0 | with_reducible exact natz1 | with_reducible exact natz2 | with_reducible exact natz3 | with_reducible exact natz4 | with_reducible exact natz8)) | (apply natz_sub; (· first | with_reducible exact natz _ | with_reducible exact natz0 | with_reducible exact natz1 | with_reducible exact natz2 | with_reducible exact natz3 | with_reducible exact natz4 | with_reducible exact natz8); (· first | with_reducible exact natz _ | with_reducible exact natz0 | with_reducible exact natz1 | with_reducible exact natz2 | with_reducible exact natz3 | with_reducible exact natz4 | with_reducible exact natz8); (· omega)) | exact (Int.toNat_of_nonneg (by omega)).symm)) (by omega) (by omega) (by assumption) _ _ _)))); exact WQ.q1 rfl) : G := h
theorem st_R30_1 {G G' : Prop} (next : G') (h : Bx G' → G := by intro zzn; (first | ((refine st ?_; (repeat intro zzc)); (try ((first | (refine iF 70 rfl ?_; refine w_callG Try.func70 ?_ (hs := within_is (by (first | with_reducible exact natz _ | with_reducible exact natz0 | with_reducible exact natz1 | with_reducible exact natz2 | with_reducible exact natz3 | with_reducible exact natz4 | with_reducible exact natz8 | (apply natz_add; (· first | with_reducible exact natz _ | with_reducible exact natz0 | with_reducible exact natz1 | with_reducible exact natz2 | with_reducible exact natz3 | with_reducible exact natz4 | with_reducible exact natz8); (· first | with_reducible exact natz _ | with_reducible exact natz0 | with_reducible exact natz1 | with_reducible exact natz2 | with_reducible exact natz3 | with_reducible exact natz4 | with_reducible exact natz8)) | (apply natz_sub; (· first | with_reducible exact natz _ | with_reducible exact natz0 | with_reducible exact natz1 | with_reducible exact natz2 | with_reducible exact natz3 | with_reducible exact natz4 | with_reducible exact natz8); (· first | with_reducible exact natz _ | with_reducible exact natz0 | with_reducible exact natz1 | with_reducible exact natz2 | with_reducible exact natz3 | with_reducible exact natz4 | with_reducible exact natz8); (· omega)) | exact (Int.toNat_of_nonneg (by omega)).symm)) (by omega) (by omega) (by assumption) (by assumption) _ _ _)) | (refine iF 70 rfl ?_; refine w_callG Try.func70 ?_ (hs := within_no_z _ _ (by (first | with_reducible exact natz _ | with_reducible exact natz0 | with_reducible exact natz1 | with_reducible exact natz2 | with_reducible exact natz3 | with_reducible exact natz4 | with_reducible exact natz8 | (apply natz_add; (· first | with_reducible exact natz _ | with_reducible exact natz0 | with_reducible exact natz1 | with_reducible exact natz2 | with_reducible exact natz3 | with_reducible exact natz4 | with_reducible exact natz8); (· first | with_reducible exact natz _ | with_reducible exact natz0 | with_reducible exact natz1 | with_reducible exact natz2 | with_reducible exact natz3 | with_reducible exact natz4 | with_reducible exact natz8)) | (apply natz_sub; (· first | with_reducible exact natz _ | with_reducible exact natz0 | with_reducible exact natz1 | with_reducible exact natz2 | with_reducible exact natz3 | with_reducible exact natz4 | with_reducible exact natz8); (· first | with_reducible exact natz _ | with_reducible exact natz0 | with_reducible exact natz1 | with_reducible exact natz2 | with_reducible exact natz3 | with_reducible exact natz4 | with_reducible exact natz8); (· omega)) | exact (Int.toNat_of_nonneg (by omega)).symm)) (by omega) (by omega) (by assumption) _ _ _)) | ((refine iDraw ?_; (first | refine WC.drawAll rfl (by decide +kernel) ?_ | refine WC.draw 1 rfl (by decide +kernel) ?_ | refine WC.draw 2 rfl (by decide +kernel) ?_ | refine WC.draw 3 rfl (by decide +kernel) ?_ | refine WC.draw 4 rfl (by decide +kernel) ?_ | refine WC.draw 5 rfl (by decide +kernel) ?_ | refine WC.draw 6 rfl (by decide +kernel) ?_ | refine WC.draw 7 rfl (by decide +kernel) ?_ | refine WC.draw 8 rfl (by decide +kernel) ?_ | refine WC.draw 9 rfl (by decide +kernel) ?_ | refine WC.draw 10 rfl (by decide +kernel) ?_ | refine WC.draw 11 rfl (by decide +kernel) ?_ | refine WC.draw 12 rfl (by decide +kernel) ?_ | refine WC.draw 13 rfl (by decide +kernel) ?_ | refine WC.draw 14 rfl (by decide +kernel) ?_ | refine WC.draw 15 rfl (by decide +kernel) ?_ | refine WC.draw 16 rfl (by decide +kernel) ?_ | refine WC.draw 17 rfl (by decide +kernel) ?_ | refine WC.draw 18 rfl (by decide +kernel) ?_ | refine WC.draw 19 rfl (by decide +kernel) ?_ | refine WC.draw 20 rfl (by decide +kernel) ?_ | refine WC.draw 21 rfl (by decide +kernel) ?_ | refine WC.draw 22 rfl (by decide +kernel) ?_ | refine WC.draw 23 rfl (by decide +kernel) ?_ | refine WC.draw 24 rfl (by decide +kernel) ?_)); (repeat (refine WD.cons rfl (fun c h => by cases h) sq_R30_1 ?_)); refine WD.nil ?_)); (try (refine st ?_; (repeat intro zzc)))))) | ((first | (refine iF 70 rfl ?_; refine w_callG Try.func70 ?_ (hs := within_is (by (first | with_reducible exact natz _ | with_reducible exact natz0 | with_reducible exact natz1 | with_reducible exact natz2 | with_reducible exact natz3 | with_reducible exact natz4 | with_reducible exact natz8 | (apply natz_add; (· first | with_reducible exact natz _ | with_reducible exact natz0 | with_reducible exact natz1 | with_reducible exact natz2 | with_reducible exact natz3 | with_reducible exact natz4 | with_reducible exact natz8); (· first | with_reducible exact natz _ | with_reducible exact natz0 | with_reducible exact natz1 | with_reducible exact natz2 | with_reducible exact natz3 | with_reducible exact natz4 | with_reducible exact natz8)) | (apply natz_sub; (· first | with_reducible exact natz _ | with_reducible exact natz0 | with_reducible exact natz1 | with_reducible exact natz2 | with_reducible exact natz3 | with_reducible exact natz4 | with_reducible exact natz8); (· first | with_reducible exact natz _ | with_reducible exact natz0 | with_reducible exact natz1 | with_reducible exact natz2 | with_reducible exact natz3 | with_reducible exact natz4 | with_reducible exact natz8); (· omega)) | exact (Int.toNat_of_nonneg (by omega)).symm)) (by omega) (by omega) (by assumption) (by assumption) _ _ _)) | (refine iF 70 rfl ?_; refine w_callG Try.func70 ?_ (hs := within_no_z _ _ (by (first | with_reducible exact natz _ | with_reducible exact natz0 | with_reducible exact natz1 | with_reducible exact natz2 | with_reducible exact natz3 | with_reducible exact natz4 | with_reducible exact natz8 | (apply natz_add; (· first | with_reducible exact natz _ | with_reducible exact natz0 | with_reducible exact natz1 | with_reducible exact natz2 | with_reducible exact natz3 | with_reducible exact natz4 | with_reducible exact natz8); (· first | with_reducible exact natz _ | with_reducible exact natz0 | with_reducible exact natz1 | with_reducible exact natz2 | with_reducible exact natz3 | with_reducible exact natz4 | with_reducible exact natz8)) | (apply natz_sub; (· first | with_reducible exact natz _ | with_reducible exact natz0 | with_reducible exact natz1 | with_reducible exact natz2 | with_reducible exact natz3 | with_reducible exact natz4 | with_reducible exact natz8); (· first | with_reducible exact natz _ | with_reducible exact natz0 | with_reducible exact natz1 | with_reducible exact natz2 | with_reducible exact natz3 | with_reducible exact natz4 | with_reducible exact natz8); (· omega)) | exact (Int.toNat_of_nonneg (by omega)).symm)) (by omega) (by omega) (by assumption) _ _ _)) | ((refine iDraw ?_; (first | refine WC.drawAll rfl (by decide +kernel) ?_ | refine WC.draw 1 rfl (by decide +kernel) ?_ | refine WC.draw 2 rfl (by decide +kernel) ?_ | refine WC.draw 3 rfl (by decide +kernel) ?_ | refine WC.draw 4 rfl (by decide +kernel) ?_ | refine WC.draw 5 rfl (by decide +kernel) ?_ | refine WC.draw 6 rfl (by decide +kernel) ?_ | refine WC.draw 7 rfl (by decide +kernel) ?_ | refine WC.draw 8 rfl (by decide +kernel) ?_ | refine WC.draw 9 rfl (by decide +kernel) ?_ | refine WC.draw 10 rfl (by decide +kernel) ?_ | refine WC.draw 11 rfl (by decide +kernel) ?_ | refine WC.draw 12 rfl (by decide +kernel) ?_ | refine WC.draw 13 rfl (by decide +kernel) ?_ | refine WC.draw 14 rfl (by decide +kernel) ?_ | refine WC.draw 15 rfl (by decide +kernel) ?_ | refine WC.draw 16 rfl (by decide +kernel) ?_ | refine WC.draw 17 rfl (by decide +kernel) ?_ | refine WC.draw 18 rfl (by decide +kernel) ?_ | refine WC.draw 19 rfl (by decide +kernel) ?_ | refine WC.draw 20 rfl (by decide +kernel) ?_ | refine WC.draw 21 rfl (by decide +kernel) ?_ | refine WC.draw 22 rfl (by decide +kernel) ?_ | refine WC.draw 23 rfl (by decide +kernel) ?_ | refine WC.draw 24 rfl (by decide +kernel) ?_)); (repeat (refine WD.cons rfl (fun c h => by cases h) sq_R30_1 ?_)); refine WD.nil ?_)); (try (refine st ?_; (repeat intro zzc))))); (repeat ((first | (refine iF 70 rfl ?_; refine w_callG Try.func70 ?_ (hs := within_is (by (first | with_reducible exact natz _ | with_reducible exact natz0 | with_reducible exact natz1 | with_reducible exact natz2 | with_reducible exact natz3 | with_reducible exact natz4 | with_reducible exact natz8 | (apply natz_add; (· first | with_reducible exact natz _ | with_reducible exact natz0 | with_reducible exact natz1 | with_reducible exact natz2 | with_reducible exact natz3 | with_reducible exact natz4 | with_reducible exact natz8); (· first | with_reducible exact natz _ | with_reducible exact natz0 | with_reducible exact natz1 | with_reducible exact natz2 | with_reducible exact natz3 | with_reducible exact natz4 | with_reducible exact natz8)) | (apply natz_sub; (· first | with_reducible exact natz _ | with_reducible exact natz0 | with_reducible exact natz1 | with_reducible exact natz2 | with_reducible exact natz3 | with_reducible exact natz4 | with_reducible exact natz8); (· first | with_reducible exact natz _ | with_reducible exact natz0 | with_reducible exact natz1 | with_reducible exact natz2 | with_reducible exact natz3 | with_reducible exact natz4 | with_reducible exact natz8); (· omega)) | exact (Int.toNat_of_nonneg (by omega)).symm)) (by omega) (by omega) (by assumption) (by assumption) _ _ _)) | (refine iF 70 rfl ?_; refine w_callG Try.func70 ?_ (hs := within_no_z _ _ (by (first | with_reducible exact natz _ | with_reducible exact natz0 | with_reducible exact natz1 | with_reducible exact natz2 | with_reducible exact natz3 | with_reducible exact natz4 | with_reducible exact natz8 | (apply natz_add; (· first | with_reducible exact natz _ | with_reducible exact natz0 | with_reducible exact natz1 | with_reducible exact natz2 | with_reducible exact natz3 | with_reducible exact natz4 | with_reducible exact natz8); (· first | with_reducible exact natz _ | with_reducible exact natz0 | with_reducible exact natz1 | with_reducible exact natz2 | with_reducible exact natz3 | with_reducible exact natz4 | with_reducible exact natz8)) | (apply natz_sub; (· first | with_reducible exact natz _ | with_reducible exact natz0 | with_reducible exact natz1 | with_reducible exact natz2 | with_reducible exact natz3 | with_reducible exact natz4 | with_reducible exact natz8); (· first | with_reducible exact natz _ | with_reducible exact natz0 | with_reducible exact natz1 | with_reducible exact natz2 | with_reducible exact natz3 | with_reducible exact natz4 | with_reducible exact natz8); (· omega)) | exact (Int.toNat_of_nonneg (by omega)).symm)) (by omega) (by omega) (by assumption) _ _ _)) | ((refine iDraw ?_; (first | refine WC.drawAll rfl (by decide +kernel) ?_ | refine WC.draw 1 rfl (by decide +kernel) ?_ | refine WC.draw 2 rfl (by decide +kernel) ?_ | refine WC.draw 3 rfl (by decide +kernel) ?_ | refine WC.draw 4 rfl (by decide +kernel) ?_ | refine WC.draw 5 rfl (by decide +kernel) ?_ | refine WC.draw 6 rfl (by decide +kernel) ?_ | refine WC.draw 7 rfl (by decide +kernel) ?_ | refine WC.draw 8 rfl (by decide +kernel) ?_ | refine WC.draw 9 rfl (by decide +kernel) ?_ | refine WC.draw 10 rfl (by decide +kernel) ?_ | refine WC.draw 11 rfl (by decide +kernel) ?_ | refine WC.draw 12 rfl (by decide +kernel) ?_ | refine WC.draw 13 rfl (by decide +kernel) ?_ | refine WC.draw 14 rfl (by decide +kernel) ?_ | refine WC.draw 15 rfl (by decide +kernel) ?_ | refine WC.draw 16 rfl (by decide +kernel) ?_ | refine WC.draw 17 rfl (by decide +kernel) ?_ | refine WC.draw 18 rfl (by decide +kernel) ?_ | refine WC.draw 19 rfl (by decide +kernel) ?_ | refine WC.draw 20 rfl (by decide +kernel) ?_ | refine WC.draw 21 rfl (by decide +kernel) ?_ | refine WC.draw 22 rfl (by decide +kernel) ?_ | refine WC.draw 23 rfl (by decide +kernel) ?_ | refine WC.draw 24 rfl (by decide +kernel) ?_)); (repeat (refine WD.cons rfl (fun c h => by cases h) sq_R30_1 ?_)); refine WD.nil ?_)); (try (refine st ?_; (repeat intro zzc))))); (repeat revert zzc); exact zzn.out) : G := h ⟨next⟩
theorem seam_any_yes (a b : List UInt8) (i : Nat) (ha : a.length ≤ 1099511627776) (hb : b.length ≤ 1099511627776) (h : Within (a ++ b) a.length i) (w0 : World) (m : Mem) (H : SHeap) :
    Does Try.prog 55 #[str a, str b] w0 m H (Gives (.tuple #[spanV i (i + (readP (a ++ b) i).w), .bool true]) m H) := by
  refine Does.of_body (args := [str a, str b]) Try.func55 rfl Try.ntmps55 rfl ?_
  obtain ⟨h1, h2, h3, h4, h5⟩ := seam_yes h
  have hab : (a ++ b).length = a.length + b.length := by simp
  have e : b.take 3 = b.take (min b.length 3) := by rw [List.take_eq_take_iff]; omega
  rw [about, e] at h2 h3
  have hd : (a.drop (a.length - 3)).length = a.length - (a.length - 3) := by simp
  have ht : (b.take (min b.length 3)).length ≤ 3 := by simp; omega
  have hj : i - (a.length - 3) + (a.length - 3) = i := by omega
  have hat := readP_at (a.drop (a.length - 3) ++ b.take (min b.length 3)) (i - (a.length - 3))
  obtain ⟨p, hp⟩ : ∃ p, readP (a.drop (a.length - 3) ++ b.take (min b.length 3)) (i - (a.length - 3)) = p := ⟨_, rfl⟩
  rw [hp] at h3 hat
  have hal : (a.drop (a.length - 3) ++ b.take (min b.length 3)).length ≤ 6 := by rw [List.length_append]; omega
  have hal2 : (a.drop (a.length - 3)).length ≤ (a.drop (a.length - 3) ++ b.take (min b.length 3)).length := by rw [List.length_append]; omega
  have r1 : (max ((a.length : Int) - 3) 0).toNat = a.length - 3 := by omega
  have r2 : (min (b.length : Int) 3).toNat = min b.length 3 := by omega
  (try (refine st_R30_1 ?_; intros))
  rw [r1, r2]
  (try (refine st_R30_1 ?_; intros))
  (refine q_fin0 ?_)
  refine Gives.mk ?_
  have e1 : (a.length : Int) - ((a.drop (a.length - 3)).length : Int) + (p.at_ : Int) = (i : Int) := by omega
  rw [e1, spanV, ← h3]
theorem seam_any_no (a b : List UInt8) (ha : a.length ≤ 1099511627776) (hb : b.length ≤ 1099511627776) (h : ¬ ∃ i, Within (a ++ b) a.length i) (w0 : World) (m : Mem) (H : SHeap) :
    Does Try.prog 55 #[str a, str b] w0 m H (Gives (.tuple #[spanV 0 0, .bool false]) m H) := by
  refine Does.of_body (args := [str a, str b]) Try.func55 rfl Try.ntmps55 rfl ?_
  have h2 := seam_no h
  have e : b.take 3 = b.take (min b.length 3) := by rw [List.take_eq_take_iff]; omega
  rw [about, e] at h2
  have hd : (a.drop (a.length - 3)).length = a.length - (a.length - 3) := by simp
  have ht : (b.take (min b.length 3)).length ≤ 3 := by simp; omega
  have hal : (a.drop (a.length - 3) ++ b.take (min b.length 3)).length ≤ 6 := by rw [List.length_append]; omega
  have hal2 : (a.drop (a.length - 3)).length ≤ (a.drop (a.length - 3) ++ b.take (min b.length 3)).length := by rw [List.length_append]; omega
  have r1 : (max ((a.length : Int) - 3) 0).toNat = a.length - 3 := by omega
  have r2 : (min (b.length : Int) 3).toNat = min b.length 3 := by omega
  (try (refine st_R30_1 ?_; intros))
  rw [r1, r2]
  (try (refine st_R30_1 ?_; intros))
  (refine q_fin0 ?_)
  exact Gives.mk rfl
theorem refSeam_yes (a b : List UInt8) (i : Nat) (ha : a.length ≤ 1099511627776) (hb : b.length ≤ 1099511627776) (h : Within (a ++ b) a.length i) (w0 : World) (m : Mem) (H : SHeap) :
    Does Try.prog 56 #[str a, str b] w0 m H (Gives (.tuple #[spanV i (i + (readP (a ++ b) i).w), .bool true]) m H) := by
  refine Does.of_body (args := [str a, str b]) Try.func56 rfl Try.ntmps56 rfl ?_
  have hal : (a ++ b).length = a.length + b.length := by simp
  obtain ⟨hr, hi, _, _⟩ := within_reach (by omega) h
  have hm := reach_mem hr hi
  have hat := readP_at (a ++ b) i
  have hi1 := h.1
  have hi2 := h.2.1
  have hpl := pieces_length (a ++ b)
  have hml : ((pieces (a ++ b)).map Pc.cs).length = (pieces (a ++ b)).length := by simp
  (refine st_R30_1 ?_; intros; rename_i b4)
  refine w_callF Try.func19 ?_ (hs := refPieces_any _ (by omega) _ _ _)
  rintro _ m _ ⟨x0, cx, rfl, rfl, rfl⟩
  rw [hml]
  (try (refine st_R30_1 ?_; intros))
  refine WC.loopH [(13, .int .i64 ((0) : Int)), (12, .int .i64 ((pieces (a ++ b)).length : Int)), (11, .slice x0 (pieces (a ++ b)).length cx), (0, str a), (1, str b), (4, .pointer (some ⟨b4, 0, none⟩))] ?_ ?_ (fun j r ds m' H' => ∃ k, j = (pieces (a ++ b)).length - k ∧ r = [(13, .int .i64 (k : Int)), (12, .int .i64 ((pieces (a ++ b)).length : Int)), (11, .slice x0 (pieces (a ++ b)).length cx), (0, str a), (1, str b), (4, .pointer (some ⟨b4, 0, none⟩))] ∧ ds = [] ∧ m = m' ∧ H' = .row x0 cx 24 4 ((pieces (a ++ b)).map Pc.cs) :: .blk b4 (.cells [.int .i64 0, .int .i64 0].toArray 42 (0, 0)) :: H ∧ (k ≤ (pieces (a ++ b)).length) ∧ (∀ q ∈ (pieces (a ++ b)).take k, ¬ (q.at_ < a.length ∧ a.length < q.at_ + q.w))) ((pieces (a ++ b)).length - (0)) ⟨0, rfl, rfl, rfl, rfl, rfl, by omega, by simp⟩ ?_
  · (repeat (first | exact Env.Sub.nil | refine Env.Sub.cons rfl ?_))
  · exact (fun w h => Pick.sat (by iterate 60 (try (first | exact Pick.all | (apply Pick.take; (· (repeat (first | exact Out.here | apply Out.there)))) | apply Pick.drop))) h)
  rintro j r ds m' H' ⟨k, rfl, rfl, rfl, rfl, rfl, hk, hno⟩
  by_cases hlt : k < (pieces (a ++ b)).length
  · obtain ⟨x, hx, hget, htk, hmem, hdr⟩ := at_idx (f := Pc.cs) hlt
    have hxw := mem_w hmem
    refine WC.rowSome (a := x0) (by (repeat (first | exact List.Mem.head _ | apply List.Mem.tail))) (by omega) ?_
    rintro x1 rfl
    by_cases c1 : x.at_ < a.length
    · by_cases c2 : a.length < x.at_ + x.w
      · have hxi := within_unique (by omega) h (over_within hmem c1 c2)
        have hxr := (reach_of_mem hmem).2.2
        rw [← hxi] at hxr
        rw [← hxr]
        (try (refine st_R30_1 ?_; intros))
        (refine q_fin0 ?_)
        exact Gives.mk (by rw [spanV, hxi])
      · (try (refine st_R30_1 ?_; intros))
        refine WQ.next ((pieces (a ++ b)).length - (k + 1)) ⟨k + 1, rfl, rfl, rfl, rfl, rfl, ?_, ?_⟩ (by omega) (by (repeat (first | exact Env.Sub.nil | refine Env.Sub.cons rfl ?_))) (fun w h => Pick.sat (by iterate 60 (try (first | exact Pick.all | (apply Pick.take; (· (repeat (first | exact Out.here | apply Out.there)))) | apply Pick.drop))) h)
        · omega
        · rw [htk]; intro q hq; rcases List.mem_append.1 hq with h | h
          · exact hno q h
          · simp at h; subst h; omega
    · (try (refine st_R30_1 ?_; intros))
      refine WQ.next ((pieces (a ++ b)).length - (k + 1)) ⟨k + 1, rfl, rfl, rfl, rfl, rfl, ?_, ?_⟩ (by omega) (by (repeat (first | exact Env.Sub.nil | refine Env.Sub.cons rfl ?_))) (fun w h => Pick.sat (by iterate 60 (try (first | exact Pick.all | (apply Pick.take; (· (repeat (first | exact Out.here | apply Out.there)))) | apply Pick.drop))) h)
      · omega
      · rw [htk]; intro q hq; rcases List.mem_append.1 hq with h | h
        · exact hno q h
        · simp at h; subst h; omega
  · obtain rfl : k = (pieces (a ++ b)).length := by omega
    rw [List.take_length] at hno
    exact absurd ⟨by omega, by omega⟩ (hno _ hm)
theorem refSeam_no (a b : List UInt8) (ha : a.length ≤ 1099511627776) (hb : b.length ≤ 1099511627776) (h : ¬ ∃ i, Within (a ++ b) a.length i) (w0 : World) (m : Mem) (H : SHeap) :
    Does Try.prog 56 #[str a, str b] w0 m H (Gives (.tuple #[spanV 0 0, .bool false]) m H) := by
  refine Does.of_body (args := [str a, str b]) Try.func56 rfl Try.ntmps56 rfl ?_
  have hal : (a ++ b).length = a.length + b.length := by simp
  have hpl := pieces_length (a ++ b)
  have hml : ((pieces (a ++ b)).map Pc.cs).length = (pieces (a ++ b)).length := by simp
  (refine st_R30_1 ?_; intros; rename_i b4)
  refine w_callF Try.func19 ?_ (hs := refPieces_any _ (by omega) _ _ _)
  rintro _ m _ ⟨x0, cx, rfl, rfl, rfl⟩
  rw [hml]
  (try (refine st_R30_1 ?_; intros))
  refine WC.loopH [(13, .int .i64 ((0) : Int)), (12, .int .i64 ((pieces (a ++ b)).length : Int)), (11, .slice x0 (pieces (a ++ b)).length cx), (0, str a), (1, str b), (4, .pointer (some ⟨b4, 0, none⟩))] ?_ ?_ (fun j r ds m' H' => ∃ k, j = (pieces (a ++ b)).length - k ∧ r = [(13, .int .i64 (k : Int)), (12, .int .i64 ((pieces (a ++ b)).length : Int)), (11, .slice x0 (pieces (a ++ b)).length cx), (0, str a), (1, str b), (4, .pointer (some ⟨b4, 0, none⟩))] ∧ ds = [] ∧ m = m' ∧ H' = .row x0 cx 24 4 ((pieces (a ++ b)).map Pc.cs) :: .blk b4 (.cells [.int .i64 0, .int .i64 0].toArray 42 (0, 0)) :: H ∧ (k ≤ (pieces (a ++ b)).length)) ((pieces (a ++ b)).length - (0)) ⟨0, rfl, rfl, rfl, rfl, rfl, by omega⟩ ?_
  · (repeat (first | exact Env.Sub.nil | refine Env.Sub.cons rfl ?_))
  · exact (fun w h => Pick.sat (by iterate 60 (try (first | exact Pick.all | (apply Pick.take; (· (repeat (first | exact Out.here | apply Out.there)))) | apply Pick.drop))) h)
  rintro j r ds m' H' ⟨k, rfl, rfl, rfl, rfl, rfl, hk⟩
  by_cases hlt : k < (pieces (a ++ b)).length
  · obtain ⟨x, hx, hget, htk, hmem, hdr⟩ := at_idx (f := Pc.cs) hlt
    have hxw := mem_w hmem
    refine WC.rowSome (a := x0) (by (repeat (first | exact List.Mem.head _ | apply List.Mem.tail))) (by omega) ?_
    rintro x1 rfl
    by_cases c1 : x.at_ < a.length
    · have c2 : ¬ a.length < x.at_ + x.w := fun c2 => h ⟨_, over_within hmem c1 c2⟩
      (try (refine st_R30_1 ?_; intros))
      refine WQ.next ((pieces (a ++ b)).length - (k + 1)) ⟨k + 1, rfl, rfl, rfl, rfl, rfl, ?_⟩ (by omega) (by (repeat (first | exact Env.Sub.nil | refine Env.Sub.cons rfl ?_))) (fun w h => Pick.sat (by iterate 60 (try (first | exact Pick.all | (apply Pick.take; (· (repeat (first | exact Out.here | apply Out.there)))) | apply Pick.drop))) h)
      omega
    · (try (refine st_R30_1 ?_; intros))
      refine WQ.next ((pieces (a ++ b)).length - (k + 1)) ⟨k + 1, rfl, rfl, rfl, rfl, rfl, ?_⟩ (by omega) (by (repeat (first | exact Env.Sub.nil | refine Env.Sub.cons rfl ?_))) (fun w h => Pick.sat (by iterate 60 (try (first | exact Pick.all | (apply Pick.take; (· (repeat (first | exact Out.here | apply Out.there)))) | apply Pick.drop))) h)
      omega
  · (try (refine st_R30_1 ?_; intros))
    (refine q_fin0 ?_)
    exact Gives.mk rfl
end Go.Proofs.Ytdmdabjaboigcaa

/-
  The walks of package runes and of its reference, tenth part: the reference's boundaries. No condition.
-/
namespace Go.Proofs.Ytdmdabjaboigcaa
open Go Go.Eng
set_option maxRecDepth 100000
set_option maxHeartbeats 4000000
set_option linter.all false
attribute [local irreducible] WL WC WQ QFun QLoop Does Q1 QRound QAssign Go.Addr.add
def iV (k : Nat) : List Value := [.int .i64 (k : Int)]

theorem refEnds_any (l : List UInt8) (hl : l.length ≤ 5000000000000) (w0 : World) (m : Mem) (H : SHeap) :
    Does Try.prog 71 #[str l] w0 m H (MakesRow 3 1 ((endsOf l).map iV) m H) := by
  refine Does.of_body (args := [str l]) Try.func71 rfl Try.ntmps71 rfl ?_
  have hpl := pieces_length l
  (refine st ?_; intros; rename_i bk)
  refine w_callF Try.func19 ?_ (hs := refPieces_any _ hl _ _ _)
  rintro _ m H1 ⟨a, cap, rfl, rfl, rfl⟩
  (try (refine st ?_; intros))
  refine WC.pull (List.Perm.swap _ _ _) ?_
  refine WC.loopW [(10, .int .i64 0), (9, .int .i64 (((pieces l).map Pc.cs).length : Int)), (8, .slice a ((pieces l).map Pc.cs).length cap), (3, .slice (some ⟨bk, 0, none⟩) 0 0), (0, str l)] ?_
    (fun j r ds m' H' => ∃ i a3 cap3, j = (pieces l).length - i ∧ i ≤ (pieces l).length ∧ r = [(10, .int .i64 (i : Int)), (9, .int .i64 (((pieces l).map Pc.cs).length : Int)), (8, .slice a ((pieces l).map Pc.cs).length cap), (3, .slice a3 i cap3), (0, str l)] ∧ ds = [] ∧ m' = m ∧
      H' = .row a3 cap3 3 1 (((pieces l).take i).map fun p => iV p.at_) :: .row a cap 24 4 ((pieces l).map Pc.cs) :: H) (pieces l).length ⟨0, _, _, rfl, by omega, rfl, rfl, rfl, rfl⟩ ?_
  · (repeat (first | exact Env.Sub.nil | refine Env.Sub.cons rfl ?_))
  rintro j r ds m' H' ⟨i, a3, cap3, rfl, hi, rfl, rfl, rfl, rfl⟩
  have hpm : ((pieces l).map Pc.cs).length = (pieces l).length := by simp
  have htl : (((pieces l).take i).map fun p => iV p.at_).length = i := by simp; omega
  by_cases hlt : i < (pieces l).length
  · have hget : ((pieces l).map Pc.cs)[i]? = some ((pieces l)[i]).cs := by rw [List.getElem?_map, List.getElem?_eq_getElem hlt]; rfl
    generalize hp : (pieces l)[i] = p at hget
    refine WC.rowSome (a := a) (by (repeat (first | exact List.Mem.head _ | apply List.Mem.tail))) (by omega) ?_
    rintro a0 rfl
    (refine st ?_; intros; rename_i ak ck)
    refine WQ.next ((pieces l).length - (i + 1)) ⟨i + 1, ak, ck, rfl, by omega, rfl, rfl, rfl, rfl⟩ (by omega) ?_ ?_
    · rw [htl]
      (repeat (first | exact Env.Sub.nil | refine Env.Sub.cons rfl ?_))
    · rw [List.take_succ_eq_append_getElem hlt, hp, List.map_append]
      exact (fun w h => h.sublist (by repeat (first | exact List.Sublist.refl _ | apply List.Sublist.cons_cons | apply List.Sublist.cons)))
  · obtain rfl : i = (pieces l).length := by omega
    rw [List.take_length] at htl ⊢
    have he : (endsOf l).map iV = ((pieces l).map fun p => iV p.at_) ++ [[.int .i64 (l.length : Int)]] := by simp [endsOf, iV]
    rw [he]
    (refine st ?_; intros; rename_i ak ck)
    refine q_fin0 (H0 := .row ak ck 3 1 _ :: H) ⟨ak, ck, ?_, rfl, rfl⟩ (hd := (fun w h => h.sublist (by repeat (first | exact List.Sublist.refl _ | apply List.Sublist.cons_cons | apply List.Sublist.cons))))
    rw [List.length_append]; rfl
theorem ends_length (l : List UInt8) : (endsOf l).length ≤ l.length + 1 := by
  have := pieces_length l
  simp [endsOf]; omega
theorem refBound_any (l : List UInt8) (k : Int) (hl : l.length ≤ 5000000000000) (w0 : World) (m : Mem) (H : SHeap) :
    Does Try.prog 30 #[str l, .int .i64 k] w0 m H (Gives (.bool (dcd (∃ x ∈ endsOf l, (x : Int) = k))) m H) := by
  refine Does.of_body (args := [str l, .int .i64 k]) Try.func30 rfl Try.ntmps30 rfl ?_
  have hel := ends_length l
  have hem : ((endsOf l).map iV).length = (endsOf l).length := by simp
  (try (refine st ?_; intros))
  refine w_callF Try.func71 ?_ (hs := refEnds_any _ hl _ _ _)
  rintro _ m H1 ⟨a, cap, rfl, rfl, rfl⟩
  (try (refine st ?_; intros))
  refine WC.loopW [(10, .int .i64 0), (9, .int .i64 (((endsOf l).map iV).length : Int)), (8, .slice a ((endsOf l).map iV).length cap), (1, .int .i64 k)] ?_
    (fun j r ds m' H' => ∃ i, j = (endsOf l).length - i ∧ i ≤ (endsOf l).length ∧ r = [(10, .int .i64 (i : Int)), (9, .int .i64 (((endsOf l).map iV).length : Int)), (8, .slice a ((endsOf l).map iV).length cap), (1, .int .i64 k)] ∧ ds = [] ∧ m' = m ∧
      H' = .row a cap 3 1 ((endsOf l).map iV) :: H ∧ ∀ x ∈ (endsOf l).take i, ¬ (x : Int) = k) (endsOf l).length ⟨0, rfl, by omega, rfl, rfl, rfl, rfl, by simp⟩ ?_
  · (repeat (first | exact Env.Sub.nil | refine Env.Sub.cons rfl ?_))
  rintro j r ds m' H' ⟨i, rfl, hi, rfl, rfl, rfl, rfl, hno⟩
  by_cases hlt : i < (endsOf l).length
  · have hget : ((endsOf l).map iV)[i]? = some [.int .i64 (((endsOf l)[i] : Nat) : Int)] := by rw [List.getElem?_map, List.getElem?_eq_getElem hlt]; rfl
    have hmem : (endsOf l)[i] ∈ endsOf l := List.getElem_mem hlt
    have htk := List.take_succ_eq_append_getElem hlt
    generalize hp : (endsOf l)[i] = p at hget hmem htk
    refine WC.rowSome (a := a) (by (repeat (first | exact List.Mem.head _ | apply List.Mem.tail))) (by omega) ?_
    rintro a0 rfl
    (try (refine st ?_; intros))
    (first | refine c_ways (fun h1 => ?_) (fun h1 => ?_) | refine c_nways (fun h1 => ?_) (fun h1 => ?_) | refine w_gways (fun h1 => ?_) (fun h1 => ?_) | refine w_gnways (fun h1 => ?_) (fun h1 => ?_))
    · (try (refine st ?_; intros))
      (refine q_fin0 ?_)
      exact Gives.mk (vb_t ⟨p, hmem, h1⟩)
    · (try (refine st ?_; intros))
      refine WQ.next ((endsOf l).length - (i + 1)) ⟨i + 1, rfl, by omega, rfl, rfl, rfl, rfl, ?_⟩ (by omega) (by (repeat (first | exact Env.Sub.nil | refine Env.Sub.cons rfl ?_))) (fun w h => h)
      intro x hx
      rw [htk] at hx
      rcases List.mem_append.1 hx with hx | hx
      · exact hno x hx
      · rw [List.mem_singleton.1 hx]; exact h1
  · have hall : (endsOf l).take i = endsOf l := List.take_of_length_le (by omega)
    rw [hall] at hno
    (try (refine st ?_; intros))
    (refine q_fin0 ?_)
    exact Gives.mk (vb_f (fun ⟨x, h1, h2⟩ => hno x h1 h2))
end Go.Proofs.Ytdmdabjaboigcaa

/-
  Plain facts: the broken bytes of a text, its longest runs. No condition.
-/
set_option linter.all false
namespace Go.Eng
open Go
def brokenOf (ps : List Pc) : List Nat := (ps.filter fun p => p.b).map Pc.at_
theorem brokenOf_snoc (ps : List Pc) (p : Pc) : brokenOf (ps ++ [p]) = brokenOf ps ++ (if p.b then [p.at_] else []) := by
  unfold brokenOf; rw [List.filter_append, List.map_append]; cases hp : p.b <;> simp [hp]
theorem brokenOf_length (ps : List Pc) : (brokenOf ps).length ≤ ps.length := by
  unfold brokenOf; rw [List.length_map]; exact List.length_filter_le _ _
structure Pt where
  f : Nat
  t : Nat
  b : Bool
def Pt.cs (p : Pt) : List Value := [.int .i64 (p.f : Int), .int .i64 (p.t : Int), .bool p.b]
def addPart (acc : List Pt) (p : Pc) : List Pt := match acc.getLast? with
  | some q => if q.b = p.b then acc.set (acc.length - 1) ⟨q.f, p.at_ + p.w, q.b⟩ else acc ++ [⟨p.at_, p.at_ + p.w, p.b⟩]
  | none => acc ++ [⟨p.at_, p.at_ + p.w, p.b⟩]
def partsOf (ps : List Pc) : List Pt := ps.foldl addPart []
theorem partsOf_snoc (ps : List Pc) (p : Pc) : partsOf (ps ++ [p]) = addPart (partsOf ps) p := by simp [partsOf]
theorem addPart_nil (p : Pc) : addPart [] p = [⟨p.at_, p.at_ + p.w, p.b⟩] := rfl
theorem addPart_eq {acc : List Pt} {q : Pt} {p : Pc} (h : q.b = p.b) : addPart (acc ++ [q]) p = acc ++ [⟨q.f, p.at_ + p.w, q.b⟩] := by
  simp [addPart, h]
theorem addPart_ne {acc : List Pt} {q : Pt} {p : Pc} (h : ¬ q.b = p.b) : addPart (acc ++ [q]) p = acc ++ [q] ++ [⟨p.at_, p.at_ + p.w, p.b⟩] := by
  simp [addPart, h]
theorem addPart_length (acc : List Pt) (p : Pc) : (addPart acc p).length ≤ acc.length + 1 := by
  unfold addPart
  split
  · split
    · simp
    · simp
  · simp
theorem partsOf_length (ps : List Pc) : (partsOf ps).length ≤ ps.length := by
  have : ∀ (ps : List Pc) (acc : List Pt), (ps.foldl addPart acc).length ≤ acc.length + ps.length := by
    intro ps
    induction ps with
    | nil => intro acc; simp
    | cons p ps ih =>
      intro acc
      have h1 := ih (addPart acc p)
      have h2 := addPart_length acc p
      simp only [List.foldl_cons, List.length_cons]
      omega
  simpa [partsOf] using this ps []
theorem nil_or_snoc {α : Type} (l : List α) : l = [] ∨ ∃ ys q, l = ys ++ [q] := by
  rcases List.eq_nil_or_concat l with h | ⟨ys, q, h⟩
  · exact .inl h
  · exact .inr ⟨ys, q, by rw [h]; simp⟩
end Go.Eng

/-
  The walks of package runes, thirteenth part: Right, Broken, Parts. No condition.
-/
namespace Go.Proofs.Ytdmdabjaboigcaa
open Go Go.Eng
set_option maxRecDepth 100000
set_option maxHeartbeats 4000000
set_option linter.all false
attribute [local irreducible] WL WC WQ QFun QLoop Does Q1 QRound QAssign Go.Addr.add
theorem sq_R13_1 {G : Prop} (h : G := by (repeat (first | (refine sp ?_; (repeat intro zzc)) | (refine iF 21 rfl ?_; refine w_callG Try.func21 ?_ (hs := count_any _ (by omega) _ _ _)))); exact WQ.q1 rfl) : G := h
theorem st_R13_1 {G G' : Prop} (next : G') (h : Bx G' → G := by intro zzn; (first | ((refine st ?_; (repeat intro zzc)); (try ((first | (refine iF 21 rfl ?_; refine w_callG Try.func21 ?_ (hs := count_any _ (by omega) _ _ _)) | ((refine iDraw ?_; (first | refine WC.drawAll rfl (by decide +kernel) ?_ | refine WC.draw 1 rfl (by decide +kernel) ?_ | refine WC.draw 2 rfl (by decide +kernel) ?_ | refine WC.draw 3 rfl (by decide +kernel) ?_ | refine WC.draw 4 rfl (by decide +kernel) ?_ | refine WC.draw 5 rfl (by decide +kernel) ?_ | refine WC.draw 6 rfl (by decide +kernel) ?_ | refine WC.draw 7 rfl (by decide +kernel) ?_ | refine WC.draw 8 rfl (by decide +kernel) ?_ | refine WC.draw 9 rfl (by decide +kernel) ?_ | refine WC.draw 10 rfl (by decide +kernel) ?_ | refine WC.draw 11 rfl (by decide +kernel) ?_ | refine WC.draw 12 rfl (by decide +kernel) ?_ | refine WC.draw 13 rfl (by decide +kernel) ?_ | refine WC.draw 14 rfl (by decide +kernel) ?_ | refine WC.draw 15 rfl (by decide +kernel) ?_ | refine WC.draw 16 rfl (by decide +kernel) ?_ | refine WC.draw 17 rfl (by decide +kernel) ?_ | refine WC.draw 18 rfl (by decide +kernel) ?_ | refine WC.draw 19 rfl (by decide +kernel) ?_ | refine WC.draw 20 rfl (by decide +kernel) ?_ | refine WC.draw 21 rfl (by decide +kernel) ?_ | refine WC.draw 22 rfl (by decide +kernel) ?_ | refine WC.draw 23 rfl (by decide +kernel) ?_ | refine WC.draw 24 rfl (by decide +kernel) ?_)); (repeat (refine WD.cons rfl (fun c h => by cases h) sq_R13_1 ?_)); refine WD.nil ?_)); (try (refine st ?_; (repeat intro zzc)))))) | ((first | (refine iF 21 rfl ?_; refine w_callG Try.func21 ?_ (hs := count_any _ (by omega) _ _ _)) | ((refine iDraw ?_; (first | refine WC.drawAll rfl (by decide +kernel) ?_ | refine WC.draw 1 rfl (by decide +kernel) ?_ | refine WC.draw 2 rfl (by decide +kernel) ?_ | refine WC.draw 3 rfl (by decide +kernel) ?_ | refine WC.draw 4 rfl (by decide +kernel) ?_ | refine WC.draw 5 rfl (by decide +kernel) ?_ | refine WC.draw 6 rfl (by decide +kernel) ?_ | refine WC.draw 7 rfl (by decide +kernel) ?_ | refine WC.draw 8 rfl (by decide +kernel) ?_ | refine WC.draw 9 rfl (by decide +kernel) ?_ | refine WC.draw 10 rfl (by decide +kernel) ?_ | refine WC.draw 11 rfl (by decide +kernel) ?_ | refine WC.draw 12 rfl (by decide +kernel) ?_ | refine WC.draw 13 rfl (by decide +kernel) ?_ | refine WC.draw 14 rfl (by decide +kernel) ?_ | refine WC.draw 15 rfl (by decide +kernel) ?_ | refine WC.draw 16 rfl (by decide +kernel) ?_ | refine WC.draw 17 rfl (by decide +kernel) ?_ | refine WC.draw 18 rfl (by decide +kernel) ?_ | refine WC.draw 19 rfl (by decide +kernel) ?_ | refine WC.draw 20 rfl (by decide +kernel) ?_ | refine WC.draw 21 rfl (by decide +kernel) ?_ | refine WC.draw 22 rfl (by decide +kernel) ?_ | refine WC.draw 23 rfl (by decide +kernel) ?_ | refine WC.draw 24 rfl (by decide +kernel) ?_)); (repeat (refine WD.cons rfl (fun c h => by cases h) sq_R13_1 ?_)); refine WD.nil ?_)); (try (refine st ?_; (repeat intro zzc))))); (repeat ((first | (refine iF 21 rfl ?_; refine w_callG Try.func21 ?_ (hs := count_any _ (by omega) _ _ _)) | ((refine iDraw ?_; (first | refine WC.drawAll rfl (by decide +kernel) ?_ | refine WC.draw 1 rfl (by decide +kernel) ?_ | refine WC.draw 2 rfl (by decide +kernel) ?_ | refine WC.draw 3 rfl (by decide +kernel) ?_ | refine WC.draw 4 rfl (by decide +kernel) ?_ | refine WC.draw 5 rfl (by decide +kernel) ?_ | refine WC.draw 6 rfl (by decide +kernel) ?_ | refine WC.draw 7 rfl (by decide +kernel) ?_ | refine WC.draw 8 rfl (by decide +kernel) ?_ | refine WC.draw 9 rfl (by decide +kernel) ?_ | refine WC.draw 10 rfl (by decide +kernel) ?_ | refine WC.draw 11 rfl (by decide +kernel) ?_ | refine WC.draw 12 rfl (by decide +kernel) ?_ | refine WC.draw 13 rfl (by decide +kernel) ?_ | refine WC.draw 14 rfl (by decide +kernel) ?_ | refine WC.draw 15 rfl (by decide +kernel) ?_ | refine WC.draw 16 rfl (by decide +kernel) ?_ | refine WC.draw 17 rfl (by decide +kernel) ?_ | refine WC.draw 18 rfl (by decide +kernel) ?_ | refine WC.draw 19 rfl (by decide +kernel) ?_ | refine WC.draw 20 rfl (by decide +kernel) ?_ | refine WC.draw 21 rfl (by decide +kernel) ?_ | refine WC.draw 22 rfl (by decide +kernel) ?_ | refine WC.draw 23 rfl (by decide +kernel) ?_ | refine WC.draw 24 rfl (by decide +kernel) ?_)); (repeat (refine WD.cons rfl (fun c h => by cases h) sq_R13_1 ?_)); refine WD.nil ?_)); (try (refine st ?_; (repeat intro zzc))))); (repeat revert zzc); exact zzn.out) : G := h ⟨next⟩
theorem right_any (l : List UInt8) (hl : l.length ≤ 5000000000000) (w0 : World) (m : Mem) (H : SHeap) :
    Does Try.prog 22 #[str l] w0 m H (Gives (.bool (dcd ((nBroken (pieces l) : Int) = 0))) m H) := by
  refine Does.of_body (args := [str l]) Try.func22 rfl Try.ntmps22 rfl ?_
  (try (refine st_R13_1 ?_; intros))
  (refine q_fin0 ?_)
  exact Gives.mk rfl
theorem broken_any (l : List UInt8) (hl : l.length ≤ 5000000000000) (w0 : World) (m : Mem) (H : SHeap) :
    Does Try.prog 23 #[str l] w0 m H (MakesRow 3 1 ((brokenOf (pieces l)).map iV) m H) := by
  refine Does.of_body (args := [str l]) Try.func23 rfl Try.ntmps23 rfl ?_
  have hpl := pieces_length l
  (refine st_R13_1 ?_; intros; rename_i bl)
  refine w_callF Try.func38 ?_ (hs := pieces_any _ _ _ _)
  rintro _ m0 H0 ⟨b, rfl, rfl, rfl⟩
  (try (refine st_R13_1 ?_; intros))
  refine WC.persist (by (repeat (first | exact Out.here | apply Out.there))) ?_
  intro mp hle hb
  refine WC.newRow (T := 3) (sz := 1) ?_
  apply WC.rangeFunc (encs := fun p : Pc => [p.v]) (xs := pieces l) (Cap := TextAt b l) (lb := [.pointer (some ⟨b, 0, none⟩)]) (ps := [7])
    (J := fun pre m' Hl => ∃ a cap, Hl = [.row a cap 3 1 ((brokenOf pre).map iV), .blk bl (.cells [.slice a (brokenOf pre).length cap].toArray 32 (0, 0))]) (Jx := fun _ _ _ _ => False)
  · exact rfl
  · exact Try.func74
  · exact rfl
  · exact rfl
  · exact pieces_seq l (by omega) b
  · exact hb
  · exact fun _ => rfl
  · exact rfl
  · exact .cons (.cons .nil)
  · exact ⟨none, 0, rfl⟩
  · intro lp pre x post hxs m1 Hl hJ hm1 Hfr hfr
    obtain ⟨a, cap, rfl⟩ := hJ
    have hpre : pre.length ≤ (pieces l).length := by rw [hxs]; simp
    have hle3 := brokenOf_length pre
    have hsn := brokenOf_snoc pre x
    have hml : ((brokenOf pre).map iV).length = (brokenOf pre).length := by simp
    (try (refine st_R13_1 ?_; intros))
    refine WQ.assigned (.cons (.cons (.cons .nil))) (Mem.le.refl _) ?_
    intro Hfr2
    cases hx : x.b with
    | true =>
      rw [hx] at hsn
      (refine st_R13_1 ?_; intros; rename_i a2 c2)
      exact WQ.roundOn (Hl := [.row a2 c2 3 1 _, .blk bl _]) (fun w h => h.sublist (by repeat (first | exact List.Sublist.refl _ | apply List.Sublist.cons_cons | apply List.Sublist.cons))) (Mem.le.refl _) ⟨a2, c2, by rw [hsn]; simp [iV]⟩
    | false =>
      rw [hx] at hsn
      (try (refine st_R13_1 ?_; intros))
      exact WQ.roundOn (Hl := [.row a cap 3 1 _, .blk bl _]) (fun w h => h.sublist (by repeat (first | exact List.Sublist.refl _ | apply List.Sublist.cons_cons | apply List.Sublist.cons))) (Mem.le.refl _) ⟨a, cap, by rw [hsn]; simp⟩
  · intro D m' Hl hJ hm1
    obtain ⟨a, cap, rfl⟩ := hJ
    (try (refine st_R13_1 ?_; intros))
    refine WQ.mark List.perm_middle ?_
    refine q_fin1 (H0 := .row a cap 3 1 _ :: H) (hle.trans hm1) ⟨_, _, ?_, rfl, rfl⟩ (hd := (fun w h => h.sublist (by repeat (first | exact List.Sublist.refl _ | apply List.Sublist.cons_cons | apply List.Sublist.cons))))
    simp
  · intro D c pre m' Hl _ h _
    exact h.elim
theorem parts_any (l : List UInt8) (hl : l.length ≤ 5000000000000) (w0 : World) (m : Mem) (H : SHeap) :
    Does Try.prog 24 #[str l] w0 m H (MakesRow 44 3 ((partsOf (pieces l)).map Pt.cs) m H) := by
  refine Does.of_body (args := [str l]) Try.func24 rfl Try.ntmps24 rfl ?_
  have hpl := pieces_length l
  (refine st_R13_1 ?_; intros; rename_i bl)
  refine w_callF Try.func38 ?_ (hs := pieces_any _ _ _ _)
  rintro _ m0 H0 ⟨b, rfl, rfl, rfl⟩
  (try (refine st_R13_1 ?_; intros))
  refine WC.persist (by (repeat (first | exact Out.here | apply Out.there))) ?_
  intro mp hle hb
  refine WC.newRow (T := 44) (sz := 3) ?_
  apply WC.rangeFunc (encs := fun p : Pc => [p.v]) (xs := pieces l) (Cap := TextAt b l) (lb := [.pointer (some ⟨b, 0, none⟩)]) (ps := [8])
    (J := fun pre m' Hl => ∃ a cap, Hl = [.row a cap 44 3 ((partsOf pre).map Pt.cs), .blk bl (.cells [.slice a (partsOf pre).length cap].toArray 37 (0, 0))]) (Jx := fun _ _ _ _ => False)
  · exact rfl
  · exact Try.func74
  · exact rfl
  · exact rfl
  · exact pieces_seq l (by omega) b
  · exact hb
  · exact fun _ => rfl
  · exact rfl
  · exact .cons (.cons .nil)
  · exact ⟨none, 0, rfl⟩
  · intro lp pre x post hxs m1 Hl hJ hm1 Hfr hfr
    obtain ⟨a, cap, rfl⟩ := hJ
    have hpre : pre.length ≤ (pieces l).length := by rw [hxs]; simp
    have hle3 := partsOf_length pre
    obtain ⟨hx1, hx2, hx3⟩ : x.at_ < l.length ∧ x.w ≤ 4 ∧ 1 ≤ x.w := by
      have := pieces_split hxs
      have h2 := readP_w this.1
      rw [← this.2.1] at h2
      omega
    have hsn := partsOf_snoc pre x
    generalize partsOf pre = acc at hle3 hsn ⊢
    have hml : (acc.map Pt.cs).length = acc.length := by simp
    (try (refine st_R13_1 ?_; intros))
    refine WQ.assigned (.cons (.cons (.cons .nil))) (Mem.le.refl _) ?_
    intro Hfr2
    rcases nil_or_snoc acc with rfl | ⟨ys, q, rfl⟩
    · rw [addPart_nil] at hsn
      have h0 : ([] : List Pt).length = 0 := rfl
      (refine st_R13_1 ?_; intros; rename_i a2 c2)
      refine WL.rowSome (a := a2) (by (repeat (first | exact List.Mem.head _ | apply List.Mem.tail))) (by simp) ?_
      rintro a0 rfl
      have hg : (([] : List Pt).map Pt.cs ++ [[Value.int .i64 (x.at_ : Int), .int .i64 0, .bool x.b]])[([] : List Pt).length + 1 - 1]? = some [Value.int .i64 (x.at_ : Int), .int .i64 0, .bool x.b] := rfl
      (try (refine st_R13_1 ?_; intros))
      exact WQ.roundOn (Hl := [.row (some a0) c2 44 3 _, .blk bl _]) (fun w h => h.sublist (by repeat (first | exact List.Sublist.refl _ | apply List.Sublist.cons_cons | apply List.Sublist.cons))) (Mem.le.refl _) ⟨some a0, c2, by rw [hsn]; simp [Pt.cs]⟩
    · have h1 : (ys ++ [q]).length = ys.length + 1 := by simp
      have h2 : ((ys ++ [q]).map Pt.cs).length = ys.length + 1 := by simp
      have hg : ((ys ++ [q]).map Pt.cs)[(ys ++ [q]).length - 1]? = some q.cs := by simp
      refine WC.rowSome (a := a) (by (repeat (first | exact List.Mem.head _ | apply List.Mem.tail))) (by omega) ?_
      rintro a0 rfl
      cases hq : (q.b == x.b) with
      | true =>
        have hc : (!(q.b == x.b)) = false := by rw [hq]; rfl
        rw [addPart_eq (by simpa using hq)] at hsn
        (try (refine st_R13_1 ?_; intros))
        exact WQ.roundOn (Hl := [.row (some a0) cap 44 3 _, .blk bl _]) (fun w h => h.sublist (by repeat (first | exact List.Sublist.refl _ | apply List.Sublist.cons_cons | apply List.Sublist.cons))) (Mem.le.refl _) ⟨some a0, cap, by rw [hsn]; simp [Pt.cs]⟩
      | false =>
        have hc : (!(q.b == x.b)) = true := by rw [hq]; rfl
        rw [addPart_ne (by simpa using hq)] at hsn
        (refine st_R13_1 ?_; intros; rename_i a2 c2)
        refine WL.rowSome (a := a2) (by (repeat (first | exact List.Mem.head _ | apply List.Mem.tail))) (by simp) ?_
        rintro a0 rfl
        have hg : ((ys ++ [q]).map Pt.cs ++ [[Value.int .i64 (x.at_ : Int), .int .i64 0, .bool x.b]])[((ys ++ [q]).map Pt.cs).length + 1 - 1]? = some [Value.int .i64 (x.at_ : Int), .int .i64 0, .bool x.b] := by simp
        (try (refine st_R13_1 ?_; intros))
        exact WQ.roundOn (Hl := [.row (some a0) c2 44 3 _, .blk bl _]) (fun w h => h.sublist (by repeat (first | exact List.Sublist.refl _ | apply List.Sublist.cons_cons | apply List.Sublist.cons))) (Mem.le.refl _) ⟨some a0, c2, by rw [hsn]; simp [Pt.cs]⟩
  · intro D m' Hl hJ hm1
    obtain ⟨a, cap, rfl⟩ := hJ
    (try (refine st_R13_1 ?_; intros))
    refine WQ.mark List.perm_middle ?_
    refine q_fin1 (H0 := .row a cap 44 3 _ :: H) (hle.trans hm1) ⟨_, _, ?_, rfl, rfl⟩ (hd := (fun w h => h.sublist (by repeat (first | exact List.Sublist.refl _ | apply List.Sublist.cons_cons | apply List.Sublist.cons))))
    simp
  · intro D c pre m' Hl _ h _
    exact h.elim
end Go.Proofs.Ytdmdabjaboigcaa

/-
  The walks of the law's own comparisons, and of the reference's Broken and Parts. No condition.
-/
namespace Go.Proofs.Ytdmdabjaboigcaa
open Go Go.Eng
set_option maxRecDepth 100000
set_option maxHeartbeats 4000000
set_option linter.all false
attribute [local irreducible] WL WC WQ QFun QLoop Does Q1 QRound QAssign Go.Addr.add
def iI (k : Int) : List Value := [.int .i64 k]
theorem ints_same {a b : Option Addr} {ca cb : Nat} {es : List (List Value)} {w0 : World} {m : Mem} {H : SHeap} (hl : es.length ≤ 5000000000000) (hes : ∃ xs : List Int, es = xs.map iI) (ha : RowR w0 m H 1 a es) (hb : RowR w0 m H 1 b es) :
    Does Try.prog 25 #[.slice a es.length ca, .slice b es.length cb] w0 m H (Gives (.bool true) m H) := by
  obtain ⟨xs, rfl⟩ := hes
  refine Does.of_body (args := [.slice a (xs.map iI).length ca, .slice b (xs.map iI).length cb]) Try.func25 rfl Try.ntmps25 rfl ?_
  have hln : (xs.map iI).length = xs.length := by simp
  (try (refine st ?_; intros))
  refine WC.loopH [(13, .int .i64 ((0) : Int)), (12, .int .i64 ((xs.map iI).length : Int)), (0, .slice a (xs.map iI).length ca), (1, .slice b (xs.map iI).length cb)] ?_ ?_ (fun j r ds m' H' => ∃ i, j = xs.length - i ∧ r = [(13, .int .i64 (i : Int)), (12, .int .i64 ((xs.map iI).length : Int)), (0, .slice a (xs.map iI).length ca), (1, .slice b (xs.map iI).length cb)] ∧ ds = [] ∧ m = m' ∧ H' = H ∧ (i ≤ xs.length)) (xs.length - (0)) ⟨0, rfl, rfl, rfl, rfl, rfl, by omega⟩ ?_
  · (repeat (first | exact Env.Sub.nil | refine Env.Sub.cons rfl ?_))
  · exact (fun w h => Pick.sat (by iterate 60 (try (first | exact Pick.all | (apply Pick.take; (· (repeat (first | exact Out.here | apply Out.there)))) | apply Pick.drop))) h)
  rintro j r ds m' H' ⟨i, rfl, rfl, rfl, rfl, rfl, hi⟩
  by_cases hlt : i < xs.length
  · obtain ⟨x, hx, hget, htk, hmem, hdr⟩ := at_idx (f := iI) hlt
    have hpos : 0 < (xs.map iI).length := by simp; omega
    refine WC.rSome ha hpos ?_
    rintro a0 rfl
    refine WC.rSome hb hpos ?_
    rintro b0 rfl
    (try (refine st ?_; intros))
    refine WQ.next (xs.length - (i + 1)) ⟨i + 1, rfl, rfl, rfl, rfl, rfl, ?_⟩ (by omega) (by (repeat (first | exact Env.Sub.nil | refine Env.Sub.cons rfl ?_))) (fun w h => Pick.sat (by iterate 60 (try (first | exact Pick.all | (apply Pick.take; (· (repeat (first | exact Out.here | apply Out.there)))) | apply Pick.drop))) h)
    omega
  · (try (refine st ?_; intros))
    (refine q_fin0 ?_)
    exact Gives.mk rfl
theorem runes_same {a b : Option Addr} {ca cb : Nat} {es : List (List Value)} {w0 : World} {m : Mem} {H : SHeap} (hl : es.length ≤ 5000000000000) (hes : ∃ xs : List Nat, es = xs.map rV) (ha : RowR w0 m H 1 a es) (hb : RowR w0 m H 1 b es) :
    Does Try.prog 48 #[.slice a es.length ca, .slice b es.length cb] w0 m H (Gives (.bool true) m H) := by
  obtain ⟨xs, rfl⟩ := hes
  refine Does.of_body (args := [.slice a (xs.map rV).length ca, .slice b (xs.map rV).length cb]) Try.func48 rfl Try.ntmps48 rfl ?_
  have hln : (xs.map rV).length = xs.length := by simp
  (try (refine st ?_; intros))
  refine WC.loopH [(13, .int .i64 ((0) : Int)), (12, .int .i64 ((xs.map rV).length : Int)), (0, .slice a (xs.map rV).length ca), (1, .slice b (xs.map rV).length cb)] ?_ ?_ (fun j r ds m' H' => ∃ i, j = xs.length - i ∧ r = [(13, .int .i64 (i : Int)), (12, .int .i64 ((xs.map rV).length : Int)), (0, .slice a (xs.map rV).length ca), (1, .slice b (xs.map rV).length cb)] ∧ ds = [] ∧ m = m' ∧ H' = H ∧ (i ≤ xs.length)) (xs.length - (0)) ⟨0, rfl, rfl, rfl, rfl, rfl, by omega⟩ ?_
  · (repeat (first | exact Env.Sub.nil | refine Env.Sub.cons rfl ?_))
  · exact (fun w h => Pick.sat (by iterate 60 (try (first | exact Pick.all | (apply Pick.take; (· (repeat (first | exact Out.here | apply Out.there)))) | apply Pick.drop))) h)
  rintro j r ds m' H' ⟨i, rfl, rfl, rfl, rfl, rfl, hi⟩
  by_cases hlt : i < xs.length
  · obtain ⟨x, hx, hget, htk, hmem, hdr⟩ := at_idx (f := rV) hlt
    have hpos : 0 < (xs.map rV).length := by simp; omega
    refine WC.rSome ha hpos ?_
    rintro a0 rfl
    refine WC.rSome hb hpos ?_
    rintro b0 rfl
    (try (refine st ?_; intros))
    refine WQ.next (xs.length - (i + 1)) ⟨i + 1, rfl, rfl, rfl, rfl, rfl, ?_⟩ (by omega) (by (repeat (first | exact Env.Sub.nil | refine Env.Sub.cons rfl ?_))) (fun w h => Pick.sat (by iterate 60 (try (first | exact Pick.all | (apply Pick.take; (· (repeat (first | exact Out.here | apply Out.there)))) | apply Pick.drop))) h)
    omega
  · (try (refine st ?_; intros))
    (refine q_fin0 ?_)
    exact Gives.mk rfl
theorem eq_part (a b a' b' : Int) (d d' : Bool) : eqB Try.prog 8 44 (.agg #[.int .i64 a, .int .i64 b, .bool d]) (.agg #[.int .i64 a', .int .i64 b', .bool d']) = some ((a == a' && (b == b' && true)) && (d == d' && true)) := by kernel_rfl
theorem eq_part_same (p : Pt) : eqB Try.prog 8 44 (.agg p.cs.toArray) (.agg p.cs.toArray) = some true := (eq_part _ _ _ _ _ _).trans (by simp)
theorem eq_piece_same (p : Pc) : eqB Try.prog 8 24 (.agg p.cs.toArray) (.agg p.cs.toArray) = some true := (eq_piece _ _ _ _ _ _ _ _).trans (by rw [dcd_true ⟨rfl, rfl, rfl, rfl⟩])
theorem sq_R14_1 {G : Prop} (h : G := by (repeat (first | (refine sp ?_; (repeat intro zzc)) | (refine iB_eql rfl ?_; refine w_eqlV ?_ (he := eq_part_same _)) | (refine iB_neq rfl ?_; refine w_neqV ?_ (he := eq_part_same _)))); exact WQ.q1 rfl) : G := h
theorem st_R14_1 {G G' : Prop} (next : G') (h : Bx G' → G := by intro zzn; (first | ((refine st ?_; (repeat intro zzc)); (try ((first | (refine iB_eql rfl ?_; refine w_eqlV ?_ (he := eq_part_same _)) | (refine iB_neq rfl ?_; refine w_neqV ?_ (he := eq_part_same _)) | ((refine iDraw ?_; (first | refine WC.drawAll rfl (by decide +kernel) ?_ | refine WC.draw 1 rfl (by decide +kernel) ?_ | refine WC.draw 2 rfl (by decide +kernel) ?_ | refine WC.draw 3 rfl (by decide +kernel) ?_ | refine WC.draw 4 rfl (by decide +kernel) ?_ | refine WC.draw 5 rfl (by decide +kernel) ?_ | refine WC.draw 6 rfl (by decide +kernel) ?_ | refine WC.draw 7 rfl (by decide +kernel) ?_ | refine WC.draw 8 rfl (by decide +kernel) ?_ | refine WC.draw 9 rfl (by decide +kernel) ?_ | refine WC.draw 10 rfl (by decide +kernel) ?_ | refine WC.draw 11 rfl (by decide +kernel) ?_ | refine WC.draw 12 rfl (by decide +kernel) ?_ | refine WC.draw 13 rfl (by decide +kernel) ?_ | refine WC.draw 14 rfl (by decide +kernel) ?_ | refine WC.draw 15 rfl (by decide +kernel) ?_ | refine WC.draw 16 rfl (by decide +kernel) ?_ | refine WC.draw 17 rfl (by decide +kernel) ?_ | refine WC.draw 18 rfl (by decide +kernel) ?_ | refine WC.draw 19 rfl (by decide +kernel) ?_ | refine WC.draw 20 rfl (by decide +kernel) ?_ | refine WC.draw 21 rfl (by decide +kernel) ?_ | refine WC.draw 22 rfl (by decide +kernel) ?_ | refine WC.draw 23 rfl (by decide +kernel) ?_ | refine WC.draw 24 rfl (by decide +kernel) ?_)); (repeat (refine WD.cons rfl (fun c h => by cases h) sq_R14_1 ?_)); refine WD.nil ?_)); (try (refine st ?_; (repeat intro zzc)))))) | ((first | (refine iB_eql rfl ?_; refine w_eqlV ?_ (he := eq_part_same _)) | (refine iB_neq rfl ?_; refine w_neqV ?_ (he := eq_part_same _)) | ((refine iDraw ?_; (first | refine WC.drawAll rfl (by decide +kernel) ?_ | refine WC.draw 1 rfl (by decide +kernel) ?_ | refine WC.draw 2 rfl (by decide +kernel) ?_ | refine WC.draw 3 rfl (by decide +kernel) ?_ | refine WC.draw 4 rfl (by decide +kernel) ?_ | refine WC.draw 5 rfl (by decide +kernel) ?_ | refine WC.draw 6 rfl (by decide +kernel) ?_ | refine WC.draw 7 rfl (by decide +kernel) ?_ | refine WC.draw 8 rfl (by decide +kernel) ?_ | refine WC.draw 9 rfl (by decide +kernel) ?_ | refine WC.draw 10 rfl (by decide +kernel) ?_ | refine WC.draw 11 rfl (by decide +kernel) ?_ | refine WC.draw 12 rfl (by decide +kernel) ?_ | refine WC.draw 13 rfl (by decide +kernel) ?_ | refine WC.draw 14 rfl (by decide +kernel) ?_ | refine WC.draw 15 rfl (by decide +kernel) ?_ | refine WC.draw 16 rfl (by decide +kernel) ?_ | refine WC.draw 17 rfl (by decide +kernel) ?_ | refine WC.draw 18 rfl (by decide +kernel) ?_ | refine WC.draw 19 rfl (by decide +kernel) ?_ | refine WC.draw 20 rfl (by decide +kernel) ?_ | refine WC.draw 21 rfl (by decide +kernel) ?_ | refine WC.draw 22 rfl (by decide +kernel) ?_ | refine WC.draw 23 rfl (by decide +kernel) ?_ | refine WC.draw 24 rfl (by decide +kernel) ?_)); (repeat (refine WD.cons rfl (fun c h => by cases h) sq_R14_1 ?_)); refine WD.nil ?_)); (try (refine st ?_; (repeat intro zzc))))); (repeat ((first | (refine iB_eql rfl ?_; refine w_eqlV ?_ (he := eq_part_same _)) | (refine iB_neq rfl ?_; refine w_neqV ?_ (he := eq_part_same _)) | ((refine iDraw ?_; (first | refine WC.drawAll rfl (by decide +kernel) ?_ | refine WC.draw 1 rfl (by decide +kernel) ?_ | refine WC.draw 2 rfl (by decide +kernel) ?_ | refine WC.draw 3 rfl (by decide +kernel) ?_ | refine WC.draw 4 rfl (by decide +kernel) ?_ | refine WC.draw 5 rfl (by decide +kernel) ?_ | refine WC.draw 6 rfl (by decide +kernel) ?_ | refine WC.draw 7 rfl (by decide +kernel) ?_ | refine WC.draw 8 rfl (by decide +kernel) ?_ | refine WC.draw 9 rfl (by decide +kernel) ?_ | refine WC.draw 10 rfl (by decide +kernel) ?_ | refine WC.draw 11 rfl (by decide +kernel) ?_ | refine WC.draw 12 rfl (by decide +kernel) ?_ | refine WC.draw 13 rfl (by decide +kernel) ?_ | refine WC.draw 14 rfl (by decide +kernel) ?_ | refine WC.draw 15 rfl (by decide +kernel) ?_ | refine WC.draw 16 rfl (by decide +kernel) ?_ | refine WC.draw 17 rfl (by decide +kernel) ?_ | refine WC.draw 18 rfl (by decide +kernel) ?_ | refine WC.draw 19 rfl (by decide +kernel) ?_ | refine WC.draw 20 rfl (by decide +kernel) ?_ | refine WC.draw 21 rfl (by decide +kernel) ?_ | refine WC.draw 22 rfl (by decide +kernel) ?_ | refine WC.draw 23 rfl (by decide +kernel) ?_ | refine WC.draw 24 rfl (by decide +kernel) ?_)); (repeat (refine WD.cons rfl (fun c h => by cases h) sq_R14_1 ?_)); refine WD.nil ?_)); (try (refine st ?_; (repeat intro zzc))))); (repeat revert zzc); exact zzn.out) : G := h ⟨next⟩
theorem parts_same {a b : Option Addr} {ca cb : Nat} {es : List (List Value)} {w0 : World} {m : Mem} {H : SHeap} (hl : es.length ≤ 5000000000000) (hes : ∃ xs : List Pt, es = xs.map Pt.cs) (ha : RowR w0 m H 3 a es) (hb : RowR w0 m H 3 b es) :
    Does Try.prog 26 #[.slice a es.length ca, .slice b es.length cb] w0 m H (Gives (.bool true) m H) := by
  obtain ⟨xs, rfl⟩ := hes
  refine Does.of_body (args := [.slice a (xs.map Pt.cs).length ca, .slice b (xs.map Pt.cs).length cb]) Try.func26 rfl Try.ntmps26 rfl ?_
  have hln : (xs.map Pt.cs).length = xs.length := by simp
  (try (refine st_R14_1 ?_; intros))
  refine WC.loopH [(13, .int .i64 ((0) : Int)), (12, .int .i64 ((xs.map Pt.cs).length : Int)), (0, .slice a (xs.map Pt.cs).length ca), (1, .slice b (xs.map Pt.cs).length cb)] ?_ ?_ (fun j r ds m' H' => ∃ i, j = xs.length - i ∧ r = [(13, .int .i64 (i : Int)), (12, .int .i64 ((xs.map Pt.cs).length : Int)), (0, .slice a (xs.map Pt.cs).length ca), (1, .slice b (xs.map Pt.cs).length cb)] ∧ ds = [] ∧ m = m' ∧ H' = H ∧ (i ≤ xs.length)) (xs.length - (0)) ⟨0, rfl, rfl, rfl, rfl, rfl, by omega⟩ ?_
  · (repeat (first | exact Env.Sub.nil | refine Env.Sub.cons rfl ?_))
  · exact (fun w h => Pick.sat (by iterate 60 (try (first | exact Pick.all | (apply Pick.take; (· (repeat (first | exact Out.here | apply Out.there)))) | apply Pick.drop))) h)
  rintro j r ds m' H' ⟨i, rfl, rfl, rfl, rfl, rfl, hi⟩
  by_cases hlt : i < xs.length
  · obtain ⟨x, hx, hget, htk, hmem, hdr⟩ := at_idx (f := Pt.cs) hlt
    have hpos : 0 < (xs.map Pt.cs).length := by simp; omega
    refine WC.rSome ha hpos ?_
    rintro a0 rfl
    refine WC.rSome hb hpos ?_
    rintro b0 rfl
    (try (refine st_R14_1 ?_; intros))
    refine WQ.next (xs.length - (i + 1)) ⟨i + 1, rfl, rfl, rfl, rfl, rfl, ?_⟩ (by omega) (by (repeat (first | exact Env.Sub.nil | refine Env.Sub.cons rfl ?_))) (fun w h => Pick.sat (by iterate 60 (try (first | exact Pick.all | (apply Pick.take; (· (repeat (first | exact Out.here | apply Out.there)))) | apply Pick.drop))) h)
    omega
  · (try (refine st_R14_1 ?_; intros))
    (refine q_fin0 ?_)
    exact Gives.mk rfl
theorem sq_R14_2 {G : Prop} (h : G := by (repeat (first | (refine sp ?_; (repeat intro zzc)) | (refine iB_eql rfl ?_; refine w_eqlV ?_ (he := eq_piece_same _)) | (refine iB_neq rfl ?_; refine w_neqV ?_ (he := eq_piece_same _)))); exact WQ.q1 rfl) : G := h
theorem st_R14_2 {G G' : Prop} (next : G') (h : Bx G' → G := by intro zzn; (first | ((refine st ?_; (repeat intro zzc)); (try ((first | (refine iB_eql rfl ?_; refine w_eqlV ?_ (he := eq_piece_same _)) | (refine iB_neq rfl ?_; refine w_neqV ?_ (he := eq_piece_same _)) | ((refine iDraw ?_; (first | refine WC.drawAll rfl (by decide +kernel) ?_ | refine WC.draw 1 rfl (by decide +kernel) ?_ | refine WC.draw 2 rfl (by decide +kernel) ?_ | refine WC.draw 3 rfl (by decide +kernel) ?_ | refine WC.draw 4 rfl (by decide +kernel) ?_ | refine WC.draw 5 rfl (by decide +kernel) ?_ | refine WC.draw 6 rfl (by decide +kernel) ?_ | refine WC.draw 7 rfl (by decide +kernel) ?_ | refine WC.draw 8 rfl (by decide +kernel) ?_ | refine WC.draw 9 rfl (by decide +kernel) ?_ | refine WC.draw 10 rfl (by decide +kernel) ?_ | refine WC.draw 11 rfl (by decide +kernel) ?_ | refine WC.draw 12 rfl (by decide +kernel) ?_ | refine WC.draw 13 rfl (by decide +kernel) ?_ | refine WC.draw 14 rfl (by decide +kernel) ?_ | refine WC.draw 15 rfl (by decide +kernel) ?_ | refine WC.draw 16 rfl (by decide +kernel) ?_ | refine WC.draw 17 rfl (by decide +kernel) ?_ | refine WC.draw 18 rfl (by decide +kernel) ?_ | refine WC.draw 19 rfl (by decide +kernel) ?_ | refine WC.draw 20 rfl (by decide +kernel) ?_ | refine WC.draw 21 rfl (by decide +kernel) ?_ | refine WC.draw 22 rfl (by decide +kernel) ?_ | refine WC.draw 23 rfl (by decide +kernel) ?_ | refine WC.draw 24 rfl (by decide +kernel) ?_)); (repeat (refine WD.cons rfl (fun c h => by cases h) sq_R14_2 ?_)); refine WD.nil ?_)); (try (refine st ?_; (repeat intro zzc)))))) | ((first | (refine iB_eql rfl ?_; refine w_eqlV ?_ (he := eq_piece_same _)) | (refine iB_neq rfl ?_; refine w_neqV ?_ (he := eq_piece_same _)) | ((refine iDraw ?_; (first | refine WC.drawAll rfl (by decide +kernel) ?_ | refine WC.draw 1 rfl (by decide +kernel) ?_ | refine WC.draw 2 rfl (by decide +kernel) ?_ | refine WC.draw 3 rfl (by decide +kernel) ?_ | refine WC.draw 4 rfl (by decide +kernel) ?_ | refine WC.draw 5 rfl (by decide +kernel) ?_ | refine WC.draw 6 rfl (by decide +kernel) ?_ | refine WC.draw 7 rfl (by decide +kernel) ?_ | refine WC.draw 8 rfl (by decide +kernel) ?_ | refine WC.draw 9 rfl (by decide +kernel) ?_ | refine WC.draw 10 rfl (by decide +kernel) ?_ | refine WC.draw 11 rfl (by decide +kernel) ?_ | refine WC.draw 12 rfl (by decide +kernel) ?_ | refine WC.draw 13 rfl (by decide +kernel) ?_ | refine WC.draw 14 rfl (by decide +kernel) ?_ | refine WC.draw 15 rfl (by decide +kernel) ?_ | refine WC.draw 16 rfl (by decide +kernel) ?_ | refine WC.draw 17 rfl (by decide +kernel) ?_ | refine WC.draw 18 rfl (by decide +kernel) ?_ | refine WC.draw 19 rfl (by decide +kernel) ?_ | refine WC.draw 20 rfl (by decide +kernel) ?_ | refine WC.draw 21 rfl (by decide +kernel) ?_ | refine WC.draw 22 rfl (by decide +kernel) ?_ | refine WC.draw 23 rfl (by decide +kernel) ?_ | refine WC.draw 24 rfl (by decide +kernel) ?_)); (repeat (refine WD.cons rfl (fun c h => by cases h) sq_R14_2 ?_)); refine WD.nil ?_)); (try (refine st ?_; (repeat intro zzc))))); (repeat ((first | (refine iB_eql rfl ?_; refine w_eqlV ?_ (he := eq_piece_same _)) | (refine iB_neq rfl ?_; refine w_neqV ?_ (he := eq_piece_same _)) | ((refine iDraw ?_; (first | refine WC.drawAll rfl (by decide +kernel) ?_ | refine WC.draw 1 rfl (by decide +kernel) ?_ | refine WC.draw 2 rfl (by decide +kernel) ?_ | refine WC.draw 3 rfl (by decide +kernel) ?_ | refine WC.draw 4 rfl (by decide +kernel) ?_ | refine WC.draw 5 rfl (by decide +kernel) ?_ | refine WC.draw 6 rfl (by decide +kernel) ?_ | refine WC.draw 7 rfl (by decide +kernel) ?_ | refine WC.draw 8 rfl (by decide +kernel) ?_ | refine WC.draw 9 rfl (by decide +kernel) ?_ | refine WC.draw 10 rfl (by decide +kernel) ?_ | refine WC.draw 11 rfl (by decide +kernel) ?_ | refine WC.draw 12 rfl (by decide +kernel) ?_ | refine WC.draw 13 rfl (by decide +kernel) ?_ | refine WC.draw 14 rfl (by decide +kernel) ?_ | refine WC.draw 15 rfl (by decide +kernel) ?_ | refine WC.draw 16 rfl (by decide +kernel) ?_ | refine WC.draw 17 rfl (by decide +kernel) ?_ | refine WC.draw 18 rfl (by decide +kernel) ?_ | refine WC.draw 19 rfl (by decide +kernel) ?_ | refine WC.draw 20 rfl (by decide +kernel) ?_ | refine WC.draw 21 rfl (by decide +kernel) ?_ | refine WC.draw 22 rfl (by decide +kernel) ?_ | refine WC.draw 23 rfl (by decide +kernel) ?_ | refine WC.draw 24 rfl (by decide +kernel) ?_)); (repeat (refine WD.cons rfl (fun c h => by cases h) sq_R14_2 ?_)); refine WD.nil ?_)); (try (refine st ?_; (repeat intro zzc))))); (repeat revert zzc); exact zzn.out) : G := h ⟨next⟩
theorem pieces_same {a b : Option Addr} {ca cb : Nat} {es : List (List Value)} {w0 : World} {m : Mem} {H : SHeap} (hl : es.length ≤ 5000000000000) (hes : ∃ xs : List Pc, es = xs.map Pc.cs) (ha : RowR w0 m H 4 a es) (hb : RowR w0 m H 4 b es) :
    Does Try.prog 64 #[.slice a es.length ca, .slice b es.length cb] w0 m H (Gives (.bool true) m H) := by
  obtain ⟨xs, rfl⟩ := hes
  refine Does.of_body (args := [.slice a (xs.map Pc.cs).length ca, .slice b (xs.map Pc.cs).length cb]) Try.func64 rfl Try.ntmps64 rfl ?_
  have hln : (xs.map Pc.cs).length = xs.length := by simp
  (try (refine st_R14_2 ?_; intros))
  refine WC.loopH [(13, .int .i64 ((0) : Int)), (12, .int .i64 ((xs.map Pc.cs).length : Int)), (0, .slice a (xs.map Pc.cs).length ca), (1, .slice b (xs.map Pc.cs).length cb)] ?_ ?_ (fun j r ds m' H' => ∃ i, j = xs.length - i ∧ r = [(13, .int .i64 (i : Int)), (12, .int .i64 ((xs.map Pc.cs).length : Int)), (0, .slice a (xs.map Pc.cs).length ca), (1, .slice b (xs.map Pc.cs).length cb)] ∧ ds = [] ∧ m = m' ∧ H' = H ∧ (i ≤ xs.length)) (xs.length - (0)) ⟨0, rfl, rfl, rfl, rfl, rfl, by omega⟩ ?_
  · (repeat (first | exact Env.Sub.nil | refine Env.Sub.cons rfl ?_))
  · exact (fun w h => Pick.sat (by iterate 60 (try (first | exact Pick.all | (apply Pick.take; (· (repeat (first | exact Out.here | apply Out.there)))) | apply Pick.drop))) h)
  rintro j r ds m' H' ⟨i, rfl, rfl, rfl, rfl, rfl, hi⟩
  by_cases hlt : i < xs.length
  · obtain ⟨x, hx, hget, htk, hmem, hdr⟩ := at_idx (f := Pc.cs) hlt
    have hpos : 0 < (xs.map Pc.cs).length := by simp; omega
    refine WC.rSome ha hpos ?_
    rintro a0 rfl
    refine WC.rSome hb hpos ?_
    rintro b0 rfl
    (try (refine st_R14_2 ?_; intros))
    refine WQ.next (xs.length - (i + 1)) ⟨i + 1, rfl, rfl, rfl, rfl, rfl, ?_⟩ (by omega) (by (repeat (first | exact Env.Sub.nil | refine Env.Sub.cons rfl ?_))) (fun w h => Pick.sat (by iterate 60 (try (first | exact Pick.all | (apply Pick.take; (· (repeat (first | exact Out.here | apply Out.there)))) | apply Pick.drop))) h)
    omega
  · (try (refine st_R14_2 ?_; intros))
    (refine q_fin0 ?_)
    exact Gives.mk rfl
theorem sq_R14_3 {G : Prop} (h : G := by (repeat (first | (refine sp ?_; (repeat intro zzc)))); exact WQ.q1 rfl) : G := h
theorem st_R14_3 {G G' : Prop} (next : G') (h : Bx G' → G := by intro zzn; (first | ((refine st ?_; (repeat intro zzc)); (try ((first | ((refine iDraw ?_; (first | refine WC.drawAll rfl (by decide +kernel) ?_ | refine WC.draw 1 rfl (by decide +kernel) ?_ | refine WC.draw 2 rfl (by decide +kernel) ?_ | refine WC.draw 3 rfl (by decide +kernel) ?_ | refine WC.draw 4 rfl (by decide +kernel) ?_ | refine WC.draw 5 rfl (by decide +kernel) ?_ | refine WC.draw 6 rfl (by decide +kernel) ?_ | refine WC.draw 7 rfl (by decide +kernel) ?_ | refine WC.draw 8 rfl (by decide +kernel) ?_ | refine WC.draw 9 rfl (by decide +kernel) ?_ | refine WC.draw 10 rfl (by decide +kernel) ?_ | refine WC.draw 11 rfl (by decide +kernel) ?_ | refine WC.draw 12 rfl (by decide +kernel) ?_ | refine WC.draw 13 rfl (by decide +kernel) ?_ | refine WC.draw 14 rfl (by decide +kernel) ?_ | refine WC.draw 15 rfl (by decide +kernel) ?_ | refine WC.draw 16 rfl (by decide +kernel) ?_ | refine WC.draw 17 rfl (by decide +kernel) ?_ | refine WC.draw 18 rfl (by decide +kernel) ?_ | refine WC.draw 19 rfl (by decide +kernel) ?_ | refine WC.draw 20 rfl (by decide +kernel) ?_ | refine WC.draw 21 rfl (by decide +kernel) ?_ | refine WC.draw 22 rfl (by decide +kernel) ?_ | refine WC.draw 23 rfl (by decide +kernel) ?_ | refine WC.draw 24 rfl (by decide +kernel) ?_)); (repeat (refine WD.cons rfl (fun c h => by cases h) sq_R14_3 ?_)); refine WD.nil ?_)); (try (refine st ?_; (repeat intro zzc)))))) | ((first | ((refine iDraw ?_; (first | refine WC.drawAll rfl (by decide +kernel) ?_ | refine WC.draw 1 rfl (by decide +kernel) ?_ | refine WC.draw 2 rfl (by decide +kernel) ?_ | refine WC.draw 3 rfl (by decide +kernel) ?_ | refine WC.draw 4 rfl (by decide +kernel) ?_ | refine WC.draw 5 rfl (by decide +kernel) ?_ | refine WC.draw 6 rfl (by decide +kernel) ?_ | refine WC.draw 7 rfl (by decide +kernel) ?_ | refine WC.draw 8 rfl (by decide +kernel) ?_ | refine WC.draw 9 rfl (by decide +kernel) ?_ | refine WC.draw 10 rfl (by decide +kernel) ?_ | refine WC.draw 11 rfl (by decide +kernel) ?_ | refine WC.draw 12 rfl (by decide +kernel) ?_ | refine WC.draw 13 rfl (by decide +kernel) ?_ | refine WC.draw 14 rfl (by decide +kernel) ?_ | refine WC.draw 15 rfl (by decide +kernel) ?_ | refine WC.draw 16 rfl (by decide +kernel) ?_ | refine WC.draw 17 rfl (by decide +kernel) ?_ | refine WC.draw 18 rfl (by decide +kernel) ?_ | refine WC.draw 19 rfl (by decide +kernel) ?_ | refine WC.draw 20 rfl (by decide +kernel) ?_ | refine WC.draw 21 rfl (by decide +kernel) ?_ | refine WC.draw 22 rfl (by decide +kernel) ?_ | refine WC.draw 23 rfl (by decide +kernel) ?_ | refine WC.draw 24 rfl (by decide +kernel) ?_)); (repeat (refine WD.cons rfl (fun c h => by cases h) sq_R14_3 ?_)); refine WD.nil ?_)); (try (refine st ?_; (repeat intro zzc))))); (repeat ((first | ((refine iDraw ?_; (first | refine WC.drawAll rfl (by decide +kernel) ?_ | refine WC.draw 1 rfl (by decide +kernel) ?_ | refine WC.draw 2 rfl (by decide +kernel) ?_ | refine WC.draw 3 rfl (by decide +kernel) ?_ | refine WC.draw 4 rfl (by decide +kernel) ?_ | refine WC.draw 5 rfl (by decide +kernel) ?_ | refine WC.draw 6 rfl (by decide +kernel) ?_ | refine WC.draw 7 rfl (by decide +kernel) ?_ | refine WC.draw 8 rfl (by decide +kernel) ?_ | refine WC.draw 9 rfl (by decide +kernel) ?_ | refine WC.draw 10 rfl (by decide +kernel) ?_ | refine WC.draw 11 rfl (by decide +kernel) ?_ | refine WC.draw 12 rfl (by decide +kernel) ?_ | refine WC.draw 13 rfl (by decide +kernel) ?_ | refine WC.draw 14 rfl (by decide +kernel) ?_ | refine WC.draw 15 rfl (by decide +kernel) ?_ | refine WC.draw 16 rfl (by decide +kernel) ?_ | refine WC.draw 17 rfl (by decide +kernel) ?_ | refine WC.draw 18 rfl (by decide +kernel) ?_ | refine WC.draw 19 rfl (by decide +kernel) ?_ | refine WC.draw 20 rfl (by decide +kernel) ?_ | refine WC.draw 21 rfl (by decide +kernel) ?_ | refine WC.draw 22 rfl (by decide +kernel) ?_ | refine WC.draw 23 rfl (by decide +kernel) ?_ | refine WC.draw 24 rfl (by decide +kernel) ?_)); (repeat (refine WD.cons rfl (fun c h => by cases h) sq_R14_3 ?_)); refine WD.nil ?_)); (try (refine st ?_; (repeat intro zzc))))); (repeat revert zzc); exact zzn.out) : G := h ⟨next⟩
theorem refBroken_any (l : List UInt8) (hl : l.length ≤ 5000000000000) (w0 : World) (m : Mem) (H : SHeap) :
    Does Try.prog 20 #[str l] w0 m H (MakesRow 3 1 ((brokenOf (pieces l)).map iV) m H) := by
  refine Does.of_body (args := [str l]) Try.func20 rfl Try.ntmps20 rfl ?_
  have hpl := pieces_length l
  (try (refine st_R14_3 ?_; intros))
  refine w_callF Try.func19 ?_ (hs := refPieces_any _ hl _ _ _)
  rintro _ m H1 ⟨a, cap, rfl, rfl, rfl⟩
  have hpm : ((pieces l).map Pc.cs).length = (pieces l).length := by simp
  (try (refine st_R14_3 ?_; intros))
  refine WC.newRow (T := 3) (sz := 1) ?_
  refine WC.loopH [(9, .int .i64 ((0) : Int)), (8, .int .i64 (((pieces l).map Pc.cs).length : Int)), (7, .slice a ((pieces l).map Pc.cs).length cap), (3, .slice (none) (0) (0))] ?_ ?_ (fun j r ds m' H' => ∃ i a3 cap3 k es, j = (pieces l).length - i ∧ r = [(9, .int .i64 (i : Int)), (8, .int .i64 (((pieces l).map Pc.cs).length : Int)), (7, .slice a ((pieces l).map Pc.cs).length cap), (3, .slice a3 k cap3)] ∧ ds = [] ∧ m = m' ∧ H' = .row a3 cap3 3 1 es :: .row a cap 24 4 ((pieces l).map Pc.cs) :: H ∧ (i ≤ (pieces l).length) ∧ (k = es.length) ∧ (es = (brokenOf ((pieces l).take i)).map iV)) ((pieces l).length - (0)) ⟨0, none, 0, 0, [], rfl, rfl, rfl, rfl, rfl, by omega, rfl, rfl⟩ ?_
  · (repeat (first | exact Env.Sub.nil | refine Env.Sub.cons rfl ?_))
  · exact (fun w h => Pick.sat (by iterate 60 (try (first | exact Pick.all | (apply Pick.take; (· (repeat (first | exact Out.here | apply Out.there)))) | apply Pick.drop))) h)
  rintro j r ds m' H' ⟨i, a3, cap3, k, es, rfl, rfl, rfl, rfl, rfl, hi, rfl, hes⟩
  have hbl := brokenOf_length ((pieces l).take i)
  have hbm : es.length = (brokenOf ((pieces l).take i)).length := by simp [hes]
  have htl : ((pieces l).take i).length ≤ i := by simp; omega
  by_cases hlt : i < (pieces l).length
  · obtain ⟨x, hx, hget, htk, hmem, hdr⟩ := at_idx (f := Pc.cs) hlt
    have hsn := brokenOf_snoc ((pieces l).take i) x
    rw [← htk] at hsn
    refine WC.rowSome (a := a) (by (repeat (first | exact List.Mem.head _ | apply List.Mem.tail))) (by omega) ?_
    rintro a0 rfl
    cases hb : x.b with
    | true =>
      (refine st_R14_3 ?_; intros; rename_i ak ck)
      refine WQ.next ((pieces l).length - (i + 1)) ⟨i + 1, ak, ck, _, _, rfl, rfl, rfl, rfl, rfl, ?_, ?_, ?_⟩ (by omega) (by (repeat (first | exact Env.Sub.nil | refine Env.Sub.cons rfl ?_))) (fun w h => Pick.sat (by iterate 60 (try (first | exact Pick.all | (apply Pick.take; (· (repeat (first | exact Out.here | apply Out.there)))) | apply Pick.drop))) h)
      · omega
      · simp
      · simp [hsn, hb, hes, iV]
    | false =>
      (try (refine st_R14_3 ?_; intros))
      refine WQ.next ((pieces l).length - (i + 1)) ⟨i + 1, a3, cap3, _, _, rfl, rfl, rfl, rfl, rfl, ?_, ?_, ?_⟩ (by omega) (by (repeat (first | exact Env.Sub.nil | refine Env.Sub.cons rfl ?_))) (fun w h => Pick.sat (by iterate 60 (try (first | exact Pick.all | (apply Pick.take; (· (repeat (first | exact Out.here | apply Out.there)))) | apply Pick.drop))) h)
      · omega
      · rfl
      · simp [hsn, hb, hes]
  · obtain rfl : i = (pieces l).length := by omega
    rw [List.take_length] at *
    (try (refine st_R14_3 ?_; intros))
    refine q_fin0 (H0 := .row a3 cap3 3 1 _ :: H) ⟨a3, cap3, ?_, rfl, ?_⟩ (hd := (fun w h => h.sublist (by repeat (first | exact List.Sublist.refl _ | apply List.Sublist.cons_cons | apply List.Sublist.cons))))
    · rw [hes]
    · rw [hes]
theorem refParts_any (l : List UInt8) (hl : l.length ≤ 5000000000000) (w0 : World) (m : Mem) (H : SHeap) :
    Does Try.prog 27 #[str l] w0 m H (MakesRow 44 3 ((partsOf (pieces l)).map Pt.cs) m H) := by
  refine Does.of_body (args := [str l]) Try.func27 rfl Try.ntmps27 rfl ?_
  have hpl := pieces_length l
  (try (refine st_R14_3 ?_; intros))
  refine w_callF Try.func19 ?_ (hs := refPieces_any _ hl _ _ _)
  rintro _ m H1 ⟨a, cap, rfl, rfl, rfl⟩
  have hpm : ((pieces l).map Pc.cs).length = (pieces l).length := by simp
  (try (refine st_R14_3 ?_; intros))
  refine WC.newRow (T := 44) (sz := 3) ?_
  refine WC.loopH [(10, .int .i64 ((0) : Int)), (9, .int .i64 (((pieces l).map Pc.cs).length : Int)), (8, .slice a ((pieces l).map Pc.cs).length cap), (3, .slice (none) (0) (0))] ?_ ?_ (fun j r ds m' H' => ∃ i a3 cap3 k es, j = (pieces l).length - i ∧ r = [(10, .int .i64 (i : Int)), (9, .int .i64 (((pieces l).map Pc.cs).length : Int)), (8, .slice a ((pieces l).map Pc.cs).length cap), (3, .slice a3 k cap3)] ∧ ds = [] ∧ m = m' ∧ H' = .row a3 cap3 44 3 es :: .row a cap 24 4 ((pieces l).map Pc.cs) :: H ∧ (i ≤ (pieces l).length) ∧ (k = es.length) ∧ (es = (partsOf ((pieces l).take i)).map Pt.cs)) ((pieces l).length - (0)) ⟨0, none, 0, 0, [], rfl, rfl, rfl, rfl, rfl, by omega, rfl, rfl⟩ ?_
  · (repeat (first | exact Env.Sub.nil | refine Env.Sub.cons rfl ?_))
  · exact (fun w h => Pick.sat (by iterate 60 (try (first | exact Pick.all | (apply Pick.take; (· (repeat (first | exact Out.here | apply Out.there)))) | apply Pick.drop))) h)
  rintro j r ds m' H' ⟨i, a3, cap3, k, es, rfl, rfl, rfl, rfl, rfl, hi, rfl, hes⟩
  have hbl := partsOf_length ((pieces l).take i)
  have htl : ((pieces l).take i).length ≤ i := by simp; omega
  by_cases hlt : i < (pieces l).length
  · obtain ⟨x, hx, hget, htk, hmem, hdr⟩ := at_idx (f := Pc.cs) hlt
    obtain ⟨hx1, hx2, hx3⟩ : x.at_ < l.length ∧ x.w ≤ 4 ∧ 1 ≤ x.w := by
      have := pieces_split (l := l) (pre := (pieces l).take i) (p := x) (post := (pieces l).drop (i + 1)) (by rw [← hdr, List.take_append_drop])
      have h2 := readP_w this.1
      rw [← this.2.1] at h2
      omega
    have hsn := partsOf_snoc ((pieces l).take i) x
    rw [← htk] at hsn
    generalize partsOf ((pieces l).take i) = acc at hbl hsn hes
    subst hes
    refine WC.rowSome (a := a) (by (repeat (first | exact List.Mem.head _ | apply List.Mem.tail))) (by omega) ?_
    rintro a0 rfl
    rcases nil_or_snoc acc with rfl | ⟨ys, q, rfl⟩
    · rw [addPart_nil] at hsn
      have h0 : (([] : List Pt).map Pt.cs).length = 0 := rfl
      (refine st_R14_3 ?_; intros; rename_i ak ck)
      refine WQ.next ((pieces l).length - (i + 1)) ⟨i + 1, ak, ck, _, _, rfl, rfl, rfl, rfl, rfl, ?_, ?_, ?_⟩ (by omega) (by (repeat (first | exact Env.Sub.nil | refine Env.Sub.cons rfl ?_))) (fun w h => Pick.sat (by iterate 60 (try (first | exact Pick.all | (apply Pick.take; (· (repeat (first | exact Out.here | apply Out.there)))) | apply Pick.drop))) h)
      · omega
      · simp
      · simp [hsn, Pt.cs]
    · have h1 : (ys ++ [q]).length = ys.length + 1 := by simp
      have h2 : ((ys ++ [q]).map Pt.cs).length = ys.length + 1 := by simp
      have hg : ((ys ++ [q]).map Pt.cs)[((ys ++ [q]).map Pt.cs).length - 1]? = some q.cs := by simp
      refine WC.rowSome (a := a3) (by (repeat (first | exact List.Mem.head _ | apply List.Mem.tail))) (by omega) ?_
      rintro a4 rfl
      cases hq : (q.b == x.b) with
      | true =>
        rw [addPart_eq (by simpa using hq)] at hsn
        (try (refine st_R14_3 ?_; intros))
        refine WQ.next ((pieces l).length - (i + 1)) ⟨i + 1, some a4, cap3, _, _, rfl, rfl, rfl, rfl, rfl, ?_, ?_, ?_⟩ (by omega) (by (repeat (first | exact Env.Sub.nil | refine Env.Sub.cons rfl ?_))) (fun w h => Pick.sat (by iterate 60 (try (first | exact Pick.all | (apply Pick.take; (· (repeat (first | exact Out.here | apply Out.there)))) | apply Pick.drop))) h)
        · omega
        · simp
        · rw [hsn]; simp [Pt.cs]
      | false =>
        rw [addPart_ne (by simpa using hq)] at hsn
        (refine st_R14_3 ?_; intros; rename_i ak ck)
        refine WQ.next ((pieces l).length - (i + 1)) ⟨i + 1, ak, ck, _, _, rfl, rfl, rfl, rfl, rfl, ?_, ?_, ?_⟩ (by omega) (by (repeat (first | exact Env.Sub.nil | refine Env.Sub.cons rfl ?_))) (fun w h => Pick.sat (by iterate 60 (try (first | exact Pick.all | (apply Pick.take; (· (repeat (first | exact Out.here | apply Out.there)))) | apply Pick.drop))) h)
        · omega
        · simp
        · simp [hsn, Pt.cs]
  · obtain rfl : i = (pieces l).length := by omega
    rw [List.take_length] at *
    (try (refine st_R14_3 ?_; intros))
    refine q_fin0 (H0 := .row a3 cap3 44 3 _ :: H) ⟨a3, cap3, ?_, rfl, ?_⟩ (hd := (fun w h => h.sublist (by repeat (first | exact List.Sublist.refl _ | apply List.Sublist.cons_cons | apply List.Sublist.cons))))
    · rw [hes]
    · rw [hes]
end Go.Proofs.Ytdmdabjaboigcaa

/-
  Plain facts: the pieces of a text that is put together of forms. No condition.
-/
set_option linter.all false
namespace Go.Eng
open Go
def formsOf (ns : List Int) : List UInt8 := ns.flatMap fun k => fmb (rn k)
theorem formsOf_append (a b : List Int) : formsOf (a ++ b) = formsOf a ++ formsOf b := by simp [formsOf]
theorem dl_form {c : Nat} (hc : okr c) (B : List UInt8) : dl (fmb c ++ B) = (c, wd c) := by
  refine dl_of_begins hc ((begins_iff _ c (okr_le hc)).2 ?_)
  rw [← fmb_length c, List.take_left]
theorem read_form {c : Nat} (hc : okr c) (A B : List UInt8) : readP (A ++ (fmb c ++ B)) A.length = ⟨A.length, wd c, c, false⟩ := by
  have h1 : (A ++ (fmb c ++ B)).drop A.length = fmb c ++ B := by simp
  unfold readP
  rw [h1, dl_form hc]
  rw [if_neg]
  intro h
  simp only [Prod.mk.injEq] at h
  rw [h.1] at h
  exact absurd h.2 (by decide)
def mkP : Nat → List Int → List Pc
  | _, [] => []
  | k, x :: ns => ⟨k, wd (rn x), rn x, false⟩ :: mkP (k + wd (rn x)) ns
theorem forms_from : ∀ (ns : List Int) (A : List UInt8), from_ (A ++ formsOf ns) A.length = mkP A.length ns
  | [], A => by rw [from_nil (by simp [formsOf])]; rfl
  | x :: ns, A => by
    have h1 : formsOf (x :: ns) = fmb (rn x) ++ formsOf ns := by simp [formsOf]
    have hw := wd_pos (rn x)
    rw [h1, from_cons (by simp [fmb_length]; omega), read_form (rn_ok x)]
    have h2 := forms_from ns (A ++ fmb (rn x))
    rw [List.append_assoc, List.length_append, fmb_length] at h2
    simp only [mkP, h2]
theorem forms_pieces (ns : List Int) : pieces (formsOf ns) = mkP 0 ns := forms_from ns []
theorem mkP_map : ∀ (ns : List Int) (k : Nat), (mkP k ns).map Pc.r = ns.map rn
  | [], _ => rfl
  | x :: ns, k => by simp [mkP, mkP_map ns]
theorem mkP_length (ns : List Int) (k : Nat) : (mkP k ns).length = ns.length := by
  have := congrArg List.length (mkP_map ns k)
  simpa using this
theorem mkP_right : ∀ (ns : List Int) (k : Nat), (mkP k ns).filter (fun p => p.b) = []
  | [], _ => rfl
  | x :: ns, k => by simp [mkP, mkP_right ns]
theorem forms_len : ∀ ns : List Int, (formsOf ns).length ≤ 4 * ns.length
  | [] => by simp [formsOf]
  | x :: ns => by
    have h1 : formsOf (x :: ns) = fmb (rn x) ++ formsOf ns := by simp [formsOf]
    have := forms_len ns
    have hw := wd_pos (rn x)
    rw [h1, List.length_append, fmb_length, List.length_cons]; omega
end Go.Eng

/-
  The walks of runes.Encode, Of, and the reference's Of. No condition.
-/
namespace Go.Proofs.Ytdmdabjaboigcaa
open Go Go.Eng
set_option maxRecDepth 100000
set_option maxHeartbeats 4000000
set_option linter.all false
attribute [local irreducible] WL WC WQ QFun QLoop Does Q1 QRound QAssign Go.Addr.add
theorem or_add {a x : Nat} (k b : Nat) (ha : a = 2 ^ k * b) (h : x < 2 ^ k) : a ||| x = a + x := by rw [ha]; exact (Nat.two_pow_add_eq_or_of_lt h b).symm
theorem tail_any (r : Int) (h0 : 0 ≤ r ∧ r ≤ 2147483647) (w0 : World) (m : Mem) (H : SHeap) : Does Try.prog 73 #[.int .i32 r] w0 m H (Gives (.int .u8 (128 + r % 64)) m H) := by
  refine Does.of_body (args := [.int .i32 r]) Try.func73 rfl Try.ntmps73 rfl ?_
  have h1 : (r % 256).toNat &&& (63 : Int).toNat = (r % 64).toNat := by
    have := Nat.and_two_pow_sub_one_eq_mod (r % 256).toNat 6
    rw [show (63 : Int).toNat = 2 ^ 6 - 1 by decide, this]; omega
  have h2 : (r % 64).toNat ||| (128 : Int).toNat = 128 + (r % 64).toNat := by
    rw [Nat.or_comm]; exact or_add 7 1 (by decide) (by omega)
  (try (refine st ?_; intros))
  (refine q_fin0 ?_)
  refine Gives.mk (vi ?_)
  rw [h1, Int.toNat_natCast, h2]; omega
theorem widthS_zero (r : Int) : widthS r = 0 ↔ Utf8.valid r = false := by
  have hw := wd_pos (rn r)
  rcases rn_cases r with ⟨h1, h2⟩ | ⟨h1, h2⟩
  · unfold widthS
    rw [h2]
    by_cases h3 : r = 65533
    · subst h3; exact absurd h1 (by decide)
    · simp [h3, h1, fmb_lost]
  · have hok := rn_ok r
    have h4 := widthS_ok hok
    rw [← h2] at h4
    rw [h4, h1]; constructor
    · intro h; omega
    · intro h; cases h
theorem shr_bound (c e : Nat) (h : c ≤ 2147483647) : 0 ≤ (c : Int) / 2 ^ e ∧ (c : Int) / 2 ^ e ≤ 2147483647 := by
  have h1 := Int.ediv_le_self (a := (c : Int)) (2 ^ e) (by omega)
  have h2 : 0 ≤ (c : Int) / 2 ^ e := Int.ediv_nonneg (by omega) (Int.le_of_lt (Int.pow_pos (by decide)))
  omega
theorem shr_nat (c e q : Nat) (hq : 2 ^ e = q) : (c : Int) / 2 ^ e = ((c / q : Nat) : Int) := by subst hq; push_cast; rfl
theorem sq_R16_1 {G : Prop} (h : G := by (repeat (first | (refine sp ?_; (repeat intro zzc)) | (refine iF 73 rfl ?_; refine w_callG Try.func73 ?_ (hs := tail_any _ (by first | omega | exact shr_bound _ _ (by omega)) _ _ _)) | (refine iF 34 rfl ?_; refine w_callG Try.func34 ?_ (hs := width_any _ _ _ _)))); exact WQ.q1 rfl) : G := h
theorem st_R16_1 {G G' : Prop} (next : G') (h : Bx G' → G := by intro zzn; (first | ((refine st ?_; (repeat intro zzc)); (try ((first | (refine iF 73 rfl ?_; refine w_callG Try.func73 ?_ (hs := tail_any _ (by first | omega | exact shr_bound _ _ (by omega)) _ _ _)) | (refine iF 34 rfl ?_; refine w_callG Try.func34 ?_ (hs := width_any _ _ _ _)) | ((refine iDraw ?_; (first | refine WC.drawAll rfl (by decide +kernel) ?_ | refine WC.draw 1 rfl (by decide +kernel) ?_ | refine WC.draw 2 rfl (by decide +kernel) ?_ | refine WC.draw 3 rfl (by decide +kernel) ?_ | refine WC.draw 4 rfl (by decide +kernel) ?_ | refine WC.draw 5 rfl (by decide +kernel) ?_ | refine WC.draw 6 rfl (by decide +kernel) ?_ | refine WC.draw 7 rfl (by decide +kernel) ?_ | refine WC.draw 8 rfl (by decide +kernel) ?_ | refine WC.draw 9 rfl (by decide +kernel) ?_ | refine WC.draw 10 rfl (by decide +kernel) ?_ | refine WC.draw 11 rfl (by decide +kernel) ?_ | refine WC.draw 12 rfl (by decide +kernel) ?_ | refine WC.draw 13 rfl (by decide +kernel) ?_ | refine WC.draw 14 rfl (by decide +kernel) ?_ | refine WC.draw 15 rfl (by decide +kernel) ?_ | refine WC.draw 16 rfl (by decide +kernel) ?_ | refine WC.draw 17 rfl (by decide +kernel) ?_ | refine WC.draw 18 rfl (by decide +kernel) ?_ | refine WC.draw 19 rfl (by decide +kernel) ?_ | refine WC.draw 20 rfl (by decide +kernel) ?_ | refine WC.draw 21 rfl (by decide +kernel) ?_ | refine WC.draw 22 rfl (by decide +kernel) ?_ | refine WC.draw 23 rfl (by decide +kernel) ?_ | refine WC.draw 24 rfl (by decide +kernel) ?_)); (repeat (refine WD.cons rfl (fun c h => by cases h) sq_R16_1 ?_)); refine WD.nil ?_)); (try (refine st ?_; (repeat intro zzc)))))) | ((first | (refine iF 73 rfl ?_; refine w_callG Try.func73 ?_ (hs := tail_any _ (by first | omega | exact shr_bound _ _ (by omega)) _ _ _)) | (refine iF 34 rfl ?_; refine w_callG Try.func34 ?_ (hs := width_any _ _ _ _)) | ((refine iDraw ?_; (first | refine WC.drawAll rfl (by decide +kernel) ?_ | refine WC.draw 1 rfl (by decide +kernel) ?_ | refine WC.draw 2 rfl (by decide +kernel) ?_ | refine WC.draw 3 rfl (by decide +kernel) ?_ | refine WC.draw 4 rfl (by decide +kernel) ?_ | refine WC.draw 5 rfl (by decide +kernel) ?_ | refine WC.draw 6 rfl (by decide +kernel) ?_ | refine WC.draw 7 rfl (by decide +kernel) ?_ | refine WC.draw 8 rfl (by decide +kernel) ?_ | refine WC.draw 9 rfl (by decide +kernel) ?_ | refine WC.draw 10 rfl (by decide +kernel) ?_ | refine WC.draw 11 rfl (by decide +kernel) ?_ | refine WC.draw 12 rfl (by decide +kernel) ?_ | refine WC.draw 13 rfl (by decide +kernel) ?_ | refine WC.draw 14 rfl (by decide +kernel) ?_ | refine WC.draw 15 rfl (by decide +kernel) ?_ | refine WC.draw 16 rfl (by decide +kernel) ?_ | refine WC.draw 17 rfl (by decide +kernel) ?_ | refine WC.draw 18 rfl (by decide +kernel) ?_ | refine WC.draw 19 rfl (by decide +kernel) ?_ | refine WC.draw 20 rfl (by decide +kernel) ?_ | refine WC.draw 21 rfl (by decide +kernel) ?_ | refine WC.draw 22 rfl (by decide +kernel) ?_ | refine WC.draw 23 rfl (by decide +kernel) ?_ | refine WC.draw 24 rfl (by decide +kernel) ?_)); (repeat (refine WD.cons rfl (fun c h => by cases h) sq_R16_1 ?_)); refine WD.nil ?_)); (try (refine st ?_; (repeat intro zzc))))); (repeat ((first | (refine iF 73 rfl ?_; refine w_callG Try.func73 ?_ (hs := tail_any _ (by first | omega | exact shr_bound _ _ (by omega)) _ _ _)) | (refine iF 34 rfl ?_; refine w_callG Try.func34 ?_ (hs := width_any _ _ _ _)) | ((refine iDraw ?_; (first | refine WC.drawAll rfl (by decide +kernel) ?_ | refine WC.draw 1 rfl (by decide +kernel) ?_ | refine WC.draw 2 rfl (by decide +kernel) ?_ | refine WC.draw 3 rfl (by decide +kernel) ?_ | refine WC.draw 4 rfl (by decide +kernel) ?_ | refine WC.draw 5 rfl (by decide +kernel) ?_ | refine WC.draw 6 rfl (by decide +kernel) ?_ | refine WC.draw 7 rfl (by decide +kernel) ?_ | refine WC.draw 8 rfl (by decide +kernel) ?_ | refine WC.draw 9 rfl (by decide +kernel) ?_ | refine WC.draw 10 rfl (by decide +kernel) ?_ | refine WC.draw 11 rfl (by decide +kernel) ?_ | refine WC.draw 12 rfl (by decide +kernel) ?_ | refine WC.draw 13 rfl (by decide +kernel) ?_ | refine WC.draw 14 rfl (by decide +kernel) ?_ | refine WC.draw 15 rfl (by decide +kernel) ?_ | refine WC.draw 16 rfl (by decide +kernel) ?_ | refine WC.draw 17 rfl (by decide +kernel) ?_ | refine WC.draw 18 rfl (by decide +kernel) ?_ | refine WC.draw 19 rfl (by decide +kernel) ?_ | refine WC.draw 20 rfl (by decide +kernel) ?_ | refine WC.draw 21 rfl (by decide +kernel) ?_ | refine WC.draw 22 rfl (by decide +kernel) ?_ | refine WC.draw 23 rfl (by decide +kernel) ?_ | refine WC.draw 24 rfl (by decide +kernel) ?_)); (repeat (refine WD.cons rfl (fun c h => by cases h) sq_R16_1 ?_)); refine WD.nil ?_)); (try (refine st ?_; (repeat intro zzc))))); (repeat revert zzc); exact zzn.out) : G := h ⟨next⟩
theorem encode_any (r : Int) (w0 : World) (m : Mem) (H : SHeap) : Does Try.prog 36 #[.int .i32 r] w0 m H (Gives (str (fmb (rn r))) m H) := by
  have hok := rn_ok r
  refine Does.of_body (args := [.int .i32 r]) Try.func36 rfl Try.ntmps36 rfl ?_
  have hz := widthS_zero r
  (try (refine st_R16_1 ?_; intros))
  refine WC.join (fun r' ds' m' H' => r' = [(0, .int .i32 (rn r : Int)), (2, str [])] ∧ ds' = [] ∧ m' = m ∧ H' = H) ?_ ?_
  · (first | refine c_ways (fun h1 => ?_) (fun h1 => ?_) | refine c_nways (fun h1 => ?_) (fun h1 => ?_) | refine w_gways (fun h1 => ?_) (fun h1 => ?_) | refine w_gnways (fun h1 => ?_) (fun h1 => ?_))
    · rcases rn_cases r with ⟨hf, hr⟩ | ⟨hf, hr⟩
      · (try (refine st_R16_1 ?_; intros))
        exact WQ.join ⟨rfl, rfl, rfl, rfl⟩ (Env.Sub.cons (by rw [hr]; rfl) (Env.Sub.cons rfl .nil)) (fun w h => h)
      · rw [hz, hf] at h1; cases h1
    · rcases rn_cases r with ⟨hf, hr⟩ | ⟨hf, hr⟩
      · exact absurd (hz.2 hf) h1
      · (try (refine st_R16_1 ?_; intros))
        exact WQ.join ⟨rfl, rfl, rfl, rfl⟩ (Env.Sub.cons (by rw [← hr]; rfl) (Env.Sub.cons rfl .nil)) (fun w h => h)
  rintro _ _ _ _ ⟨rfl, rfl, rfl, rfl⟩
  generalize rn r = c at hok ⊢
  have hc := okr_le hok
  have fin : ∀ (L : List Nat), fm c = L → (∀ x ∈ L, x < 256) → L.map (fun x : Nat => Value.int .u8 (x : Int)) = (fmb c).map fun b => Value.int .u8 (b.toNat : Int) := by
    intro L hL hx
    unfold fmb
    rw [hL, List.map_map]
    apply List.map_congr_left
    intro x h
    have := hx x h
    simp; omega
  rcases (show c < 128 ∨ (128 ≤ c ∧ c < 2048) ∨ (2048 ≤ c ∧ c < 65536) ∨ 65536 ≤ c by omega) with h | h | h | h
  · (try (refine st_R16_1 ?_; intros))
    apply WL.blkStr (s := fmb c)
    · exact rfl
    · (repeat (first | exact List.Mem.head _ | apply List.Mem.tail))
    · rw [← fin [c] (by unfold fm; rw [if_pos h]) (by simp; omega)]; rfl
    · rw [fmb_length]; unfold wd; rw [if_pos h]
    · exact rfl
    · exact rfl
    · exact rfl
    · exact rfl
    · exact rfl
    (try (refine st_R16_1 ?_; intros))
    (refine q_fin0 ?_)
    exact Gives.mk rfl
  · (try (refine st_R16_1 ?_; intros))
    apply WL.blkStr (s := fmb c)
    · exact rfl
    · (repeat (first | exact List.Mem.head _ | apply List.Mem.tail))
    · rw [← fin [0xC0 + c / 64, 0x80 + c % 64] (by unfold fm; rw [if_neg (by omega), if_pos h.2]) (by simp; omega)]
      have e3 : 192 ||| ((c : Int) / 64 % 256).toNat = 192 + c / 64 := by
        rw [show ((c : Int) / 64 % 256).toNat = c / 64 by omega]; exact or_add 5 6 (by decide) (by omega)
      simp [e3]
    · rw [fmb_length]; unfold wd; rw [if_neg (by omega), if_pos h.2]
    · exact rfl
    · exact rfl
    · exact rfl
    · exact rfl
    · exact rfl
    (try (refine st_R16_1 ?_; intros))
    (refine q_fin0 ?_)
    exact Gives.mk rfl
  · (try (refine st_R16_1 ?_; intros))
    apply WL.blkStr (s := fmb c)
    · exact rfl
    · (repeat (first | exact List.Mem.head _ | apply List.Mem.tail))
    · rw [← fin [0xE0 + c / 4096, 0x80 + c / 64 % 64, 0x80 + c % 64] (by unfold fm; rw [if_neg (by omega), if_neg (by omega), if_pos h.2]) (by simp; omega)]
      have e1 := shr_nat c 6 64 (by decide)
      have e2 := shr_nat c 12 4096 (by decide)
      have e3 : 224 ||| ((c : Int) / 4096 % 256).toNat = 224 + c / 4096 := by
        rw [show ((c : Int) / 4096 % 256).toNat = c / 4096 by omega]; exact or_add 4 14 (by decide) (by omega)
      simp [e3, e1, e2]
    · rw [fmb_length]; unfold wd; rw [if_neg (by omega), if_neg (by omega), if_pos h.2]
    · exact rfl
    · exact rfl
    · exact rfl
    · exact rfl
    · exact rfl
    (try (refine st_R16_1 ?_; intros))
    (refine q_fin0 ?_)
    exact Gives.mk rfl
  · (try (refine st_R16_1 ?_; intros))
    apply WL.blkStr (s := fmb c)
    · exact rfl
    · (repeat (first | exact List.Mem.head _ | apply List.Mem.tail))
    · rw [← fin [0xF0 + c / 262144, 0x80 + c / 4096 % 64, 0x80 + c / 64 % 64, 0x80 + c % 64] (by unfold fm; rw [if_neg (by omega), if_neg (by omega), if_neg (by omega)]) (by simp; omega)]
      have e1 := shr_nat c 6 64 (by decide)
      have e2 := shr_nat c 12 4096 (by decide)
      have e3 : 240 ||| ((c : Int) / 262144 % 256).toNat = 240 + c / 262144 := by
        rw [show ((c : Int) / 262144 % 256).toNat = c / 262144 by omega]; exact or_add 3 30 (by decide) (by omega)
      simp [e3, e1, e2]
    · rw [fmb_length]; unfold wd; rw [if_neg (by omega), if_neg (by omega), if_neg (by omega)]
    · exact rfl
    · exact rfl
    · exact rfl
    · exact rfl
    · exact rfl
    (try (refine st_R16_1 ?_; intros))
    (refine q_fin0 ?_)
    exact Gives.mk rfl
theorem sq_R16_2 {G : Prop} (h : G := by (repeat (first | (refine sp ?_; (repeat intro zzc)))); exact WQ.q1 rfl) : G := h
theorem st_R16_2 {G G' : Prop} (next : G') (h : Bx G' → G := by intro zzn; (first | ((refine st ?_; (repeat intro zzc)); (try ((first | ((refine iDraw ?_; (first | refine WC.drawAll rfl (by decide +kernel) ?_ | refine WC.draw 1 rfl (by decide +kernel) ?_ | refine WC.draw 2 rfl (by decide +kernel) ?_ | refine WC.draw 3 rfl (by decide +kernel) ?_ | refine WC.draw 4 rfl (by decide +kernel) ?_ | refine WC.draw 5 rfl (by decide +kernel) ?_ | refine WC.draw 6 rfl (by decide +kernel) ?_ | refine WC.draw 7 rfl (by decide +kernel) ?_ | refine WC.draw 8 rfl (by decide +kernel) ?_ | refine WC.draw 9 rfl (by decide +kernel) ?_ | refine WC.draw 10 rfl (by decide +kernel) ?_ | refine WC.draw 11 rfl (by decide +kernel) ?_ | refine WC.draw 12 rfl (by decide +kernel) ?_ | refine WC.draw 13 rfl (by decide +kernel) ?_ | refine WC.draw 14 rfl (by decide +kernel) ?_ | refine WC.draw 15 rfl (by decide +kernel) ?_ | refine WC.draw 16 rfl (by decide +kernel) ?_ | refine WC.draw 17 rfl (by decide +kernel) ?_ | refine WC.draw 18 rfl (by decide +kernel) ?_ | refine WC.draw 19 rfl (by decide +kernel) ?_ | refine WC.draw 20 rfl (by decide +kernel) ?_ | refine WC.draw 21 rfl (by decide +kernel) ?_ | refine WC.draw 22 rfl (by decide +kernel) ?_ | refine WC.draw 23 rfl (by decide +kernel) ?_ | refine WC.draw 24 rfl (by decide +kernel) ?_)); (repeat (refine WD.cons rfl (fun c h => by cases h) sq_R16_2 ?_)); refine WD.nil ?_)); (try (refine st ?_; (repeat intro zzc)))))) | ((first | ((refine iDraw ?_; (first | refine WC.drawAll rfl (by decide +kernel) ?_ | refine WC.draw 1 rfl (by decide +kernel) ?_ | refine WC.draw 2 rfl (by decide +kernel) ?_ | refine WC.draw 3 rfl (by decide +kernel) ?_ | refine WC.draw 4 rfl (by decide +kernel) ?_ | refine WC.draw 5 rfl (by decide +kernel) ?_ | refine WC.draw 6 rfl (by decide +kernel) ?_ | refine WC.draw 7 rfl (by decide +kernel) ?_ | refine WC.draw 8 rfl (by decide +kernel) ?_ | refine WC.draw 9 rfl (by decide +kernel) ?_ | refine WC.draw 10 rfl (by decide +kernel) ?_ | refine WC.draw 11 rfl (by decide +kernel) ?_ | refine WC.draw 12 rfl (by decide +kernel) ?_ | refine WC.draw 13 rfl (by decide +kernel) ?_ | refine WC.draw 14 rfl (by decide +kernel) ?_ | refine WC.draw 15 rfl (by decide +kernel) ?_ | refine WC.draw 16 rfl (by decide +kernel) ?_ | refine WC.draw 17 rfl (by decide +kernel) ?_ | refine WC.draw 18 rfl (by decide +kernel) ?_ | refine WC.draw 19 rfl (by decide +kernel) ?_ | refine WC.draw 20 rfl (by decide +kernel) ?_ | refine WC.draw 21 rfl (by decide +kernel) ?_ | refine WC.draw 22 rfl (by decide +kernel) ?_ | refine WC.draw 23 rfl (by decide +kernel) ?_ | refine WC.draw 24 rfl (by decide +kernel) ?_)); (repeat (refine WD.cons rfl (fun c h => by cases h) sq_R16_2 ?_)); refine WD.nil ?_)); (try (refine st ?_; (repeat intro zzc))))); (repeat ((first | ((refine iDraw ?_; (first | refine WC.drawAll rfl (by decide +kernel) ?_ | refine WC.draw 1 rfl (by decide +kernel) ?_ | refine WC.draw 2 rfl (by decide +kernel) ?_ | refine WC.draw 3 rfl (by decide +kernel) ?_ | refine WC.draw 4 rfl (by decide +kernel) ?_ | refine WC.draw 5 rfl (by decide +kernel) ?_ | refine WC.draw 6 rfl (by decide +kernel) ?_ | refine WC.draw 7 rfl (by decide +kernel) ?_ | refine WC.draw 8 rfl (by decide +kernel) ?_ | refine WC.draw 9 rfl (by decide +kernel) ?_ | refine WC.draw 10 rfl (by decide +kernel) ?_ | refine WC.draw 11 rfl (by decide +kernel) ?_ | refine WC.draw 12 rfl (by decide +kernel) ?_ | refine WC.draw 13 rfl (by decide +kernel) ?_ | refine WC.draw 14 rfl (by decide +kernel) ?_ | refine WC.draw 15 rfl (by decide +kernel) ?_ | refine WC.draw 16 rfl (by decide +kernel) ?_ | refine WC.draw 17 rfl (by decide +kernel) ?_ | refine WC.draw 18 rfl (by decide +kernel) ?_ | refine WC.draw 19 rfl (by decide +kernel) ?_ | refine WC.draw 20 rfl (by decide +kernel) ?_ | refine WC.draw 21 rfl (by decide +kernel) ?_ | refine WC.draw 22 rfl (by decide +kernel) ?_ | refine WC.draw 23 rfl (by decide +kernel) ?_ | refine WC.draw 24 rfl (by decide +kernel) ?_)); (repeat (refine WD.cons rfl (fun c h => by cases h) sq_R16_2 ?_)); refine WD.nil ?_)); (try (refine st ?_; (repeat intro zzc))))); (repeat revert zzc); exact zzn.out) : G := h ⟨next⟩
def rI (k : Int) : List Value := [.int .i32 k]
def bV (b : UInt8) : List Value := [.int .u8 (b.toNat : Int)]
theorem bV_append (A B : List UInt8) : (A ++ B).map bV = A.map bV ++ B.map (fun b => [Value.int .u8 (b.toNat : Int)]) := by rw [List.map_append]; rfl
theorem sq_R16_3 {G : Prop} (h : G := by (repeat (first | (refine sp ?_; (repeat intro zzc)) | (refine iF 36 rfl ?_; refine w_callG Try.func36 ?_ (hs := encode_any _ _ _ _)) | (refine iF 37 rfl ?_; refine w_callG Try.func37 ?_ (hs := rencode_any _ _ _ _)))); exact WQ.q1 rfl) : G := h
theorem st_R16_3 {G G' : Prop} (next : G') (h : Bx G' → G := by intro zzn; (first | ((refine st ?_; (repeat intro zzc)); (try ((first | (refine iF 36 rfl ?_; refine w_callG Try.func36 ?_ (hs := encode_any _ _ _ _)) | (refine iF 37 rfl ?_; refine w_callG Try.func37 ?_ (hs := rencode_any _ _ _ _)) | ((refine iDraw ?_; (first | refine WC.drawAll rfl (by decide +kernel) ?_ | refine WC.draw 1 rfl (by decide +kernel) ?_ | refine WC.draw 2 rfl (by decide +kernel) ?_ | refine WC.draw 3 rfl (by decide +kernel) ?_ | refine WC.draw 4 rfl (by decide +kernel) ?_ | refine WC.draw 5 rfl (by decide +kernel) ?_ | refine WC.draw 6 rfl (by decide +kernel) ?_ | refine WC.draw 7 rfl (by decide +kernel) ?_ | refine WC.draw 8 rfl (by decide +kernel) ?_ | refine WC.draw 9 rfl (by decide +kernel) ?_ | refine WC.draw 10 rfl (by decide +kernel) ?_ | refine WC.draw 11 rfl (by decide +kernel) ?_ | refine WC.draw 12 rfl (by decide +kernel) ?_ | refine WC.draw 13 rfl (by decide +kernel) ?_ | refine WC.draw 14 rfl (by decide +kernel) ?_ | refine WC.draw 15 rfl (by decide +kernel) ?_ | refine WC.draw 16 rfl (by decide +kernel) ?_ | refine WC.draw 17 rfl (by decide +kernel) ?_ | refine WC.draw 18 rfl (by decide +kernel) ?_ | refine WC.draw 19 rfl (by decide +kernel) ?_ | refine WC.draw 20 rfl (by decide +kernel) ?_ | refine WC.draw 21 rfl (by decide +kernel) ?_ | refine WC.draw 22 rfl (by decide +kernel) ?_ | refine WC.draw 23 rfl (by decide +kernel) ?_ | refine WC.draw 24 rfl (by decide +kernel) ?_)); (repeat (refine WD.cons rfl (fun c h => by cases h) sq_R16_3 ?_)); refine WD.nil ?_)); (try (refine st ?_; (repeat intro zzc)))))) | ((first | (refine iF 36 rfl ?_; refine w_callG Try.func36 ?_ (hs := encode_any _ _ _ _)) | (refine iF 37 rfl ?_; refine w_callG Try.func37 ?_ (hs := rencode_any _ _ _ _)) | ((refine iDraw ?_; (first | refine WC.drawAll rfl (by decide +kernel) ?_ | refine WC.draw 1 rfl (by decide +kernel) ?_ | refine WC.draw 2 rfl (by decide +kernel) ?_ | refine WC.draw 3 rfl (by decide +kernel) ?_ | refine WC.draw 4 rfl (by decide +kernel) ?_ | refine WC.draw 5 rfl (by decide +kernel) ?_ | refine WC.draw 6 rfl (by decide +kernel) ?_ | refine WC.draw 7 rfl (by decide +kernel) ?_ | refine WC.draw 8 rfl (by decide +kernel) ?_ | refine WC.draw 9 rfl (by decide +kernel) ?_ | refine WC.draw 10 rfl (by decide +kernel) ?_ | refine WC.draw 11 rfl (by decide +kernel) ?_ | refine WC.draw 12 rfl (by decide +kernel) ?_ | refine WC.draw 13 rfl (by decide +kernel) ?_ | refine WC.draw 14 rfl (by decide +kernel) ?_ | refine WC.draw 15 rfl (by decide +kernel) ?_ | refine WC.draw 16 rfl (by decide +kernel) ?_ | refine WC.draw 17 rfl (by decide +kernel) ?_ | refine WC.draw 18 rfl (by decide +kernel) ?_ | refine WC.draw 19 rfl (by decide +kernel) ?_ | refine WC.draw 20 rfl (by decide +kernel) ?_ | refine WC.draw 21 rfl (by decide +kernel) ?_ | refine WC.draw 22 rfl (by decide +kernel) ?_ | refine WC.draw 23 rfl (by decide +kernel) ?_ | refine WC.draw 24 rfl (by decide +kernel) ?_)); (repeat (refine WD.cons rfl (fun c h => by cases h) sq_R16_3 ?_)); refine WD.nil ?_)); (try (refine st ?_; (repeat intro zzc))))); (repeat ((first | (refine iF 36 rfl ?_; refine w_callG Try.func36 ?_ (hs := encode_any _ _ _ _)) | (refine iF 37 rfl ?_; refine w_callG Try.func37 ?_ (hs := rencode_any _ _ _ _)) | ((refine iDraw ?_; (first | refine WC.drawAll rfl (by decide +kernel) ?_ | refine WC.draw 1 rfl (by decide +kernel) ?_ | refine WC.draw 2 rfl (by decide +kernel) ?_ | refine WC.draw 3 rfl (by decide +kernel) ?_ | refine WC.draw 4 rfl (by decide +kernel) ?_ | refine WC.draw 5 rfl (by decide +kernel) ?_ | refine WC.draw 6 rfl (by decide +kernel) ?_ | refine WC.draw 7 rfl (by decide +kernel) ?_ | refine WC.draw 8 rfl (by decide +kernel) ?_ | refine WC.draw 9 rfl (by decide +kernel) ?_ | refine WC.draw 10 rfl (by decide +kernel) ?_ | refine WC.draw 11 rfl (by decide +kernel) ?_ | refine WC.draw 12 rfl (by decide +kernel) ?_ | refine WC.draw 13 rfl (by decide +kernel) ?_ | refine WC.draw 14 rfl (by decide +kernel) ?_ | refine WC.draw 15 rfl (by decide +kernel) ?_ | refine WC.draw 16 rfl (by decide +kernel) ?_ | refine WC.draw 17 rfl (by decide +kernel) ?_ | refine WC.draw 18 rfl (by decide +kernel) ?_ | refine WC.draw 19 rfl (by decide +kernel) ?_ | refine WC.draw 20 rfl (by decide +kernel) ?_ | refine WC.draw 21 rfl (by decide +kernel) ?_ | refine WC.draw 22 rfl (by decide +kernel) ?_ | refine WC.draw 23 rfl (by decide +kernel) ?_ | refine WC.draw 24 rfl (by decide +kernel) ?_)); (repeat (refine WD.cons rfl (fun c h => by cases h) sq_R16_3 ?_)); refine WD.nil ?_)); (try (refine st ?_; (repeat intro zzc))))); (repeat revert zzc); exact zzn.out) : G := h ⟨next⟩
theorem of_any {a : Option Addr} {cap : Nat} {ns : List Int} {w0 : World} {m : Mem} {H : SHeap} (hl : ns.length ≤ 5000000000000) (hr : RowR w0 m H 1 a (ns.map rI)) :
    Does Try.prog 32 #[.slice a ns.length cap] w0 m H (Gives (str (formsOf ns)) m H) := by
  refine Does.of_body (args := [.slice a ns.length cap]) Try.func32 rfl Try.ntmps32 rfl ?_
  (try (refine st_R16_3 ?_; intros))
  refine WC.newRow (T := 5) (sz := 1) ?_
  refine WC.loopH [(8, .int .i64 ((0) : Int)), (7, .int .i64 (ns.length : Int)), (6, .slice a ns.length cap), (3, .slice (none) (0) (0))] ?_ ?_ (fun j r ds m' H' => ∃ i b cb k S, j = ns.length - i ∧ r = [(8, .int .i64 (i : Int)), (7, .int .i64 (ns.length : Int)), (6, .slice a ns.length cap), (3, .slice b k cb)] ∧ ds = [] ∧ m = m' ∧ H' = .row b cb 5 1 (S.map bV) :: H ∧ (i ≤ ns.length) ∧ (k = (S.map bV).length) ∧ (S = formsOf (ns.take i)) ∧ (S.length ≤ 4 * i)) (ns.length - (0)) ⟨0, none, 0, 0, [], rfl, rfl, rfl, rfl, rfl, by omega, rfl, rfl, by simp⟩ ?_
  · (repeat (first | exact Env.Sub.nil | refine Env.Sub.cons rfl ?_))
  · exact (fun w h => Pick.sat (by iterate 60 (try (first | exact Pick.all | (apply Pick.take; (· (repeat (first | exact Out.here | apply Out.there)))) | apply Pick.drop))) h)
  rintro j r ds m' H' ⟨i, b, cb, k, S, rfl, rfl, rfl, rfl, rfl, hi, rfl, hS, hSl⟩
  have hml : (S.map bV).length = S.length := by simp
  by_cases hlt : i < ns.length
  · obtain ⟨x, hx, hget, htk, hmem, hdr⟩ := at_idx (f := rI) hlt
    have hf := fmb_length (rn x)
    have hw := wd_pos (rn x)
    have hr2 : RowR w0 m (.row b cb 5 1 (S.map bV) :: H) 1 a (ns.map rI) := hr.more
    refine WC.rSome hr2 (by simp; omega) ?_
    rintro a0 rfl
    (refine st_R16_3 ?_; intros; rename_i b2 cb2)
    rw [← bV_append]
    refine WQ.next (ns.length - (i + 1)) ⟨i + 1, b2, cb2, _, S ++ fmb (rn x), rfl, rfl, rfl, rfl, rfl, ?_, ?_, ?_, ?_⟩ (by omega) (by (repeat (first | exact Env.Sub.nil | refine Env.Sub.cons rfl ?_))) (fun w h => Pick.sat (by iterate 60 (try (first | exact Pick.all | (apply Pick.take; (· (repeat (first | exact Out.here | apply Out.there)))) | apply Pick.drop))) h)
    · omega
    · simp
    · rw [htk, formsOf_append, ← hS]; simp [formsOf]
    · simp; omega
  · obtain rfl : i = ns.length := by omega
    rw [List.take_length] at hS
    subst hS
    (try (refine st_R16_3 ?_; intros))
    refine WL.rowStr (s := formsOf ns) rfl hml (by (repeat (first | exact List.Mem.head _ | apply List.Mem.tail))) rfl rfl rfl rfl rfl ?_
    (try (refine st_R16_3 ?_; intros))
    (refine q_fin0 ?_)
    exact Gives.mk rfl
theorem refOf_any {a : Option Addr} {cap : Nat} {ns : List Int} {w0 : World} {m : Mem} {H : SHeap} (hl : ns.length ≤ 5000000000000) (hr : RowR w0 m H 1 a (ns.map rI)) :
    Does Try.prog 33 #[.slice a ns.length cap] w0 m H (Gives (str (formsOf ns)) m H) := by
  refine Does.of_body (args := [.slice a ns.length cap]) Try.func33 rfl Try.ntmps33 rfl ?_
  (try (refine st_R16_3 ?_; intros))
  refine WC.newRow (T := 5) (sz := 1) ?_
  refine WC.loopH [(8, .int .i64 ((0) : Int)), (7, .int .i64 (ns.length : Int)), (6, .slice a ns.length cap), (3, .slice (none) (0) (0))] ?_ ?_ (fun j r ds m' H' => ∃ i b cb k S, j = ns.length - i ∧ r = [(8, .int .i64 (i : Int)), (7, .int .i64 (ns.length : Int)), (6, .slice a ns.length cap), (3, .slice b k cb)] ∧ ds = [] ∧ m = m' ∧ H' = .row b cb 5 1 (S.map bV) :: H ∧ (i ≤ ns.length) ∧ (k = (S.map bV).length) ∧ (S = formsOf (ns.take i)) ∧ (S.length ≤ 4 * i)) (ns.length - (0)) ⟨0, none, 0, 0, [], rfl, rfl, rfl, rfl, rfl, by omega, rfl, rfl, by simp⟩ ?_
  · (repeat (first | exact Env.Sub.nil | refine Env.Sub.cons rfl ?_))
  · exact (fun w h => Pick.sat (by iterate 60 (try (first | exact Pick.all | (apply Pick.take; (· (repeat (first | exact Out.here | apply Out.there)))) | apply Pick.drop))) h)
  rintro j r ds m' H' ⟨i, b, cb, k, S, rfl, rfl, rfl, rfl, rfl, hi, rfl, hS, hSl⟩
  have hml : (S.map bV).length = S.length := by simp
  by_cases hlt : i < ns.length
  · obtain ⟨x, hx, hget, htk, hmem, hdr⟩ := at_idx (f := rI) hlt
    have hf := fmb_length (rn x)
    have hw := wd_pos (rn x)
    have hr2 : RowR w0 m (.row b cb 5 1 (S.map bV) :: H) 1 a (ns.map rI) := hr.more
    refine WC.rSome hr2 (by simp; omega) ?_
    rintro a0 rfl
    (refine st_R16_3 ?_; intros; rename_i b2 cb2)
    rw [← bV_append]
    refine WQ.next (ns.length - (i + 1)) ⟨i + 1, b2, cb2, _, S ++ fmb (rn x), rfl, rfl, rfl, rfl, rfl, ?_, ?_, ?_, ?_⟩ (by omega) (by (repeat (first | exact Env.Sub.nil | refine Env.Sub.cons rfl ?_))) (fun w h => Pick.sat (by iterate 60 (try (first | exact Pick.all | (apply Pick.take; (· (repeat (first | exact Out.here | apply Out.there)))) | apply Pick.drop))) h)
    · omega
    · simp
    · rw [htk, formsOf_append, ← hS]; simp [formsOf]
    · simp; omega
  · obtain rfl : i = ns.length := by omega
    rw [List.take_length] at hS
    subst hS
    (try (refine st_R16_3 ?_; intros))
    refine WL.rowStr (s := formsOf ns) rfl hml (by (repeat (first | exact List.Mem.head _ | apply List.Mem.tail))) rfl rfl rfl rfl rfl ?_
    (try (refine st_R16_3 ?_; intros))
    (refine q_fin0 ?_)
    exact Gives.mk rfl
end Go.Proofs.Ytdmdabjaboigcaa

/-
  The walks of begun, Wants, and of the reference's lacks. No condition.
-/
namespace Go.Eng
open Go Go.RowKit
section
variable {P : Program} {ro : Option Nat} {n : Nat} {w0 : World} {Q : Exit → Act → World → Prop} {r : Env} {ds : List Nat} {m : Mem} {H : SHeap}
theorem WC.blkRow {c : Code} {b sz : Nat} {L : List Value} {T : TypeId} {es : List (List Value)} {H1 : SHeap} (ho : Out (.blk b (.cells L.toArray T (0, 0))) H H1) (hL : L = es.flatten) (hes : ∀ e ∈ es, e.length = sz)
    (h : WC P ro n w0 c Q r ds m (.row (some ⟨b, 0, none⟩) es.length T sz es :: H1)) : WC P ro n w0 c Q r ds m H := by
  subst hL
  exact fun tmps w hok hs => h tmps w hok (Sat.row_of hes (hs.perm ho.perm))
end
end Go.Eng
namespace Go.Proofs.Ytdmdabjaboigcaa
open Go Go.Eng
set_option maxRecDepth 100000
set_option maxHeartbeats 4000000
set_option linter.all false
attribute [local irreducible] WL WC WQ QFun QLoop Does Q1 QRound QAssign Go.Addr.add
theorem begun_any (l : List UInt8) (hl : l.length ≤ 9223372036854775804) (w0 : World) (m : Mem) (H : SHeap) :
    Does Try.prog 80 #[str l] w0 m H (Gives (.tuple #[.int .i64 ((begunOf l).1 : Int), .int .i64 ((begunOf l).2 : Int)]) m H) := by
  refine Does.of_body (args := [str l]) Try.func80 rfl Try.ntmps80 rfl ?_
  (try (refine st ?_; intros))
  refine WC.loopH [(4, .int .i64 ((1) : Int)), (0, str l)] ?_ ?_ (fun j r ds m' H' => ∃ k, j = 4 - k ∧ r = [(4, .int .i64 (k : Int)), (0, str l)] ∧ ds = [] ∧ m = m' ∧ H' = H ∧ (1 ≤ k ∧ k ≤ 4) ∧ (begunOf l = begunK l (4 - k))) (4 - (1)) ⟨1, rfl, rfl, rfl, rfl, rfl, by omega, rfl⟩ ?_
  · (repeat (first | exact Env.Sub.nil | refine Env.Sub.cons rfl ?_))
  · exact (fun w h => Pick.sat (by iterate 60 (try (first | exact Pick.all | (apply Pick.take; (· (repeat (first | exact Out.here | apply Out.there)))) | apply Pick.drop))) h)
  rintro j r ds m' H' ⟨k, rfl, rfl, rfl, rfl, rfl, hk, hbk⟩
  generalize H' = H
  by_cases hk3 : k ≤ 3
  · by_cases hkl : k ≤ l.length
    · have ht : ((l.length : Int) - (k : Int)).toNat = l.length - k := by omega
      obtain ⟨b, hb⟩ : ∃ b, l.drop (l.length - k) = b := ⟨_, rfl⟩
      have hbl : b.length = k := by rw [← hb]; simp; omega
      have hty := begun_yes hk.1 hk3 hkl
      have htn := begun_next hk.1 hk3 hkl
      rw [hb] at hty htn
      have hc0 := nb_lt b 0
      generalize hx : gb b 0 = x at hc0
      have hbg : begOk b ↔ k < ldN x ∧ (1 < k → loN x ≤ nb b 1 ∧ nb b 1 ≤ hiN x) ∧ (2 < k → 128 ≤ nb b 2 ∧ nb b 2 ≤ 191) := by
        unfold begOk; rw [hbl, show nb b 0 = x from hx]
      (try (refine st ?_; intros))
      rw [hb]
      by_cases hc1 : x < 194
      · (try (refine st ?_; intros))
        rw [hx]
        have hnb : ¬ begOk b := fun h => by have := (hbg.1 h).1; simp [ldN, hc1] at this
        (try (refine st ?_; intros))
        refine WQ.next (4 - (k + 1)) ⟨k + 1, rfl, rfl, rfl, rfl, rfl, ?_, ?_⟩ (by omega) (by (repeat (first | exact Env.Sub.nil | refine Env.Sub.cons rfl ?_))) (fun w h => Pick.sat (by iterate 60 (try (first | exact Pick.all | (apply Pick.take; (· (repeat (first | exact Out.here | apply Out.there)))) | apply Pick.drop))) h)
        · omega
        · rw [hbk, htn hnb]
      by_cases hc2 : 244 < x
      · (try (refine st ?_; intros))
        rw [hx]
        have hnb : ¬ begOk b := fun h => by have := (hbg.1 h).1; simp [ldN, hc2] at this
        (try (refine st ?_; intros))
        refine WQ.next (4 - (k + 1)) ⟨k + 1, rfl, rfl, rfl, rfl, rfl, ?_, ?_⟩ (by omega) (by (repeat (first | exact Env.Sub.nil | refine Env.Sub.cons rfl ?_))) (fun w h => Pick.sat (by iterate 60 (try (first | exact Pick.all | (apply Pick.take; (· (repeat (first | exact Out.here | apply Out.there)))) | apply Pick.drop))) h)
        · omega
        · rw [hbk, htn hnb]
      (try (refine st ?_; intros))
      rw [hx]
      (try (refine st ?_; intros))
      refine WC.join (fun r' ds' m' H' => ∃ n lo hi : Nat, n = ldN x ∧ lo = loN x ∧ hi = hiN x ∧ r' = [(6, .int .i64 (n : Int)), (7, .int .u8 (lo : Int)), (8, .int .u8 (hi : Int)), (5, str b), (4, .int .i64 (k : Int)), (0, str l)] ∧ ds' = [] ∧ m' = m ∧ H' = H) ?_ ?_
      · by_cases g1 : x < 224
        · (try (refine st ?_; intros))
          exact WQ.join ⟨2, 128, 191, by simp [ldN, hc1, hc2, g1], by unfold loN; rw [if_neg (by omega), if_neg (by omega)], by unfold hiN; rw [if_neg (by omega), if_neg (by omega)], rfl, rfl, rfl, rfl⟩ (by (repeat (first | exact Env.Sub.nil | refine Env.Sub.cons rfl ?_))) (fun w h => Pick.sat (by iterate 60 (try (first | exact Pick.all | (apply Pick.take; (· (repeat (first | exact Out.here | apply Out.there)))) | apply Pick.drop))) h)
        by_cases g2 : x < 240
        · by_cases g3 : x = 224
          · subst g3
            (try (refine st ?_; intros))
            exact WQ.join ⟨3, 160, 191, rfl, rfl, rfl, rfl, rfl, rfl, rfl⟩ (by (repeat (first | exact Env.Sub.nil | refine Env.Sub.cons rfl ?_))) (fun w h => Pick.sat (by iterate 60 (try (first | exact Pick.all | (apply Pick.take; (· (repeat (first | exact Out.here | apply Out.there)))) | apply Pick.drop))) h)
          by_cases g4 : x = 237
          · subst g4
            (try (refine st ?_; intros))
            exact WQ.join ⟨3, 128, 159, rfl, rfl, rfl, rfl, rfl, rfl, rfl⟩ (by (repeat (first | exact Env.Sub.nil | refine Env.Sub.cons rfl ?_))) (fun w h => Pick.sat (by iterate 60 (try (first | exact Pick.all | (apply Pick.take; (· (repeat (first | exact Out.here | apply Out.there)))) | apply Pick.drop))) h)
          (try (refine st ?_; intros))
          exact WQ.join ⟨3, 128, 191, by simp [ldN, hc1, hc2, g1, g2], by unfold loN; rw [if_neg (by omega), if_neg (by omega)], by unfold hiN; rw [if_neg (by omega), if_neg (by omega)], rfl, rfl, rfl, rfl⟩ (by (repeat (first | exact Env.Sub.nil | refine Env.Sub.cons rfl ?_))) (fun w h => Pick.sat (by iterate 60 (try (first | exact Pick.all | (apply Pick.take; (· (repeat (first | exact Out.here | apply Out.there)))) | apply Pick.drop))) h)
        by_cases g3 : x = 240
        · subst g3
          (try (refine st ?_; intros))
          exact WQ.join ⟨4, 144, 191, rfl, rfl, rfl, rfl, rfl, rfl, rfl⟩ (by (repeat (first | exact Env.Sub.nil | refine Env.Sub.cons rfl ?_))) (fun w h => Pick.sat (by iterate 60 (try (first | exact Pick.all | (apply Pick.take; (· (repeat (first | exact Out.here | apply Out.there)))) | apply Pick.drop))) h)
        by_cases g4 : x = 244
        · subst g4
          (try (refine st ?_; intros))
          exact WQ.join ⟨4, 128, 143, rfl, rfl, rfl, rfl, rfl, rfl, rfl⟩ (by (repeat (first | exact Env.Sub.nil | refine Env.Sub.cons rfl ?_))) (fun w h => Pick.sat (by iterate 60 (try (first | exact Pick.all | (apply Pick.take; (· (repeat (first | exact Out.here | apply Out.there)))) | apply Pick.drop))) h)
        (try (refine st ?_; intros))
        exact WQ.join ⟨4, 128, 191, by simp [ldN, hc1, hc2, g1, g2], by unfold loN; rw [if_neg (by omega), if_neg (by omega)], by unfold hiN; rw [if_neg (by omega), if_neg (by omega)], rfl, rfl, rfl, rfl⟩ (by (repeat (first | exact Env.Sub.nil | refine Env.Sub.cons rfl ?_))) (fun w h => Pick.sat (by iterate 60 (try (first | exact Pick.all | (apply Pick.take; (· (repeat (first | exact Out.here | apply Out.there)))) | apply Pick.drop))) h)
      rintro _ _ m H ⟨n, lo, hi, hn, hlo, hhi, rfl, rfl, rfl, rfl⟩
      have hn4 := ldN_le x
      by_cases hkn : n ≤ k
      · have hnb : ¬ begOk b := fun h => by have := (hbg.1 h).1; omega
        (try (refine st ?_; intros))
        refine WQ.next (4 - (k + 1)) ⟨k + 1, rfl, rfl, rfl, rfl, rfl, ?_, ?_⟩ (by omega) (by (repeat (first | exact Env.Sub.nil | refine Env.Sub.cons rfl ?_))) (fun w h => Pick.sat (by iterate 60 (try (first | exact Pick.all | (apply Pick.take; (· (repeat (first | exact Out.here | apply Out.there)))) | apply Pick.drop))) h)
        · omega
        · rw [hbk, htn hnb]
      have hd1 : (b.drop 1).length = k - 1 := by simp; omega
      (refine st ?_; intros; rename_i y cy)
      refine WC.loopH [(58, .int .i64 ((0) : Int)), (57, .int .i64 ((b.drop 1).length : Int)), (56, .slice (some ⟨y, 0, none⟩) (b.drop 1).length cy), (7, .int .u8 ((lo) : Int)), (8, .int .u8 ((hi) : Int)), (6, .int .i64 (n : Int)), (5, str b), (4, .int .i64 (k : Int)), (0, str l)] ?_ ?_ (fun j r ds m' H' => ∃ i lo' hi', j = (b.drop 1).length - i ∧ r = [(58, .int .i64 (i : Int)), (57, .int .i64 ((b.drop 1).length : Int)), (56, .slice (some ⟨y, 0, none⟩) (b.drop 1).length cy), (7, .int .u8 (lo' : Int)), (8, .int .u8 (hi' : Int)), (6, .int .i64 (n : Int)), (5, str b), (4, .int .i64 (k : Int)), (0, str l)] ∧ ds = [] ∧ m = m' ∧ H' = .row (some ⟨y, 0, none⟩) cy 5 1 ((b.drop 1).map fun b => [Value.int .u8 (b.toNat : Int)]) :: H ∧ (i ≤ (b.drop 1).length) ∧ ((i = 0 → lo' = lo ∧ hi' = hi) ∧ (0 < i → lo' = 128 ∧ hi' = 191)) ∧ ((0 < i → loN x ≤ nb b 1 ∧ nb b 1 ≤ hiN x) ∧ (1 < i → 128 ≤ nb b 2 ∧ nb b 2 ≤ 191))) ((b.drop 1).length - (0)) ⟨0, lo, hi, rfl, rfl, rfl, rfl, rfl, by omega, by simp, by omega⟩ ?_
      · (repeat (first | exact Env.Sub.nil | refine Env.Sub.cons rfl ?_))
      · exact (fun w h => Pick.sat (by iterate 60 (try (first | exact Pick.all | (apply Pick.take; (· (repeat (first | exact Out.here | apply Out.there)))) | apply Pick.drop))) h)
      rintro j r ds m' H' ⟨i, lo', hi', rfl, rfl, rfl, rfl, rfl, hi1, hlh, hok⟩
      by_cases hlt : i < (b.drop 1).length
      · obtain ⟨u, hu, hget, htk, hmem, hdr⟩ := at_idx (f := fun b : UInt8 => [Value.int .u8 (b.toNat : Int)]) hlt
        have hub : u.toNat = nb b (i + 1) := by
          have : b[1 + i]? = some u := by rw [← hu, List.getElem?_drop]
          simp only [nb, gb, List.getD_eq_getElem?_getD]
          rw [show i + 1 = 1 + i by omega, this]; rfl
        generalize hv : u.toNat = v at *
        by_cases q1 : v < lo'
        · have hnb : ¬ begOk b := fun h => by
            have := (hbg.1 h).2
            rcases (show i = 0 ∨ i = 1 by omega) with rfl | rfl
            · have h1 := hlh.1 rfl; have h2 := this.1 (by omega); simp at hub; omega
            · have h1 := hlh.2 (by omega); have h2 := this.2 (by omega); simp at hub; omega
          (try (refine st ?_; intros))
          refine WQ.next (4 - (k + 1)) ⟨k + 1, rfl, rfl, rfl, rfl, rfl, ?_, ?_⟩ (by omega) (by (repeat (first | exact Env.Sub.nil | refine Env.Sub.cons rfl ?_))) (fun w h => Pick.sat (by iterate 60 (try (first | exact Pick.all | (apply Pick.take; (· (repeat (first | exact Out.here | apply Out.there)))) | apply Pick.drop))) h)
          · omega
          · rw [hbk, htn hnb]
        by_cases q2 : hi' < v
        · have hnb : ¬ begOk b := fun h => by
            have := (hbg.1 h).2
            rcases (show i = 0 ∨ i = 1 by omega) with rfl | rfl
            · have h1 := hlh.1 rfl; have h2 := this.1 (by omega); simp at hub; omega
            · have h1 := hlh.2 (by omega); have h2 := this.2 (by omega); simp at hub; omega
          (try (refine st ?_; intros))
          refine WQ.next (4 - (k + 1)) ⟨k + 1, rfl, rfl, rfl, rfl, rfl, ?_, ?_⟩ (by omega) (by (repeat (first | exact Env.Sub.nil | refine Env.Sub.cons rfl ?_))) (fun w h => Pick.sat (by iterate 60 (try (first | exact Pick.all | (apply Pick.take; (· (repeat (first | exact Out.here | apply Out.there)))) | apply Pick.drop))) h)
          · omega
          · rw [hbk, htn hnb]
        (try (refine st ?_; intros))
        refine WQ.next ((b.drop 1).length - (i + 1)) ⟨i + 1, 128, 191, rfl, rfl, rfl, rfl, rfl, ?_, ?_, ?_⟩ (by omega) (by (repeat (first | exact Env.Sub.nil | refine Env.Sub.cons rfl ?_))) (fun w h => Pick.sat (by iterate 60 (try (first | exact Pick.all | (apply Pick.take; (· (repeat (first | exact Out.here | apply Out.there)))) | apply Pick.drop))) h)
        · omega
        · omega
        · rcases (show i = 0 ∨ i = 1 by omega) with rfl | rfl
          · have h1 := hlh.1 rfl; simp at hub; omega
          · have h1 := hlh.2 (by omega); simp at hub; omega
      · have hb1 : begOk b := hbg.2 ⟨by omega, fun h => hok.1 (by omega), fun h => hok.2 (by omega)⟩
        have hlk : lackOf b = n - k := by unfold lackOf; rw [if_pos hb1, hbl, show nb b 0 = x from hx, hn]
        (try (refine st ?_; intros))
        (refine q_fin0 ?_)
        refine Gives.mk ?_
        rw [hbk, hty hb1, hlk, show ((n - k : Nat) : Int) = (n : Int) - (k : Int) by omega]
    · have he := begun_end (l := l) hk.1 (fun _ => by omega)
      (try (refine st ?_; intros))
      (refine q_fin0 ?_)
      exact Gives.mk (by rw [hbk, he]; rfl)
  · have he := begun_end (l := l) hk.1 (fun h => absurd h hk3)
    (try (refine st ?_; intros))
    (refine q_fin0 ?_)
    exact Gives.mk (by rw [hbk, he]; rfl)
end Go.Proofs.Ytdmdabjaboigcaa

