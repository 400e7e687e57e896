/-
  The walk of the law RunesCounts. No condition.
-/
import Derived.Test.YtdmdabjaboigcaaR14
namespace Go.Proofs.Ytdmdabjaboigcaa
open Go Go.Eng
set_option maxRecDepth 100000
set_option maxHeartbeats 4000000
set_option linter.all false
attribute [local irreducible] WL WC WQ QFun QLoop Does Q1 QRound QAssign Go.Addr.add
theorem ints_form {l : List Nat} {B : List (List Value)} (h : l.map iV = B) : ∃ xs : List Int, B = xs.map iI := ⟨l.map fun n : Nat => (n : Int), by rw [← h]; simp [Function.comp_def, iV, iI]⟩
theorem map_form {α : Type} {l : List α} {f : α → List Value} {B : List (List Value)} (h : l.map f = B) : ∃ xs : List α, B = xs.map f := ⟨l, h.symm⟩
section
variable {l : List UInt8} {B Q : List (List Value)} (hl : l.length ≤ 1048576) (hB : (brokenOf (pieces l)).map iV = B) (hQ : (partsOf (pieces l)).map Pt.cs = Q) (w0 : World) (m : Mem) (H : SHeap)
include hl hB
theorem broken_es : Does Try.prog 23 #[str l] w0 m H (MakesRow 3 1 B m H) := by subst hB; exact broken_any l (by omega) w0 m H
theorem refBroken_es : Does Try.prog 20 #[str l] w0 m H (MakesRow 3 1 B m H) := by subst hB; exact refBroken_any l (by omega) w0 m H
omit hB
include hQ
theorem parts_es : Does Try.prog 24 #[str l] w0 m H (MakesRow 44 3 Q m H) := by subst hQ; exact parts_any l (by omega) w0 m H
theorem refParts_es : Does Try.prog 27 #[str l] w0 m H (MakesRow 44 3 Q m H) := by subst hQ; exact refParts_any l (by omega) w0 m H
end
theorem sq_R15_1 {G : Prop} (h : G := by (repeat (first | (refine sp ?_; (repeat intro zzc)) | (refine iF 15 rfl ?_; refine w_callG Try.func15 ?_ (hs := wakes_any _ _ _)) | (refine iF 21 rfl ?_; refine w_callG Try.func21 ?_ (hs := count_any _ (by omega) _ _ _)) | (refine iF 22 rfl ?_; refine w_callG Try.func22 ?_ (hs := right_any _ (by omega) _ _ _)) | (refine iF 25 rfl ?_; refine w_callG Try.func25 ?_ (hs := ints_same (by omega) (by assumption) (RowR.row (by (repeat (first | exact List.Mem.head _ | apply List.Mem.tail)))) (RowR.row (by (repeat (first | exact List.Mem.head _ | apply List.Mem.tail)))))) | (refine iF 26 rfl ?_; refine w_callG Try.func26 ?_ (hs := parts_same (by omega) (by assumption) (RowR.row (by (repeat (first | exact List.Mem.head _ | apply List.Mem.tail)))) (RowR.row (by (repeat (first | exact List.Mem.head _ | apply List.Mem.tail)))))))); exact WQ.q1 rfl) : G := h
theorem st_R15_1 {G G' : Prop} (next : G') (h : Bx G' → G := by intro zzn; (first | ((refine st ?_; (repeat intro zzc)); (try ((first | (refine iF 15 rfl ?_; refine w_callG Try.func15 ?_ (hs := wakes_any _ _ _)) | (refine iF 21 rfl ?_; refine w_callG Try.func21 ?_ (hs := count_any _ (by omega) _ _ _)) | (refine iF 22 rfl ?_; refine w_callG Try.func22 ?_ (hs := right_any _ (by omega) _ _ _)) | (refine iF 25 rfl ?_; refine w_callG Try.func25 ?_ (hs := ints_same (by omega) (by assumption) (RowR.row (by (repeat (first | exact List.Mem.head _ | apply List.Mem.tail)))) (RowR.row (by (repeat (first | exact List.Mem.head _ | apply List.Mem.tail)))))) | (refine iF 26 rfl ?_; refine w_callG Try.func26 ?_ (hs := parts_same (by omega) (by assumption) (RowR.row (by (repeat (first | exact List.Mem.head _ | apply List.Mem.tail)))) (RowR.row (by (repeat (first | exact List.Mem.head _ | apply List.Mem.tail)))))) | (refine WC.drawAll rfl (by kernel_rfl) ?_; (repeat (refine WD.cons rfl (fun c h => by cases h) sq_R15_1 ?_)); refine WD.nil ?_)); (try (refine st ?_; (repeat intro zzc)))))) | ((first | (refine iF 15 rfl ?_; refine w_callG Try.func15 ?_ (hs := wakes_any _ _ _)) | (refine iF 21 rfl ?_; refine w_callG Try.func21 ?_ (hs := count_any _ (by omega) _ _ _)) | (refine iF 22 rfl ?_; refine w_callG Try.func22 ?_ (hs := right_any _ (by omega) _ _ _)) | (refine iF 25 rfl ?_; refine w_callG Try.func25 ?_ (hs := ints_same (by omega) (by assumption) (RowR.row (by (repeat (first | exact List.Mem.head _ | apply List.Mem.tail)))) (RowR.row (by (repeat (first | exact List.Mem.head _ | apply List.Mem.tail)))))) | (refine iF 26 rfl ?_; refine w_callG Try.func26 ?_ (hs := parts_same (by omega) (by assumption) (RowR.row (by (repeat (first | exact List.Mem.head _ | apply List.Mem.tail)))) (RowR.row (by (repeat (first | exact List.Mem.head _ | apply List.Mem.tail)))))) | (refine WC.drawAll rfl (by kernel_rfl) ?_; (repeat (refine WD.cons rfl (fun c h => by cases h) sq_R15_1 ?_)); refine WD.nil ?_)); (try (refine st ?_; (repeat intro zzc))))); (repeat ((first | (refine iF 15 rfl ?_; refine w_callG Try.func15 ?_ (hs := wakes_any _ _ _)) | (refine iF 21 rfl ?_; refine w_callG Try.func21 ?_ (hs := count_any _ (by omega) _ _ _)) | (refine iF 22 rfl ?_; refine w_callG Try.func22 ?_ (hs := right_any _ (by omega) _ _ _)) | (refine iF 25 rfl ?_; refine w_callG Try.func25 ?_ (hs := ints_same (by omega) (by assumption) (RowR.row (by (repeat (first | exact List.Mem.head _ | apply List.Mem.tail)))) (RowR.row (by (repeat (first | exact List.Mem.head _ | apply List.Mem.tail)))))) | (refine iF 26 rfl ?_; refine w_callG Try.func26 ?_ (hs := parts_same (by omega) (by assumption) (RowR.row (by (repeat (first | exact List.Mem.head _ | apply List.Mem.tail)))) (RowR.row (by (repeat (first | exact List.Mem.head _ | apply List.Mem.tail)))))) | (refine WC.drawAll rfl (by kernel_rfl) ?_; (repeat (refine WD.cons rfl (fun c h => by cases h) sq_R15_1 ?_)); refine WD.nil ?_)); (try (refine st ?_; (repeat intro zzc))))); (repeat revert zzc); exact zzn.out) : G := h ⟨next⟩
theorem runesCounts_any (l : List UInt8) (hl : l.length ≤ 1048576) (w0 : World) (m : Mem) (H : SHeap) :
    Does Try.prog 4 #[str l] w0 m H (fun v m' _ => v = .bool true ∧ m.le m') := by
  refine Does.of_body (args := [str l]) Try.func4 rfl Try.ntmps4 rfl ?_
  obtain ⟨B, hB⟩ : ∃ B, (brokenOf (pieces l)).map iV = B := ⟨_, rfl⟩
  obtain ⟨Q, hQ⟩ : ∃ Q, (partsOf (pieces l)).map Pt.cs = Q := ⟨_, rfl⟩
  have hBf := ints_form hB
  have hQf := map_form hQ
  have hpl := pieces_length l
  have hpm : ((pieces l).map Pc.cs).length = (pieces l).length := by simp
  have hbm : B.length = (brokenOf (pieces l)).length := by simp [← hB]
  have hbl := brokenOf_length (pieces l)
  have hql := partsOf_length (pieces l)
  have hqm : Q.length = (partsOf (pieces l)).length := by simp [← hQ]
  have hnb : nBroken (pieces l) = (brokenOf (pieces l)).length := by simp [nBroken, brokenOf]
  have hbb : (dcd ((nBroken (pieces l) : Int) = 0) != dcd ((nBroken (pieces l) : Int) = 0)) = false := by simp
  (try (refine st_R15_1 ?_; intros))
  refine w_callF Try.func20 ?_ (hs := refBroken_es hl hB _ _ _)
  rintro _ m _ ⟨a0, cap0, rfl, rfl, rfl⟩
  (try (refine st_R15_1 ?_; intros))
  refine w_callF Try.func19 ?_ (hs := refPieces_any _ (by omega) _ _ _)
  rintro _ m _ ⟨a1, cap1, rfl, rfl, rfl⟩
  (try (refine st_R15_1 ?_; intros))
  refine w_callF Try.func23 ?_ (hs := broken_es hl hB _ _ _)
  rintro _ m _ ⟨a6, cap6, rfl, rfl, rfl⟩
  (try (refine st_R15_1 ?_; intros))
  refine w_callF Try.func23 ?_ (hs := broken_es hl hB _ _ _)
  rintro _ m _ ⟨a7, cap7, rfl, rfl, rfl⟩
  (try (refine st_R15_1 ?_; intros))
  refine w_callF Try.func24 ?_ (hs := parts_es hl hQ _ _ _)
  rintro _ m _ ⟨a8, cap8, rfl, rfl, rfl⟩
  (try (refine st_R15_1 ?_; intros))
  refine w_callF Try.func24 ?_ (hs := parts_es hl hQ _ _ _)
  rintro _ m _ ⟨a9, cap9, rfl, rfl, rfl⟩
  (try (refine st_R15_1 ?_; intros))
  refine w_callF Try.func27 ?_ (hs := refParts_es hl hQ _ _ _)
  rintro _ m _ ⟨a10, cap10, rfl, rfl, rfl⟩
  (try (refine st_R15_1 ?_; intros))
  refine WC.loopH [(61, .int .i64 ((0) : Int)), (60, .int .i64 (B.length : Int)), (6, .slice a6 B.length cap6), (0, str l), (3, .slice a0 B.length cap0), (7, .slice a7 B.length cap7), (8, .slice a8 Q.length cap8), (9, .slice a9 Q.length cap9)] ?_ ?_ (fun j r ds m' H' => ∃ i es, j = B.length - i ∧ r = [(61, .int .i64 (i : Int)), (60, .int .i64 (B.length : Int)), (6, .slice a6 B.length cap6), (0, str l), (3, .slice a0 B.length cap0), (7, .slice a7 B.length cap7), (8, .slice a8 Q.length cap8), (9, .slice a9 Q.length cap9)] ∧ ds = [] ∧ m = m' ∧ H' = .row a10 cap10 44 3 Q :: .row a9 cap9 44 3 Q :: .row a8 cap8 44 3 Q :: .row a7 cap7 3 1 B :: .row a6 cap6 3 1 es :: .row a1 cap1 24 4 ((pieces l).map Pc.cs) :: .row a0 cap0 3 1 B :: H ∧ (i ≤ B.length) ∧ (es.length = B.length)) (B.length - (0)) ⟨0, B, rfl, rfl, rfl, rfl, rfl, by omega, rfl⟩ ?_
  · (repeat (first | exact Env.Sub.nil | refine Env.Sub.cons rfl ?_))
  · exact (fun w h => Pick.sat (by repeat (first | exact Pick.all | (apply Pick.take; (· (repeat (first | exact Out.here | apply Out.there)))) | apply Pick.drop)) h)
  rintro j r ds m' H' ⟨i, es, rfl, rfl, rfl, rfl, rfl, hi, hes⟩
  by_cases hlt : i < B.length
  · refine WC.rowSome (a := a6) (by (repeat (first | exact List.Mem.head _ | apply List.Mem.tail))) (by omega) ?_
    rintro a60 rfl
    (try (refine st_R15_1 ?_; intros))
    refine WQ.next (B.length - (i + 1)) ⟨i + 1, _, rfl, rfl, rfl, rfl, rfl, ?_, ?_⟩ (by omega) (by (repeat (first | exact Env.Sub.nil | refine Env.Sub.cons rfl ?_))) (fun w h => Pick.sat (by repeat (first | exact Pick.all | (apply Pick.take; (· (repeat (first | exact Out.here | apply Out.there)))) | apply Pick.drop)) h)
    · omega
    · simp [hes]
  · (try (refine st_R15_1 ?_; intros))
    refine WC.loopH [(70, .int .i64 ((0) : Int)), (69, .int .i64 (Q.length : Int)), (6, .slice a6 B.length cap6), (0, str l), (3, .slice a0 B.length cap0), (7, .slice a7 B.length cap7), (8, .slice a8 Q.length cap8), (9, .slice a9 Q.length cap9)] ?_ ?_ (fun j r ds m' H' => ∃ i2 es2, j = Q.length - i2 ∧ r = [(70, .int .i64 (i2 : Int)), (69, .int .i64 (Q.length : Int)), (6, .slice a6 B.length cap6), (0, str l), (3, .slice a0 B.length cap0), (7, .slice a7 B.length cap7), (8, .slice a8 Q.length cap8), (9, .slice a9 Q.length cap9)] ∧ ds = [] ∧ m = m' ∧ H' = .row a9 cap9 44 3 Q :: .row a8 cap8 44 3 es2 :: .row a7 cap7 3 1 B :: .row a6 cap6 3 1 es :: .row a0 cap0 3 1 B :: H ∧ (i2 ≤ Q.length) ∧ (es2.length = Q.length)) (Q.length - (0)) ⟨0, Q, rfl, rfl, rfl, rfl, rfl, by omega, rfl⟩ ?_
    · (repeat (first | exact Env.Sub.nil | refine Env.Sub.cons rfl ?_))
    · exact (fun w h => Pick.sat (by repeat (first | exact Pick.all | (apply Pick.take; (· (repeat (first | exact Out.here | apply Out.there)))) | apply Pick.drop)) h)
    rintro j r ds m' H' ⟨i2, es2, rfl, rfl, rfl, rfl, rfl, hi2, hes2⟩
    by_cases hlt2 : i2 < Q.length
    · refine WC.rowSome (a := a8) (by (repeat (first | exact List.Mem.head _ | apply List.Mem.tail))) (by omega) ?_
      rintro a80 rfl
      (try (refine st_R15_1 ?_; intros))
      refine WQ.next (Q.length - (i2 + 1)) ⟨i2 + 1, _, rfl, rfl, rfl, rfl, rfl, ?_, ?_⟩ (by omega) (by (repeat (first | exact Env.Sub.nil | refine Env.Sub.cons rfl ?_))) (fun w h => Pick.sat (by repeat (first | exact Pick.all | (apply Pick.take; (· (repeat (first | exact Out.here | apply Out.there)))) | apply Pick.drop)) h)
      · omega
      · simp [hes2]
    · (try (refine st_R15_1 ?_; intros))
      refine WC.loopH [(12, .int .i64 ((0) : Int)), (6, .slice (a6) (B.length) (cap6)), (0, str l), (3, .slice a0 B.length cap0), (7, .slice a7 B.length cap7), (8, .slice (a8) (Q.length) (cap8)), (9, .slice a9 Q.length cap9)] ?_ ?_ (fun j r ds m' H' => ∃ k a61 cap61 n6 es6 a81 cap81 n8 es8, j = 70 - k ∧ r = [(12, .int .i64 (k : Int)), (6, .slice a61 n6 cap61), (0, str l), (3, .slice a0 B.length cap0), (7, .slice a7 B.length cap7), (8, .slice a81 n8 cap81), (9, .slice a9 Q.length cap9)] ∧ ds = [] ∧ m = m' ∧ H' = .row a9 cap9 44 3 Q :: .row a81 cap81 44 3 es8 :: .row a7 cap7 3 1 B :: .row a61 cap61 3 1 es6 :: .row a0 cap0 3 1 B :: H ∧ (k ≤ 70) ∧ (n6 = es6.length) ∧ (n8 = es8.length) ∧ (es6.length = B.length + k) ∧ (es8.length = Q.length + k)) (70 - (0)) ⟨0, a6, cap6, B.length, es, a8, cap8, Q.length, es2, rfl, rfl, rfl, rfl, rfl, by omega, by omega, by omega, by omega, by omega⟩ ?_
      · (repeat (first | exact Env.Sub.nil | refine Env.Sub.cons rfl ?_))
      · exact (fun w h => Pick.sat (by repeat (first | exact Pick.all | (apply Pick.take; (· (repeat (first | exact Out.here | apply Out.there)))) | apply Pick.drop)) h)
      rintro j r ds m' H' ⟨k, a61, cap61, n6, es6, a81, cap81, n8, es8, rfl, rfl, rfl, rfl, rfl, hk, h6, h8, h6k, h8k⟩
      subst h6 h8
      by_cases hlt3 : k < 70
      · (refine st_R15_1 ?_; intros; rename_i b1 a62 cap62 b2 a82 cap82)
        refine WQ.next (70 - (k + 1)) ⟨k + 1, a62, cap62, _, _, a82, cap82, _, _, rfl, rfl, rfl, rfl, rfl, ?_, ?_, ?_, ?_, ?_⟩ (by omega) (by (repeat (first | exact Env.Sub.nil | refine Env.Sub.cons rfl ?_))) (fun w h => Pick.sat (by repeat (first | exact Pick.all | (apply Pick.take; (· (repeat (first | exact Out.here | apply Out.there)))) | apply Pick.drop)) h)
        · omega
        · simp
        · simp
        · simp; omega
        · simp; omega
      · (try (refine st_R15_1 ?_; intros))
        refine w_callF Try.func27 ?_ (hs := refParts_es hl hQ _ _ _)
        rintro _ m _ ⟨a11, cap11, rfl, rfl, rfl⟩
        (try (refine st_R15_1 ?_; intros))
        refine w_callF Try.func23 ?_ (hs := broken_es hl hB _ _ _)
        rintro _ m _ ⟨a12, cap12, rfl, rfl, rfl⟩
        (try (refine st_R15_1 ?_; intros))
        refine w_callF Try.func24 ?_ (hs := parts_es hl hQ _ _ _)
        rintro _ m _ ⟨a13, cap13, rfl, rfl, rfl⟩
        (try (refine st_R15_1 ?_; intros))
        (refine q_fin0 ?_)
        exact ⟨rfl, Mem.le.refl _⟩
end Go.Proofs.Ytdmdabjaboigcaa
