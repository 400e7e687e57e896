/-
  The walks of package runes, seventh part: how many pieces a text has; whether this law wakes. No condition.
-/
import Derived.Test.YtdmdabjaboigcaaR6
namespace Go.Proofs.Ytdmdabjaboigcaa
open Go Go.Eng
set_option maxRecDepth 100000
set_option maxHeartbeats 4000000
set_option linter.all false
attribute [local irreducible] WL WC WQ QFun QLoop Does Q1 QRound QAssign Go.Addr.add
def nBroken (ps : List Pc) : Nat := (ps.filter fun p => p.b).length
theorem count_any (l : List UInt8) (hl : l.length ≤ 5000000000000) (w0 : World) (m : Mem) (H : SHeap) :
    Does Try.prog 21 #[str l] w0 m H (Gives (.tuple #[.int .i64 ((pieces l).length : Int), .int .i64 (nBroken (pieces l) : Int)]) m H) := by
  refine Does.of_body (args := [str l]) Try.func21 rfl Try.ntmps21 rfl ?_
  (try (refine st ?_; intros))
  refine w_callF Try.func38 ?_ (hs := pieces_any _ _ _ _)
  rintro _ m0 H0 ⟨b, rfl, rfl, rfl⟩
  (refine st ?_; intros; rename_i b4 bk)
  refine WC.persist (by (repeat (first | exact Out.here | apply Out.there))) ?_
  intro mp hle hb
  have hsnoc : ∀ (pre : List Pc) (x : Pc), nBroken (pre ++ [x]) = nBroken pre + (if x.b then 1 else 0) := fun pre x => by
    unfold nBroken; rw [List.filter_append, List.length_append]; cases hx : x.b <;> simp [hx]
  have hle2 : ∀ pre : List Pc, nBroken pre ≤ pre.length := fun pre => List.length_filter_le _ _
  have hpl := pieces_length l
  apply WC.rangeFunc (encs := fun p : Pc => [p.v]) (xs := pieces l) (Cap := TextAt b l) (lb := [.pointer (some ⟨b, 0, none⟩)]) (ps := [9])
    (J := fun pre m' Hl => Hl = [.blk bk (.cells [.int .i64 (nBroken pre : Int)].toArray 3 (0, 0)), .blk b4 (.cells [.int .i64 (pre.length : Int)].toArray 3 (0, 0))]) (Jx := fun _ _ _ _ => False)
  · exact rfl
  · exact Try.func74
  · exact rfl
  · exact rfl
  · exact pieces_seq l (by omega) b
  · exact hb
  · exact fun _ => rfl
  · exact rfl
  · exact .cons (.cons .nil)
  · exact rfl
  · intro lp pre x post hxs m1 Hl hJ hm1 Hfr hfr
    subst hJ
    have hpre : pre.length ≤ (pieces l).length := by rw [hxs]; simp
    have hle3 := hle2 pre
    have hsn := hsnoc pre x
    (try (refine st ?_; intros))
    refine WQ.assigned (.cons (.cons (.cons .nil))) (Mem.le.refl _) ?_
    intro Hfr2
    cases hx : x.b with
    | true =>
      rw [hx] at hsn
      (try (refine st ?_; intros))
      exact WQ.roundOn (Hl := [_, _]) (fun w h => h.drop) (Mem.le.refl _) (by rw [hsn, List.length_append]; rfl)
    | false =>
      rw [hx] at hsn
      (try (refine st ?_; intros))
      exact WQ.roundOn (Hl := [_, _]) (fun w h => h.drop) (Mem.le.refl _) (by rw [hsn, List.length_append]; rfl)
  · intro D m' Hl hJ hm1
    subst hJ
    (try (refine st ?_; intros))
    refine WQ.mark List.perm_middle ?_
    (refine q_fin1 (hle.trans hm1) ?_)
    exact Gives.mk rfl
  · intro D c pre m' Hl _ h _
    exact h.elim
theorem eq_piece (a b c a' b' c' : Int) (d d' : Bool) : eqB Try.prog 8 24 (.agg #[.int .i64 a, .int .i64 b, .int .i32 c, .bool d]) (.agg #[.int .i64 a', .int .i64 b', .int .i32 c', .bool d']) = some (dcd (a = a' ∧ b = b' ∧ c = c' ∧ d = d')) := by
  have h : eqB Try.prog 8 24 (.agg #[.int .i64 a, .int .i64 b, .int .i32 c, .bool d]) (.agg #[.int .i64 a', .int .i64 b', .int .i32 c', .bool d']) = some (a == a' && (b == b' && (c == c' && (d == d' && true)))) := by kernel_rfl
  rw [h]
  by_cases hp : a = a' ∧ b = b' ∧ c = c' ∧ d = d'
  · rw [dcd_true hp]; obtain ⟨rfl, rfl, rfl, rfl⟩ := hp; simp
  · rw [dcd_false hp]
    simp only [Bool.and_true, Option.some.injEq, Bool.and_eq_false_iff, beq_eq_false_iff_ne]
    by_cases h1 : a = a' <;> by_cases h2 : b = b' <;> by_cases h3 : c = c' <;> by_cases h4 : d = d' <;> simp_all
theorem sq_R7_1 {G : Prop} (h : G := by (repeat (first | (refine sp ?_; (repeat intro zzc)) | (refine iB_eql rfl ?_; refine w_eqlV ?_ (he := eq_piece _ _ _ _ _ _ _ _)) | (refine iB_neq rfl ?_; refine w_neqV ?_ (he := eq_piece _ _ _ _ _ _ _ _)) | (refine iF 21 rfl ?_; refine w_callG Try.func21 ?_ (hs := count_any _ (by decide) _ _ _)) | (refine iF 16 rfl ?_; refine w_callG Try.func16 ?_ (hs := at_in _ _ (by decide) (by decide) _ _ _)))); exact WQ.q1 rfl) : G := h
theorem st_R7_1 {G G' : Prop} (next : G') (h : Bx G' → G := by intro zzn; (first | ((refine st ?_; (repeat intro zzc)); (try ((first | (refine iB_eql rfl ?_; refine w_eqlV ?_ (he := eq_piece _ _ _ _ _ _ _ _)) | (refine iB_neq rfl ?_; refine w_neqV ?_ (he := eq_piece _ _ _ _ _ _ _ _)) | (refine iF 21 rfl ?_; refine w_callG Try.func21 ?_ (hs := count_any _ (by decide) _ _ _)) | (refine iF 16 rfl ?_; refine w_callG Try.func16 ?_ (hs := at_in _ _ (by decide) (by decide) _ _ _)) | ((refine iDraw ?_; (first | refine WC.drawAll rfl (by decide +kernel) ?_ | refine WC.draw 1 rfl (by decide +kernel) ?_ | refine WC.draw 2 rfl (by decide +kernel) ?_ | refine WC.draw 3 rfl (by decide +kernel) ?_ | refine WC.draw 4 rfl (by decide +kernel) ?_ | refine WC.draw 5 rfl (by decide +kernel) ?_ | refine WC.draw 6 rfl (by decide +kernel) ?_ | refine WC.draw 7 rfl (by decide +kernel) ?_ | refine WC.draw 8 rfl (by decide +kernel) ?_ | refine WC.draw 9 rfl (by decide +kernel) ?_ | refine WC.draw 10 rfl (by decide +kernel) ?_ | refine WC.draw 11 rfl (by decide +kernel) ?_ | refine WC.draw 12 rfl (by decide +kernel) ?_ | refine WC.draw 13 rfl (by decide +kernel) ?_ | refine WC.draw 14 rfl (by decide +kernel) ?_ | refine WC.draw 15 rfl (by decide +kernel) ?_ | refine WC.draw 16 rfl (by decide +kernel) ?_ | refine WC.draw 17 rfl (by decide +kernel) ?_ | refine WC.draw 18 rfl (by decide +kernel) ?_ | refine WC.draw 19 rfl (by decide +kernel) ?_ | refine WC.draw 20 rfl (by decide +kernel) ?_ | refine WC.draw 21 rfl (by decide +kernel) ?_ | refine WC.draw 22 rfl (by decide +kernel) ?_ | refine WC.draw 23 rfl (by decide +kernel) ?_ | refine WC.draw 24 rfl (by decide +kernel) ?_)); (repeat (refine WD.cons rfl (fun c h => by cases h) sq_R7_1 ?_)); refine WD.nil ?_)); (try (refine st ?_; (repeat intro zzc)))))) | ((first | (refine iB_eql rfl ?_; refine w_eqlV ?_ (he := eq_piece _ _ _ _ _ _ _ _)) | (refine iB_neq rfl ?_; refine w_neqV ?_ (he := eq_piece _ _ _ _ _ _ _ _)) | (refine iF 21 rfl ?_; refine w_callG Try.func21 ?_ (hs := count_any _ (by decide) _ _ _)) | (refine iF 16 rfl ?_; refine w_callG Try.func16 ?_ (hs := at_in _ _ (by decide) (by decide) _ _ _)) | ((refine iDraw ?_; (first | refine WC.drawAll rfl (by decide +kernel) ?_ | refine WC.draw 1 rfl (by decide +kernel) ?_ | refine WC.draw 2 rfl (by decide +kernel) ?_ | refine WC.draw 3 rfl (by decide +kernel) ?_ | refine WC.draw 4 rfl (by decide +kernel) ?_ | refine WC.draw 5 rfl (by decide +kernel) ?_ | refine WC.draw 6 rfl (by decide +kernel) ?_ | refine WC.draw 7 rfl (by decide +kernel) ?_ | refine WC.draw 8 rfl (by decide +kernel) ?_ | refine WC.draw 9 rfl (by decide +kernel) ?_ | refine WC.draw 10 rfl (by decide +kernel) ?_ | refine WC.draw 11 rfl (by decide +kernel) ?_ | refine WC.draw 12 rfl (by decide +kernel) ?_ | refine WC.draw 13 rfl (by decide +kernel) ?_ | refine WC.draw 14 rfl (by decide +kernel) ?_ | refine WC.draw 15 rfl (by decide +kernel) ?_ | refine WC.draw 16 rfl (by decide +kernel) ?_ | refine WC.draw 17 rfl (by decide +kernel) ?_ | refine WC.draw 18 rfl (by decide +kernel) ?_ | refine WC.draw 19 rfl (by decide +kernel) ?_ | refine WC.draw 20 rfl (by decide +kernel) ?_ | refine WC.draw 21 rfl (by decide +kernel) ?_ | refine WC.draw 22 rfl (by decide +kernel) ?_ | refine WC.draw 23 rfl (by decide +kernel) ?_ | refine WC.draw 24 rfl (by decide +kernel) ?_)); (repeat (refine WD.cons rfl (fun c h => by cases h) sq_R7_1 ?_)); refine WD.nil ?_)); (try (refine st ?_; (repeat intro zzc))))); (repeat ((first | (refine iB_eql rfl ?_; refine w_eqlV ?_ (he := eq_piece _ _ _ _ _ _ _ _)) | (refine iB_neq rfl ?_; refine w_neqV ?_ (he := eq_piece _ _ _ _ _ _ _ _)) | (refine iF 21 rfl ?_; refine w_callG Try.func21 ?_ (hs := count_any _ (by decide) _ _ _)) | (refine iF 16 rfl ?_; refine w_callG Try.func16 ?_ (hs := at_in _ _ (by decide) (by decide) _ _ _)) | ((refine iDraw ?_; (first | refine WC.drawAll rfl (by decide +kernel) ?_ | refine WC.draw 1 rfl (by decide +kernel) ?_ | refine WC.draw 2 rfl (by decide +kernel) ?_ | refine WC.draw 3 rfl (by decide +kernel) ?_ | refine WC.draw 4 rfl (by decide +kernel) ?_ | refine WC.draw 5 rfl (by decide +kernel) ?_ | refine WC.draw 6 rfl (by decide +kernel) ?_ | refine WC.draw 7 rfl (by decide +kernel) ?_ | refine WC.draw 8 rfl (by decide +kernel) ?_ | refine WC.draw 9 rfl (by decide +kernel) ?_ | refine WC.draw 10 rfl (by decide +kernel) ?_ | refine WC.draw 11 rfl (by decide +kernel) ?_ | refine WC.draw 12 rfl (by decide +kernel) ?_ | refine WC.draw 13 rfl (by decide +kernel) ?_ | refine WC.draw 14 rfl (by decide +kernel) ?_ | refine WC.draw 15 rfl (by decide +kernel) ?_ | refine WC.draw 16 rfl (by decide +kernel) ?_ | refine WC.draw 17 rfl (by decide +kernel) ?_ | refine WC.draw 18 rfl (by decide +kernel) ?_ | refine WC.draw 19 rfl (by decide +kernel) ?_ | refine WC.draw 20 rfl (by decide +kernel) ?_ | refine WC.draw 21 rfl (by decide +kernel) ?_ | refine WC.draw 22 rfl (by decide +kernel) ?_ | refine WC.draw 23 rfl (by decide +kernel) ?_ | refine WC.draw 24 rfl (by decide +kernel) ?_)); (repeat (refine WD.cons rfl (fun c h => by cases h) sq_R7_1 ?_)); refine WD.nil ?_)); (try (refine st ?_; (repeat intro zzc))))); (repeat revert zzc); exact zzn.out) : G := h ⟨next⟩
theorem wakes_any (w0 : World) (m : Mem) (H : SHeap) : Does Try.prog 15 #[] w0 m H (Gives (.bool true) m H) := by
  refine Does.of_body (args := []) Try.func15 rfl Try.ntmps15 rfl ?_
  have e1 : (pieces [97, 195, 169, 255]).length = 3 := by decide
  have e2 : nBroken (pieces [97, 195, 169, 255]) = 1 := by decide
  have e3 : readP [195, 169] 0 = ⟨0, 2, 233, false⟩ := by decide
  (try (refine st_R7_1 ?_; intros))
  (refine q_fin0 ?_)
  rw [dcd_true (by rw [e3]; simp)]
  exact Gives.mk rfl
end Go.Proofs.Ytdmdabjaboigcaa
