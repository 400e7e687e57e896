/-
  The walks of package runes and of its reference, sixth part: the reference's pieces; how many pieces a text has. No condition.
-/
import Derived.Test.YtdmdabjaboigcaaR5
namespace Go.Proofs.Ytdmdabjaboigcaa
open Go Go.Eng
set_option maxRecDepth 100000
set_option maxHeartbeats 4000000
set_option linter.all false
attribute [local irreducible] WL WC WQ QFun QLoop Does Q1 QRound QAssign Go.Addr.add
theorem sq_R6_1 {G : Prop} (h : G := by (repeat (first | (refine sp ?_; (repeat intro zzc)) | (refine iF 17 rfl ?_; refine w_callG Try.func17 ?_ (hs := refAt_any _ _ (by omega) (by omega) _ _ _)))); exact WQ.q1 rfl) : G := h
theorem st_R6_1 {G G' : Prop} (next : G') (h : Bx G' → G := by intro zzn; (first | ((refine st ?_; (repeat intro zzc)); (try ((first | (refine iF 17 rfl ?_; refine w_callG Try.func17 ?_ (hs := refAt_any _ _ (by omega) (by omega) _ _ _)) | ((refine iDraw ?_; (first | refine WC.drawAll rfl (by decide +kernel) ?_ | refine WC.draw 1 rfl (by decide +kernel) ?_ | refine WC.draw 2 rfl (by decide +kernel) ?_ | refine WC.draw 3 rfl (by decide +kernel) ?_ | refine WC.draw 4 rfl (by decide +kernel) ?_ | refine WC.draw 5 rfl (by decide +kernel) ?_ | refine WC.draw 6 rfl (by decide +kernel) ?_ | refine WC.draw 7 rfl (by decide +kernel) ?_ | refine WC.draw 8 rfl (by decide +kernel) ?_ | refine WC.draw 9 rfl (by decide +kernel) ?_ | refine WC.draw 10 rfl (by decide +kernel) ?_ | refine WC.draw 11 rfl (by decide +kernel) ?_ | refine WC.draw 12 rfl (by decide +kernel) ?_ | refine WC.draw 13 rfl (by decide +kernel) ?_ | refine WC.draw 14 rfl (by decide +kernel) ?_ | refine WC.draw 15 rfl (by decide +kernel) ?_ | refine WC.draw 16 rfl (by decide +kernel) ?_ | refine WC.draw 17 rfl (by decide +kernel) ?_ | refine WC.draw 18 rfl (by decide +kernel) ?_ | refine WC.draw 19 rfl (by decide +kernel) ?_ | refine WC.draw 20 rfl (by decide +kernel) ?_ | refine WC.draw 21 rfl (by decide +kernel) ?_ | refine WC.draw 22 rfl (by decide +kernel) ?_ | refine WC.draw 23 rfl (by decide +kernel) ?_ | refine WC.draw 24 rfl (by decide +kernel) ?_)); (repeat (refine WD.cons rfl (fun c h => by cases h) sq_R6_1 ?_)); refine WD.nil ?_)); (try (refine st ?_; (repeat intro zzc)))))) | ((first | (refine iF 17 rfl ?_; refine w_callG Try.func17 ?_ (hs := refAt_any _ _ (by omega) (by omega) _ _ _)) | ((refine iDraw ?_; (first | refine WC.drawAll rfl (by decide +kernel) ?_ | refine WC.draw 1 rfl (by decide +kernel) ?_ | refine WC.draw 2 rfl (by decide +kernel) ?_ | refine WC.draw 3 rfl (by decide +kernel) ?_ | refine WC.draw 4 rfl (by decide +kernel) ?_ | refine WC.draw 5 rfl (by decide +kernel) ?_ | refine WC.draw 6 rfl (by decide +kernel) ?_ | refine WC.draw 7 rfl (by decide +kernel) ?_ | refine WC.draw 8 rfl (by decide +kernel) ?_ | refine WC.draw 9 rfl (by decide +kernel) ?_ | refine WC.draw 10 rfl (by decide +kernel) ?_ | refine WC.draw 11 rfl (by decide +kernel) ?_ | refine WC.draw 12 rfl (by decide +kernel) ?_ | refine WC.draw 13 rfl (by decide +kernel) ?_ | refine WC.draw 14 rfl (by decide +kernel) ?_ | refine WC.draw 15 rfl (by decide +kernel) ?_ | refine WC.draw 16 rfl (by decide +kernel) ?_ | refine WC.draw 17 rfl (by decide +kernel) ?_ | refine WC.draw 18 rfl (by decide +kernel) ?_ | refine WC.draw 19 rfl (by decide +kernel) ?_ | refine WC.draw 20 rfl (by decide +kernel) ?_ | refine WC.draw 21 rfl (by decide +kernel) ?_ | refine WC.draw 22 rfl (by decide +kernel) ?_ | refine WC.draw 23 rfl (by decide +kernel) ?_ | refine WC.draw 24 rfl (by decide +kernel) ?_)); (repeat (refine WD.cons rfl (fun c h => by cases h) sq_R6_1 ?_)); refine WD.nil ?_)); (try (refine st ?_; (repeat intro zzc))))); (repeat ((first | (refine iF 17 rfl ?_; refine w_callG Try.func17 ?_ (hs := refAt_any _ _ (by omega) (by omega) _ _ _)) | ((refine iDraw ?_; (first | refine WC.drawAll rfl (by decide +kernel) ?_ | refine WC.draw 1 rfl (by decide +kernel) ?_ | refine WC.draw 2 rfl (by decide +kernel) ?_ | refine WC.draw 3 rfl (by decide +kernel) ?_ | refine WC.draw 4 rfl (by decide +kernel) ?_ | refine WC.draw 5 rfl (by decide +kernel) ?_ | refine WC.draw 6 rfl (by decide +kernel) ?_ | refine WC.draw 7 rfl (by decide +kernel) ?_ | refine WC.draw 8 rfl (by decide +kernel) ?_ | refine WC.draw 9 rfl (by decide +kernel) ?_ | refine WC.draw 10 rfl (by decide +kernel) ?_ | refine WC.draw 11 rfl (by decide +kernel) ?_ | refine WC.draw 12 rfl (by decide +kernel) ?_ | refine WC.draw 13 rfl (by decide +kernel) ?_ | refine WC.draw 14 rfl (by decide +kernel) ?_ | refine WC.draw 15 rfl (by decide +kernel) ?_ | refine WC.draw 16 rfl (by decide +kernel) ?_ | refine WC.draw 17 rfl (by decide +kernel) ?_ | refine WC.draw 18 rfl (by decide +kernel) ?_ | refine WC.draw 19 rfl (by decide +kernel) ?_ | refine WC.draw 20 rfl (by decide +kernel) ?_ | refine WC.draw 21 rfl (by decide +kernel) ?_ | refine WC.draw 22 rfl (by decide +kernel) ?_ | refine WC.draw 23 rfl (by decide +kernel) ?_ | refine WC.draw 24 rfl (by decide +kernel) ?_)); (repeat (refine WD.cons rfl (fun c h => by cases h) sq_R6_1 ?_)); refine WD.nil ?_)); (try (refine st ?_; (repeat intro zzc))))); (repeat revert zzc); exact zzn.out) : G := h ⟨next⟩
theorem from_length (l : List UInt8) : ∀ d k, l.length - k ≤ d → (from_ l k).length ≤ l.length - k
  | 0, k, h => by rw [from_nil (by omega)]; simp
  | d + 1, k, h => by
    by_cases hk : k < l.length
    · have hw := readP_w hk
      rw [from_cons hk, List.length_cons]
      have := from_length l d (k + (readP l k).w) (by omega)
      omega
    · rw [from_nil hk]; simp
theorem pieces_length (l : List UInt8) : (pieces l).length ≤ l.length := from_length l l.length 0 (by omega)
theorem refPieces_any (l : List UInt8) (hl : l.length ≤ 5000000000000) (w0 : World) (m : Mem) (H : SHeap) :
    Does Try.prog 19 #[str l] w0 m H (MakesRow 24 4 ((pieces l).map Pc.cs) m H) := by
  refine Does.of_body (args := [str l]) Try.func19 rfl Try.ntmps19 rfl ?_
  have hpl := pieces_length l
  (try (refine st_R6_1 ?_; intros))
  refine WC.newRow (T := 24) (sz := 4) ?_
  refine WC.loopW [(4, .int .i64 0), (0, str l), (3, .slice none 0 0)] ?_ (fun j r ds m' H' => ∃ k a cap pre, j = l.length - k ∧ r = [(4, .int .i64 (k : Int)), (0, str l), (3, .slice a pre.length cap)] ∧ ds = [] ∧ m' = m ∧ H' = .row a cap 24 4 (pre.map Pc.cs) :: H ∧ pieces l = pre ++ from_ l k ∧ k ≤ l.length) l.length
    ⟨0, none, 0, [], rfl, rfl, rfl, rfl, rfl, rfl, by omega⟩ ?_
  · (repeat (first | exact Env.Sub.nil | refine Env.Sub.cons rfl ?_))
  rintro j r ds m' H' ⟨k, a, cap, pre, rfl, rfl, rfl, rfl, rfl, hp, hk⟩
  have hpre : pre.length ≤ l.length := by have := congrArg List.length hp; simp at this; omega
  (try (refine st_R6_1 ?_; intros))
  (first | refine c_ways (fun h1 => ?_) (fun h1 => ?_) | refine c_nways (fun h1 => ?_) (fun h1 => ?_) | refine w_gways (fun h1 => ?_) (fun h1 => ?_) | refine w_gnways (fun h1 => ?_) (fun h1 => ?_))
  · have hw := readP_w (l := l) (k := k) (by omega)
    (refine st_R6_1 ?_; intros; rename_i ak ck)
    refine WQ.next (l.length - (k + (readP l k).w)) ⟨k + (readP l k).w, ak, ck, pre ++ [readP l k], rfl, rfl, rfl, rfl, rfl, by rw [hp, from_cons (by omega)]; simp, by omega⟩ (by omega) ?_ ?_
    · rw [show (pre ++ [readP l k]).length = (List.map Pc.cs pre).length + 1 by simp]
      (repeat (first | exact Env.Sub.nil | refine Env.Sub.cons rfl ?_))
    · rw [List.map_append]
      exact (fun w h => h.sublist (by repeat (first | exact List.Sublist.refl _ | apply List.Sublist.cons_cons | apply List.Sublist.cons)))
  · have hpe : pieces l = pre := by rw [hp, from_nil (by omega), List.append_nil]
    (try (refine st_R6_1 ?_; intros))
    (refine q_fin ?_)
    rw [hpe]
    exact ⟨a, cap, by rw [List.length_map], rfl, rfl⟩
end Go.Proofs.Ytdmdabjaboigcaa
