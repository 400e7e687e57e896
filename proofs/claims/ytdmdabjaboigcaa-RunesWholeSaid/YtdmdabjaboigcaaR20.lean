/-
  The walks of runes.Compare, Common, Index and of the reference's, and of the law RunesHolds. No condition.
-/
import Derived.Test.YtdmdabjaboigcaaR19
namespace Go.Proofs.Ytdmdabjaboigcaa
open Go Go.Eng
set_option maxRecDepth 100000
set_option maxHeartbeats 4000000
set_option linter.all false
attribute [local irreducible] WL WC WQ QFun QLoop Does Q1 QRound QAssign Go.Addr.add
def W (l : List UInt8) : List Nat := (pieces l).map (wt l)
theorem W_length (l : List UInt8) : (W l).length = (pieces l).length := by simp [W]
theorem cm_take {X Y : List Nat} {n : Nat} (h : X.take n = Y.take n) (hx : n ≤ X.length) (hy : n ≤ Y.length) (hs : n = X.length ∨ n = Y.length ∨ ∃ x y, X[n]? = some x ∧ Y[n]? = some y ∧ x ≠ y) : cm X Y = n := by
  have h1 : X = X.take n ++ X.drop n := (List.take_append_drop n X).symm
  have h2 : Y = X.take n ++ Y.drop n := by rw [h]; exact (List.take_append_drop n Y).symm
  rw [h1, h2, cm_pre, cm_stop, List.length_take]
  · omega
  · rcases hs with hs | hs | ⟨x, y, e1, e2, hne⟩
    · rw [List.drop_eq_nil_of_le (by omega)]; trivial
    · rw [show Y.drop n = [] from List.drop_eq_nil_of_le (by omega)]; cases X.drop n <;> trivial
    · obtain ⟨g1, e1⟩ := List.getElem?_eq_some_iff.1 e1
      obtain ⟨g2, e2⟩ := List.getElem?_eq_some_iff.1 e2
      rw [List.drop_eq_getElem_cons g1, List.drop_eq_getElem_cons g2, e1, e2]
      exact hne
theorem mem_ok {l : List UInt8} {p : Pc} (h : p ∈ pieces l) : p.at_ < l.length ∧ p.r ≤ 1114111 := by
  obtain ⟨_, h2, h3⟩ := reach_of_mem h
  have := okr_le (readP_ok h2)
  rw [← h3] at this
  exact ⟨h2, this⟩
theorem common_any (a b : List UInt8) (ha : a.length ≤ 1000000000) (hb : b.length ≤ 1000000000) (w0 : World) (m : Mem) (H : SHeap) :
    Does Try.prog 44 #[str a, str b] w0 m H (Gives (.int .i64 (cm (W a) (W b) : Int)) m H) := by
  refine Does.of_body (args := [str a, str b]) Try.func44 rfl Try.ntmps44 rfl ?_
  (try (refine st ?_; intros))
  refine w_callF Try.func76 ?_ (hs := shared_any a b ha hb _ _ _)
  rintro _ m H ⟨n, k, rfl, rfl, rfl, hS, hstop⟩
  (try (refine st ?_; intros))
  (refine q_fin0 ?_)
  refine Gives.mk (vi ?_)
  rw [(hS.done hstop).1]; rfl
theorem weight_any (l : List UInt8) (p : Pc) (hp : p.at_ < l.length ∧ p.r ≤ 1114111) (hl : l.length ≤ 1000000000) (w0 : World) (m : Mem) (H : SHeap) :
    Does Try.prog 77 #[str l, p.v] w0 m H (Gives (.int .i64 (wt l p : Int)) m H) := by
  refine Does.of_body (args := [str l, p.v]) Try.func77 rfl Try.ntmps77 rfl ?_
  have hg := gb_lt l p.at_
  cases hb : p.b with
  | true =>
    (try (refine st ?_; intros))
    (refine q_fin0 ?_)
    refine Gives.mk (vi ?_)
    unfold wt; rw [if_pos hb]; omega
  | false =>
    (try (refine st ?_; intros))
    (refine q_fin0 ?_)
    refine Gives.mk (vi ?_)
    unfold wt; rw [if_neg (by rw [hb]; simp)]
theorem sq_R20_1 {G : Prop} (h : G := by (repeat (first | (refine sp ?_; (repeat intro zzc)) | (refine iF 77 rfl ?_; refine w_callG Try.func77 ?_ (hs := weight_any _ _ (by assumption) (by omega) _ _ _)))); exact WQ.q1 rfl) : G := h
theorem st_R20_1 {G G' : Prop} (next : G') (h : Bx G' → G := by intro zzn; (first | ((refine st ?_; (repeat intro zzc)); (try ((first | (refine iF 77 rfl ?_; refine w_callG Try.func77 ?_ (hs := weight_any _ _ (by assumption) (by omega) _ _ _)) | ((refine iDraw ?_; (first | refine WC.drawAll rfl (by decide +kernel) ?_ | refine WC.draw 1 rfl (by decide +kernel) ?_ | refine WC.draw 2 rfl (by decide +kernel) ?_ | refine WC.draw 3 rfl (by decide +kernel) ?_ | refine WC.draw 4 rfl (by decide +kernel) ?_ | refine WC.draw 5 rfl (by decide +kernel) ?_ | refine WC.draw 6 rfl (by decide +kernel) ?_ | refine WC.draw 7 rfl (by decide +kernel) ?_ | refine WC.draw 8 rfl (by decide +kernel) ?_ | refine WC.draw 9 rfl (by decide +kernel) ?_ | refine WC.draw 10 rfl (by decide +kernel) ?_ | refine WC.draw 11 rfl (by decide +kernel) ?_ | refine WC.draw 12 rfl (by decide +kernel) ?_ | refine WC.draw 13 rfl (by decide +kernel) ?_ | refine WC.draw 14 rfl (by decide +kernel) ?_ | refine WC.draw 15 rfl (by decide +kernel) ?_ | refine WC.draw 16 rfl (by decide +kernel) ?_ | refine WC.draw 17 rfl (by decide +kernel) ?_ | refine WC.draw 18 rfl (by decide +kernel) ?_ | refine WC.draw 19 rfl (by decide +kernel) ?_ | refine WC.draw 20 rfl (by decide +kernel) ?_ | refine WC.draw 21 rfl (by decide +kernel) ?_ | refine WC.draw 22 rfl (by decide +kernel) ?_ | refine WC.draw 23 rfl (by decide +kernel) ?_ | refine WC.draw 24 rfl (by decide +kernel) ?_)); (repeat (refine WD.cons rfl (fun c h => by cases h) sq_R20_1 ?_)); refine WD.nil ?_)); (try (refine st ?_; (repeat intro zzc)))))) | ((first | (refine iF 77 rfl ?_; refine w_callG Try.func77 ?_ (hs := weight_any _ _ (by assumption) (by omega) _ _ _)) | ((refine iDraw ?_; (first | refine WC.drawAll rfl (by decide +kernel) ?_ | refine WC.draw 1 rfl (by decide +kernel) ?_ | refine WC.draw 2 rfl (by decide +kernel) ?_ | refine WC.draw 3 rfl (by decide +kernel) ?_ | refine WC.draw 4 rfl (by decide +kernel) ?_ | refine WC.draw 5 rfl (by decide +kernel) ?_ | refine WC.draw 6 rfl (by decide +kernel) ?_ | refine WC.draw 7 rfl (by decide +kernel) ?_ | refine WC.draw 8 rfl (by decide +kernel) ?_ | refine WC.draw 9 rfl (by decide +kernel) ?_ | refine WC.draw 10 rfl (by decide +kernel) ?_ | refine WC.draw 11 rfl (by decide +kernel) ?_ | refine WC.draw 12 rfl (by decide +kernel) ?_ | refine WC.draw 13 rfl (by decide +kernel) ?_ | refine WC.draw 14 rfl (by decide +kernel) ?_ | refine WC.draw 15 rfl (by decide +kernel) ?_ | refine WC.draw 16 rfl (by decide +kernel) ?_ | refine WC.draw 17 rfl (by decide +kernel) ?_ | refine WC.draw 18 rfl (by decide +kernel) ?_ | refine WC.draw 19 rfl (by decide +kernel) ?_ | refine WC.draw 20 rfl (by decide +kernel) ?_ | refine WC.draw 21 rfl (by decide +kernel) ?_ | refine WC.draw 22 rfl (by decide +kernel) ?_ | refine WC.draw 23 rfl (by decide +kernel) ?_ | refine WC.draw 24 rfl (by decide +kernel) ?_)); (repeat (refine WD.cons rfl (fun c h => by cases h) sq_R20_1 ?_)); refine WD.nil ?_)); (try (refine st ?_; (repeat intro zzc))))); (repeat ((first | (refine iF 77 rfl ?_; refine w_callG Try.func77 ?_ (hs := weight_any _ _ (by assumption) (by omega) _ _ _)) | ((refine iDraw ?_; (first | refine WC.drawAll rfl (by decide +kernel) ?_ | refine WC.draw 1 rfl (by decide +kernel) ?_ | refine WC.draw 2 rfl (by decide +kernel) ?_ | refine WC.draw 3 rfl (by decide +kernel) ?_ | refine WC.draw 4 rfl (by decide +kernel) ?_ | refine WC.draw 5 rfl (by decide +kernel) ?_ | refine WC.draw 6 rfl (by decide +kernel) ?_ | refine WC.draw 7 rfl (by decide +kernel) ?_ | refine WC.draw 8 rfl (by decide +kernel) ?_ | refine WC.draw 9 rfl (by decide +kernel) ?_ | refine WC.draw 10 rfl (by decide +kernel) ?_ | refine WC.draw 11 rfl (by decide +kernel) ?_ | refine WC.draw 12 rfl (by decide +kernel) ?_ | refine WC.draw 13 rfl (by decide +kernel) ?_ | refine WC.draw 14 rfl (by decide +kernel) ?_ | refine WC.draw 15 rfl (by decide +kernel) ?_ | refine WC.draw 16 rfl (by decide +kernel) ?_ | refine WC.draw 17 rfl (by decide +kernel) ?_ | refine WC.draw 18 rfl (by decide +kernel) ?_ | refine WC.draw 19 rfl (by decide +kernel) ?_ | refine WC.draw 20 rfl (by decide +kernel) ?_ | refine WC.draw 21 rfl (by decide +kernel) ?_ | refine WC.draw 22 rfl (by decide +kernel) ?_ | refine WC.draw 23 rfl (by decide +kernel) ?_ | refine WC.draw 24 rfl (by decide +kernel) ?_)); (repeat (refine WD.cons rfl (fun c h => by cases h) sq_R20_1 ?_)); refine WD.nil ?_)); (try (refine st ?_; (repeat intro zzc))))); (repeat revert zzc); exact zzn.out) : G := h ⟨next⟩
theorem refCommon_any (a b : List UInt8) (ha : a.length ≤ 1048576) (hb : b.length ≤ 1048576) (w0 : World) (m : Mem) (H : SHeap) :
    Does Try.prog 45 #[str a, str b] w0 m H (Gives (.int .i64 (cm (W a) (W b) : Int)) m H) := by
  refine Does.of_body (args := [str a, str b]) Try.func45 rfl Try.ntmps45 rfl ?_
  have hpa := pieces_length a
  have hpb := pieces_length b
  have hma : ((pieces a).map Pc.cs).length = (pieces a).length := by simp
  have hmb : ((pieces b).map Pc.cs).length = (pieces b).length := by simp
  (try (refine st_R20_1 ?_; intros))
  refine w_callF Try.func19 ?_ (hs := refPieces_any _ (by omega) _ _ _)
  rintro _ m _ ⟨x0, cx, rfl, rfl, rfl⟩
  (try (refine st_R20_1 ?_; intros))
  refine w_callF Try.func19 ?_ (hs := refPieces_any _ (by omega) _ _ _)
  rintro _ m _ ⟨y0, cy, rfl, rfl, rfl⟩
  (try (refine st_R20_1 ?_; intros))
  refine WC.loopH [(7, .int .i64 ((0) : Int)), (0, str a), (1, str b), (5, .slice x0 ((pieces a).map Pc.cs).length cx), (6, .slice y0 ((pieces b).map Pc.cs).length cy)] ?_ ?_ (fun j r ds m' H' => ∃ (n : Nat), j = (pieces a).length - n ∧ r = [(7, .int .i64 (n : Int)), (0, str a), (1, str b), (5, .slice x0 ((pieces a).map Pc.cs).length cx), (6, .slice y0 ((pieces b).map Pc.cs).length cy)] ∧ ds = [] ∧ m = m' ∧ H' = .row y0 cy 24 4 ((pieces b).map Pc.cs) :: .row x0 cx 24 4 ((pieces a).map Pc.cs) :: H ∧ (n ≤ (pieces a).length) ∧ (n ≤ (pieces b).length) ∧ ((W a).take n = (W b).take n)) ((pieces a).length - (0)) ⟨0, rfl, rfl, rfl, rfl, rfl, by omega, by omega, by simp⟩ ?_
  · (repeat (first | exact Env.Sub.nil | refine Env.Sub.cons rfl ?_))
  · exact (fun w h => Pick.sat (by iterate 60 (try (first | exact Pick.all | (apply Pick.take; (· (repeat (first | exact Out.here | apply Out.there)))) | apply Pick.drop))) h)
  rintro j r ds m' H' ⟨n, rfl, rfl, rfl, rfl, rfl, hn1, hn2, ht⟩
  have hWa := W_length a
  have hWb := W_length b
  by_cases h1 : n < (pieces a).length
  · obtain ⟨p, hp, hget1, htk1, hmem1, _⟩ := at_idx (f := Pc.cs) h1
    have hok1 := mem_ok hmem1
    have hWp : (W a)[n]? = some (wt a p) := by rw [W, List.getElem?_map, hp]; rfl
    refine WC.rowSome (a := x0) (by (repeat (first | exact List.Mem.head _ | apply List.Mem.tail))) (by omega) ?_
    rintro x1 rfl
    by_cases h2 : n < (pieces b).length
    · obtain ⟨q, hq, hget2, htk2, hmem2, _⟩ := at_idx (f := Pc.cs) h2
      have hok2 := mem_ok hmem2
      have hWq : (W b)[n]? = some (wt b q) := by rw [W, List.getElem?_map, hq]; rfl
      refine WC.rowSome (a := y0) (by (repeat (first | exact List.Mem.head _ | apply List.Mem.tail))) (by omega) ?_
      rintro y1 rfl
      by_cases hw : wt a p = wt b q
      · (try (refine st_R20_1 ?_; intros))
        refine WQ.next ((pieces a).length - (n + 1)) ⟨n + 1, rfl, rfl, rfl, rfl, rfl, ?_, ?_, ?_⟩ (by omega) (by (repeat (first | exact Env.Sub.nil | refine Env.Sub.cons rfl ?_))) (fun w h => Pick.sat (by iterate 60 (try (first | exact Pick.all | (apply Pick.take; (· (repeat (first | exact Out.here | apply Out.there)))) | apply Pick.drop))) h)
        · omega
        · omega
        · rw [List.take_succ, List.take_succ, ht, hWp, hWq, hw]
      · have hcm := cm_take ht (by omega) (by omega) (.inr (.inr ⟨_, _, hWp, hWq, hw⟩))
        (try (refine st_R20_1 ?_; intros))
        (refine q_fin0 ?_)
        exact Gives.mk (vi (by rw [hcm]))
    · have hcm := cm_take ht (by omega) (by omega) (.inr (.inl (by omega)))
      (try (refine st_R20_1 ?_; intros))
      (refine q_fin0 ?_)
      exact Gives.mk (vi (by rw [hcm]))
  · have hcm := cm_take ht (by omega) (by omega) (.inl (by omega))
    (try (refine st_R20_1 ?_; intros))
    (refine q_fin0 ?_)
    exact Gives.mk (vi (by rw [hcm]))
end Go.Proofs.Ytdmdabjaboigcaa
