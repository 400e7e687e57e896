/-
  The walks of package runes and of its reference, eleventh part: the boundaries next to a place, and the law. No condition.
-/
import Derived.Test.YtdmdabjaboigcaaR10
namespace Go.Proofs.Ytdmdabjaboigcaa
open Go Go.Eng
set_option maxRecDepth 100000
set_option maxHeartbeats 4000000
set_option linter.all false
attribute [local irreducible] WL WC WQ QFun QLoop Does Q1 QRound QAssign Go.Addr.add
theorem refAround_any (l : List UInt8) (k : Nat) (hl : l.length ≤ 5000000000000) (hk : k ≤ l.length) (w0 : World) (m : Mem) (H : SHeap) :
    Does Try.prog 31 #[str l, .int .i64 (k : Int)] w0 m H (Gives (spanV (leOf k (endsOf l) 0) (geOf k (endsOf l) 0)) m H) := by
  refine Does.of_body (args := [str l, .int .i64 (k : Int)]) Try.func31 rfl Try.ntmps31 rfl ?_
  have hel := ends_length l
  have hem : ((endsOf l).map iV).length = (endsOf l).length := by simp
  (try (refine st ?_; intros))
  refine w_callF Try.func71 ?_ (hs := refEnds_any _ hl _ _ _)
  rintro _ m H1 ⟨a, cap, rfl, rfl, rfl⟩
  (refine st ?_; intros; rename_i b4 bk)
  refine WC.loopW [(14, .int .i64 0), (13, .int .i64 (((endsOf l).map iV).length : Int)), (12, .slice a ((endsOf l).map iV).length cap), (6, .slice a ((endsOf l).map iV).length cap), (1, .int .i64 (k : Int)), (5, .pointer (some ⟨bk, 0, none⟩)), (4, .pointer (some ⟨b4, 0, none⟩))] ?_
    (fun j r ds m' H' => ∃ i, j = (endsOf l).length - i ∧ i ≤ (endsOf l).length ∧ r = [(14, .int .i64 (i : Int)), (13, .int .i64 (((endsOf l).map iV).length : Int)), (12, .slice a ((endsOf l).map iV).length cap), (6, .slice a ((endsOf l).map iV).length cap), (1, .int .i64 (k : Int)), (5, .pointer (some ⟨bk, 0, none⟩)), (4, .pointer (some ⟨b4, 0, none⟩))] ∧ ds = [] ∧ m' = m ∧
      H' = .row a cap 3 1 ((endsOf l).map iV) :: .blk bk (.cells [.int .i64 (leOf k ((endsOf l).take i) 0 : Int), .int .i64 0].toArray 42 (0, 0)) :: .blk b4 (.cells [.int .i64 0, .int .i64 0].toArray 42 (0, 0)) :: H) (endsOf l).length ⟨0, rfl, by omega, rfl, rfl, rfl, rfl⟩ ?_
  · (repeat (first | exact Env.Sub.nil | refine Env.Sub.cons rfl ?_))
  rintro j r ds m' H' ⟨i, rfl, hi, rfl, rfl, rfl, rfl⟩
  by_cases hlt : i < (endsOf l).length
  · have hget : ((endsOf l).map iV)[i]? = some [.int .i64 (((endsOf l)[i] : Nat) : Int)] := by rw [List.getElem?_map, List.getElem?_eq_getElem hlt]; rfl
    have htk := List.take_succ_eq_append_getElem hlt
    generalize hp : (endsOf l)[i] = p at hget htk
    refine WC.rowSome (a := a) (by (repeat (first | exact List.Mem.head _ | apply List.Mem.tail))) (by omega) ?_
    rintro a0 rfl
    (try (refine st ?_; intros))
    (first | refine c_ways (fun h1 => ?_) (fun h1 => ?_) | refine c_nways (fun h1 => ?_) (fun h1 => ?_) | refine w_gways (fun h1 => ?_) (fun h1 => ?_) | refine w_gnways (fun h1 => ?_) (fun h1 => ?_))
    · (try (refine st ?_; intros))
      refine WQ.next ((endsOf l).length - (i + 1)) ⟨i + 1, rfl, by omega, rfl, rfl, rfl, rfl⟩ (by omega) (by (repeat (first | exact Env.Sub.nil | refine Env.Sub.cons rfl ?_))) ?_
      rw [htk, leOf_append, leOf, if_pos (by omega)]
      exact fun w h => h
    · (try (refine st ?_; intros))
      refine WQ.next ((endsOf l).length - (i + 1)) ⟨i + 1, rfl, by omega, rfl, rfl, rfl, rfl⟩ (by omega) (by (repeat (first | exact Env.Sub.nil | refine Env.Sub.cons rfl ?_))) ?_
      rw [htk, leOf_append, leOf, if_neg (by omega)]
      exact fun w h => h
  · obtain rfl : i = (endsOf l).length := by omega
    rw [List.take_length]
    (try (refine st ?_; intros))
    refine WC.loopW [(9, .int .i64 ((((endsOf l).map iV).length : Int) - 1)), (6, .slice a ((endsOf l).map iV).length cap), (1, .int .i64 (k : Int)), (5, .pointer (some ⟨bk, 0, none⟩)), (4, .pointer (some ⟨b4, 0, none⟩))] ?_
      (fun j r ds m1 H1 => j ≤ (endsOf l).length ∧ r = [(9, .int .i64 ((j : Int) - 1)), (6, .slice a ((endsOf l).map iV).length cap), (1, .int .i64 (k : Int)), (5, .pointer (some ⟨bk, 0, none⟩)), (4, .pointer (some ⟨b4, 0, none⟩))] ∧ ds = [] ∧ m1 = m' ∧
        H1 = .row a cap 3 1 ((endsOf l).map iV) :: .blk bk (.cells [.int .i64 (leOf k (endsOf l) 0 : Int), .int .i64 (geOf k ((endsOf l).drop j) 0 : Int)].toArray 42 (0, 0)) :: .blk b4 (.cells [.int .i64 0, .int .i64 0].toArray 42 (0, 0)) :: H) (endsOf l).length ⟨by omega, by rw [hem], rfl, rfl, by rw [List.drop_length]; rfl⟩ ?_
    · (repeat (first | exact Env.Sub.nil | refine Env.Sub.cons rfl ?_))
    rintro j r ds m1 H1 ⟨hj, rfl, rfl, rfl, rfl⟩
    by_cases hj1 : 1 ≤ j
    · obtain ⟨i, rfl⟩ : ∃ i, j = i + 1 := ⟨j - 1, by omega⟩
      have hget : ((endsOf l).map iV)[i]? = some [.int .i64 (((endsOf l)[i] : Nat) : Int)] := by rw [List.getElem?_map, List.getElem?_eq_getElem (by omega)]; rfl
      have hdr := List.drop_eq_getElem_cons (show i < (endsOf l).length by omega)
      generalize hp : (endsOf l)[i] = p at hget hdr
      refine WC.rowSome (a := a) (by (repeat (first | exact List.Mem.head _ | apply List.Mem.tail))) (by omega) ?_
      rintro a0 rfl
      refine WC.rename 9 (u := .int .i64 (i : Int)) rfl (vi (by omega)) ?_
      (try (refine st ?_; intros))
      (first | refine c_ways (fun h1 => ?_) (fun h1 => ?_) | refine c_nways (fun h1 => ?_) (fun h1 => ?_) | refine w_gways (fun h1 => ?_) (fun h1 => ?_) | refine w_gnways (fun h1 => ?_) (fun h1 => ?_))
      · (try (refine st ?_; intros))
        refine WQ.next i ⟨by omega, rfl, rfl, rfl, rfl⟩ (by omega) (by (repeat (first | exact Env.Sub.nil | refine Env.Sub.cons rfl ?_))) ?_
        rw [hdr, geOf, if_pos (by omega)]
        exact fun w h => h
      · (try (refine st ?_; intros))
        refine WQ.next i ⟨by omega, rfl, rfl, rfl, rfl⟩ (by omega) (by (repeat (first | exact Env.Sub.nil | refine Env.Sub.cons rfl ?_))) ?_
        rw [hdr, geOf, if_neg (by omega)]
        exact fun w h => h
    · obtain rfl : j = 0 := by omega
      (try (refine st ?_; intros))
      (refine q_fin0 ?_)
      exact Gives.mk rfl
end Go.Proofs.Ytdmdabjaboigcaa
