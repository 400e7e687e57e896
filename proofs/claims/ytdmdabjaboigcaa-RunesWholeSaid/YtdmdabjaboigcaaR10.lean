/-
  The walks of package runes and of its reference, tenth part: the reference's boundaries. No condition.
-/
import Derived.Test.YtdmdabjaboigcaaR9
import Derived.Test.YtdmdabjaboigcaaRT4
namespace Go.Proofs.Ytdmdabjaboigcaa
open Go Go.Eng
set_option maxRecDepth 100000
set_option maxHeartbeats 4000000
set_option linter.all false
attribute [local irreducible] WL WC WQ QFun QLoop Does Q1 QRound QAssign Go.Addr.add
def iV (k : Nat) : List Value := [.int .i64 (k : Int)]

theorem refEnds_any (l : List UInt8) (hl : l.length ≤ 5000000000000) (w0 : World) (m : Mem) (H : SHeap) :
    Does Try.prog 71 #[str l] w0 m H (MakesRow 3 1 ((endsOf l).map iV) m H) := by
  refine Does.of_body (args := [str l]) Try.func71 rfl Try.ntmps71 rfl ?_
  have hpl := pieces_length l
  (refine st ?_; intros; rename_i bk)
  refine w_callF Try.func19 ?_ (hs := refPieces_any _ hl _ _ _)
  rintro _ m H1 ⟨a, cap, rfl, rfl, rfl⟩
  (try (refine st ?_; intros))
  refine WC.pull (List.Perm.swap _ _ _) ?_
  refine WC.loopW [(10, .int .i64 0), (9, .int .i64 (((pieces l).map Pc.cs).length : Int)), (8, .slice a ((pieces l).map Pc.cs).length cap), (3, .slice (some ⟨bk, 0, none⟩) 0 0), (0, str l)] ?_
    (fun j r ds m' H' => ∃ i a3 cap3, j = (pieces l).length - i ∧ i ≤ (pieces l).length ∧ r = [(10, .int .i64 (i : Int)), (9, .int .i64 (((pieces l).map Pc.cs).length : Int)), (8, .slice a ((pieces l).map Pc.cs).length cap), (3, .slice a3 i cap3), (0, str l)] ∧ ds = [] ∧ m' = m ∧
      H' = .row a3 cap3 3 1 (((pieces l).take i).map fun p => iV p.at_) :: .row a cap 24 4 ((pieces l).map Pc.cs) :: H) (pieces l).length ⟨0, _, _, rfl, by omega, rfl, rfl, rfl, rfl⟩ ?_
  · (repeat (first | exact Env.Sub.nil | refine Env.Sub.cons rfl ?_))
  rintro j r ds m' H' ⟨i, a3, cap3, rfl, hi, rfl, rfl, rfl, rfl⟩
  have hpm : ((pieces l).map Pc.cs).length = (pieces l).length := by simp
  have htl : (((pieces l).take i).map fun p => iV p.at_).length = i := by simp; omega
  by_cases hlt : i < (pieces l).length
  · have hget : ((pieces l).map Pc.cs)[i]? = some ((pieces l)[i]).cs := by rw [List.getElem?_map, List.getElem?_eq_getElem hlt]; rfl
    generalize hp : (pieces l)[i] = p at hget
    refine WC.rowSome (a := a) (by (repeat (first | exact List.Mem.head _ | apply List.Mem.tail))) (by omega) ?_
    rintro a0 rfl
    (refine st ?_; intros; rename_i ak ck)
    refine WQ.next ((pieces l).length - (i + 1)) ⟨i + 1, ak, ck, rfl, by omega, rfl, rfl, rfl, rfl⟩ (by omega) ?_ ?_
    · rw [htl]
      (repeat (first | exact Env.Sub.nil | refine Env.Sub.cons rfl ?_))
    · rw [List.take_succ_eq_append_getElem hlt, hp, List.map_append]
      exact (fun w h => h.sublist (by repeat (first | exact List.Sublist.refl _ | apply List.Sublist.cons_cons | apply List.Sublist.cons)))
  · obtain rfl : i = (pieces l).length := by omega
    rw [List.take_length] at htl ⊢
    have he : (endsOf l).map iV = ((pieces l).map fun p => iV p.at_) ++ [[.int .i64 (l.length : Int)]] := by simp [endsOf, iV]
    rw [he]
    (refine st ?_; intros; rename_i ak ck)
    refine q_fin0 (H0 := .row ak ck 3 1 _ :: H) ⟨ak, ck, ?_, rfl, rfl⟩ (hd := (fun w h => h.sublist (by repeat (first | exact List.Sublist.refl _ | apply List.Sublist.cons_cons | apply List.Sublist.cons))))
    rw [List.length_append]; rfl
theorem ends_length (l : List UInt8) : (endsOf l).length ≤ l.length + 1 := by
  have := pieces_length l
  simp [endsOf]; omega
theorem refBound_any (l : List UInt8) (k : Int) (hl : l.length ≤ 5000000000000) (w0 : World) (m : Mem) (H : SHeap) :
    Does Try.prog 30 #[str l, .int .i64 k] w0 m H (Gives (.bool (dcd (∃ x ∈ endsOf l, (x : Int) = k))) m H) := by
  refine Does.of_body (args := [str l, .int .i64 k]) Try.func30 rfl Try.ntmps30 rfl ?_
  have hel := ends_length l
  have hem : ((endsOf l).map iV).length = (endsOf l).length := by simp
  (try (refine st ?_; intros))
  refine w_callF Try.func71 ?_ (hs := refEnds_any _ hl _ _ _)
  rintro _ m H1 ⟨a, cap, rfl, rfl, rfl⟩
  (try (refine st ?_; intros))
  refine WC.loopW [(10, .int .i64 0), (9, .int .i64 (((endsOf l).map iV).length : Int)), (8, .slice a ((endsOf l).map iV).length cap), (1, .int .i64 k)] ?_
    (fun j r ds m' H' => ∃ i, j = (endsOf l).length - i ∧ i ≤ (endsOf l).length ∧ r = [(10, .int .i64 (i : Int)), (9, .int .i64 (((endsOf l).map iV).length : Int)), (8, .slice a ((endsOf l).map iV).length cap), (1, .int .i64 k)] ∧ ds = [] ∧ m' = m ∧
      H' = .row a cap 3 1 ((endsOf l).map iV) :: H ∧ ∀ x ∈ (endsOf l).take i, ¬ (x : Int) = k) (endsOf l).length ⟨0, rfl, by omega, rfl, rfl, rfl, rfl, by simp⟩ ?_
  · (repeat (first | exact Env.Sub.nil | refine Env.Sub.cons rfl ?_))
  rintro j r ds m' H' ⟨i, rfl, hi, rfl, rfl, rfl, rfl, hno⟩
  by_cases hlt : i < (endsOf l).length
  · have hget : ((endsOf l).map iV)[i]? = some [.int .i64 (((endsOf l)[i] : Nat) : Int)] := by rw [List.getElem?_map, List.getElem?_eq_getElem hlt]; rfl
    have hmem : (endsOf l)[i] ∈ endsOf l := List.getElem_mem hlt
    have htk := List.take_succ_eq_append_getElem hlt
    generalize hp : (endsOf l)[i] = p at hget hmem htk
    refine WC.rowSome (a := a) (by (repeat (first | exact List.Mem.head _ | apply List.Mem.tail))) (by omega) ?_
    rintro a0 rfl
    (try (refine st ?_; intros))
    (first | refine c_ways (fun h1 => ?_) (fun h1 => ?_) | refine c_nways (fun h1 => ?_) (fun h1 => ?_) | refine w_gways (fun h1 => ?_) (fun h1 => ?_) | refine w_gnways (fun h1 => ?_) (fun h1 => ?_))
    · (try (refine st ?_; intros))
      (refine q_fin0 ?_)
      exact Gives.mk (vb_t ⟨p, hmem, h1⟩)
    · (try (refine st ?_; intros))
      refine WQ.next ((endsOf l).length - (i + 1)) ⟨i + 1, rfl, by omega, rfl, rfl, rfl, rfl, ?_⟩ (by omega) (by (repeat (first | exact Env.Sub.nil | refine Env.Sub.cons rfl ?_))) (fun w h => h)
      intro x hx
      rw [htk] at hx
      rcases List.mem_append.1 hx with hx | hx
      · exact hno x hx
      · rw [List.mem_singleton.1 hx]; exact h1
  · have hall : (endsOf l).take i = endsOf l := List.take_of_length_le (by omega)
    rw [hall] at hno
    (try (refine st ?_; intros))
    (refine q_fin0 ?_)
    exact Gives.mk (vb_f (fun ⟨x, h1, h2⟩ => hno x h1 h2))
end Go.Proofs.Ytdmdabjaboigcaa
