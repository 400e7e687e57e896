/-
  The walks of runes.Index and of the reference's, and of the law RunesHolds. No condition.
-/
import Derived.Test.YtdmdabjaboigcaaR21
namespace Go.Proofs.Ytdmdabjaboigcaa
open Go Go.Eng
set_option maxRecDepth 100000
set_option maxHeartbeats 4000000
set_option linter.all false
attribute [local irreducible] WL WC WQ QFun QLoop Does Q1 QRound QAssign Go.Addr.add
theorem index_any (l : List UInt8) (q : Int) (hl : l.length ≤ 1000000000) (w0 : World) (m : Mem) (H : SHeap) :
    Does Try.prog 46 #[str l, .int .i32 q] w0 m H (Gives (.int .i64 (idx (pieces l) q)) m H) := by
  refine Does.of_body (args := [str l, .int .i32 q]) Try.func46 rfl Try.ntmps46 rfl ?_
  have hpl := pieces_length l
  (refine st ?_; intros; rename_i b3 b4)
  refine w_callF Try.func38 ?_ (hs := pieces_any _ _ _ _)
  rintro _ m0 H0 ⟨b, rfl, rfl, rfl⟩
  (try (refine st ?_; intros))
  refine WC.persist (by (repeat (first | exact Out.here | apply Out.there))) ?_
  intro mp hle hb
  refine WC.rangeFunc (encs := fun p : Pc => [p.v]) (xs := pieces l) (Cap := TextAt b l) (lb := [.pointer (some ⟨b, 0, none⟩)]) (ps := [8]) (J := fun pre m' Hl => Hl = [.blk b4 (.cells [.int .i64 0].toArray 3 (0, 0)), .blk b3 (.cells [.int .i32 q].toArray 21 (0, 0))] ∧ noIdx pre q) (Jx := fun c pre m' Hl => c = .ret ∧ ∃ p0, ∃ x : Pc, pre = p0 ++ [x] ∧ noIdx p0 q ∧ ((x.r : Int) = q ∧ x.b = false) ∧ Hl = [.blk b4 (.cells [.int .i64 (x.at_ : Int)].toArray 3 (0, 0)), .blk b3 (.cells [.int .i32 q].toArray 21 (0, 0))]) rfl Try.func74 rfl rfl (pieces_seq l (by omega) b) hb (fun _ => rfl) rfl (.cons (.cons .nil)) ?_ ?_ ?_ ?_
  · exact ⟨rfl, fun _ h => by cases h⟩
  · rintro lp pre x post hxs m1 Hl ⟨rfl, hno⟩ hm1 Hfr hfr
    (try (refine st ?_; intros))
    refine WQ.assigned (.cons (.cons (.cons .nil))) (Mem.le.refl _) ?_
    intro Hfr2
    by_cases h1 : (x.r : Int) = q
    · cases hx : x.b with
      | true =>
        (try (refine st ?_; intros))
        exact WQ.roundOn (Hl := [_, _]) (fun w h => Pick.sat (by iterate 60 (try (first | exact Pick.all | (apply Pick.take; (· (repeat (first | exact Out.here | apply Out.there)))) | apply Pick.drop))) h) (Mem.le.refl _) ⟨rfl, noIdx_snoc hno (by rw [hx]; rintro ⟨_, h⟩; cases h)⟩
      | false =>
        (try (refine st ?_; intros))
        exact WQ.roundRet (Hl := [_, _]) (fun w h => Pick.sat (by iterate 60 (try (first | exact Pick.all | (apply Pick.take; (· (repeat (first | exact Out.here | apply Out.there)))) | apply Pick.drop))) h) (Mem.le.refl _) ⟨rfl, pre, x, rfl, hno, ⟨h1, hx⟩, rfl⟩
    · (try (refine st ?_; intros))
      exact WQ.roundOn (Hl := [_, _]) (fun w h => Pick.sat (by iterate 60 (try (first | exact Pick.all | (apply Pick.take; (· (repeat (first | exact Out.here | apply Out.there)))) | apply Pick.drop))) h) (Mem.le.refl _) ⟨rfl, noIdx_snoc hno (fun h => h1 h.1)⟩
  · rintro D m' Hl ⟨rfl, hno⟩ hm1
    have hid : idx (pieces l) q = -1 := by have := idx_pre [] hno; rwa [List.append_nil] at this
    (try (refine st ?_; intros))
    refine WQ.mark (List.perm_middle (l₁ := [_, _])) ?_
    refine q_fin1 (H0 := H) (hle.trans hm1) (Gives.mk (vi hid.symm)) (hd := (fun w h => Pick.sat (by iterate 60 (try (first | exact Pick.all | (apply Pick.take; (· (repeat (first | exact Out.here | apply Out.there)))) | apply Pick.drop))) h))
  · rintro D c pre m' Hl hpre ⟨rfl, p0, x, rfl, hno, hx, rfl⟩ hm1
    obtain ⟨post, hpost⟩ := hpre
    have hid : idx (pieces l) q = (x.at_ : Int) := by
      rw [← hpost, List.append_assoc, idx_pre _ hno]
      simp [idx, hx]
    (try (refine st ?_; intros))
    refine WQ.mark (List.perm_middle (l₁ := [_, _])) ?_
    refine q_fin1 (H0 := H) (hle.trans hm1) (Gives.mk (vi hid.symm)) (hd := (fun w h => Pick.sat (by iterate 60 (try (first | exact Pick.all | (apply Pick.take; (· (repeat (first | exact Out.here | apply Out.there)))) | apply Pick.drop))) h))
theorem refIndex_any (l : List UInt8) (q : Int) (hl : l.length ≤ 1048576) (w0 : World) (m : Mem) (H : SHeap) :
    Does Try.prog 47 #[str l, .int .i32 q] w0 m H (Gives (.int .i64 (idx (pieces l) q)) m H) := by
  refine Does.of_body (args := [str l, .int .i32 q]) Try.func47 rfl Try.ntmps47 rfl ?_
  have hpl := pieces_length l
  (try (refine st ?_; intros))
  refine w_callF Try.func19 ?_ (hs := refPieces_any _ (by omega) _ _ _)
  rintro _ m _ ⟨a, cap, rfl, rfl, rfl⟩
  have hpm : ((pieces l).map Pc.cs).length = (pieces l).length := by simp
  (try (refine st ?_; intros))
  refine WC.loopH [(10, .int .i64 ((0) : Int)), (9, .int .i64 (((pieces l).map Pc.cs).length : Int)), (8, .slice a ((pieces l).map Pc.cs).length cap), (1, .int .i32 q)] ?_ ?_ (fun j r ds m' H' => ∃ i, j = (pieces l).length - i ∧ r = [(10, .int .i64 (i : Int)), (9, .int .i64 (((pieces l).map Pc.cs).length : Int)), (8, .slice a ((pieces l).map Pc.cs).length cap), (1, .int .i32 q)] ∧ ds = [] ∧ m = m' ∧ H' = .row a cap 24 4 ((pieces l).map Pc.cs) :: H ∧ (i ≤ (pieces l).length) ∧ (noIdx ((pieces l).take i) q)) ((pieces l).length - (0)) ⟨0, rfl, rfl, rfl, rfl, rfl, by omega, by intro p hp; simp at hp⟩ ?_
  · (repeat (first | exact Env.Sub.nil | refine Env.Sub.cons rfl ?_))
  · exact (fun w h => Pick.sat (by iterate 60 (try (first | exact Pick.all | (apply Pick.take; (· (repeat (first | exact Out.here | apply Out.there)))) | apply Pick.drop))) h)
  rintro j r ds m' H' ⟨i, rfl, rfl, rfl, rfl, rfl, hi, hno⟩
  by_cases hlt : i < (pieces l).length
  · obtain ⟨x, hx, hget, htk, hmem, hdr⟩ := at_idx (f := Pc.cs) hlt
    refine WC.rowSome (a := a) (by (repeat (first | exact List.Mem.head _ | apply List.Mem.tail))) (by omega) ?_
    rintro a0 rfl
    cases hb : x.b with
    | true =>
      have hb2 : (!x.b) = false := by rw [hb]; rfl
      (try (refine st ?_; intros))
      refine WQ.next ((pieces l).length - (i + 1)) ⟨i + 1, rfl, rfl, rfl, rfl, rfl, ?_, ?_⟩ (by omega) (by (repeat (first | exact Env.Sub.nil | refine Env.Sub.cons rfl ?_))) (fun w h => Pick.sat (by iterate 60 (try (first | exact Pick.all | (apply Pick.take; (· (repeat (first | exact Out.here | apply Out.there)))) | apply Pick.drop))) h)
      · omega
      · rw [htk]; exact noIdx_snoc hno (by rw [hb]; rintro ⟨_, h⟩; cases h)
    | false =>
      have hb2 : (!x.b) = true := by rw [hb]; rfl
      by_cases h1 : (x.r : Int) = q
      · have hid : idx (pieces l) q = (x.at_ : Int) := by
          rw [← List.take_append_drop i (pieces l), idx_pre _ hno, hdr]
          simp [idx, h1, hb]
        (try (refine st ?_; intros))
        (refine q_fin0 ?_)
        exact Gives.mk (vi hid.symm)
      · (try (refine st ?_; intros))
        refine WQ.next ((pieces l).length - (i + 1)) ⟨i + 1, rfl, rfl, rfl, rfl, rfl, ?_, ?_⟩ (by omega) (by (repeat (first | exact Env.Sub.nil | refine Env.Sub.cons rfl ?_))) (fun w h => Pick.sat (by iterate 60 (try (first | exact Pick.all | (apply Pick.take; (· (repeat (first | exact Out.here | apply Out.there)))) | apply Pick.drop))) h)
        · omega
        · rw [htk]; exact noIdx_snoc hno (fun h => h1 h.1)
  · have hid : idx (pieces l) q = -1 := by
      rw [List.take_of_length_le (by omega)] at hno
      have := idx_pre [] hno; rwa [List.append_nil] at this
    (try (refine st ?_; intros))
    (refine q_fin0 ?_)
    exact Gives.mk (vi hid.symm)
end Go.Proofs.Ytdmdabjaboigcaa
