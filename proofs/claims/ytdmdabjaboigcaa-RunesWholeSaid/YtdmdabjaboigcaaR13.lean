/-
  The walks of package runes, thirteenth part: Right, Broken, Parts. No condition.
-/
import Derived.Test.YtdmdabjaboigcaaR10
import Derived.Test.YtdmdabjaboigcaaRT5
namespace Go.Proofs.Ytdmdabjaboigcaa
open Go Go.Eng
set_option maxRecDepth 100000
set_option maxHeartbeats 4000000
set_option linter.all false
attribute [local irreducible] WL WC WQ QFun QLoop Does Q1 QRound QAssign Go.Addr.add
theorem sq_R13_1 {G : Prop} (h : G := by (repeat (first | (refine sp ?_; (repeat intro zzc)) | (refine iF 21 rfl ?_; refine w_callG Try.func21 ?_ (hs := count_any _ (by omega) _ _ _)))); exact WQ.q1 rfl) : G := h
theorem st_R13_1 {G G' : Prop} (next : G') (h : Bx G' → G := by intro zzn; (first | ((refine st ?_; (repeat intro zzc)); (try ((first | (refine iF 21 rfl ?_; refine w_callG Try.func21 ?_ (hs := count_any _ (by omega) _ _ _)) | ((refine iDraw ?_; (first | refine WC.drawAll rfl (by decide +kernel) ?_ | refine WC.draw 1 rfl (by decide +kernel) ?_ | refine WC.draw 2 rfl (by decide +kernel) ?_ | refine WC.draw 3 rfl (by decide +kernel) ?_ | refine WC.draw 4 rfl (by decide +kernel) ?_ | refine WC.draw 5 rfl (by decide +kernel) ?_ | refine WC.draw 6 rfl (by decide +kernel) ?_ | refine WC.draw 7 rfl (by decide +kernel) ?_ | refine WC.draw 8 rfl (by decide +kernel) ?_ | refine WC.draw 9 rfl (by decide +kernel) ?_ | refine WC.draw 10 rfl (by decide +kernel) ?_ | refine WC.draw 11 rfl (by decide +kernel) ?_ | refine WC.draw 12 rfl (by decide +kernel) ?_ | refine WC.draw 13 rfl (by decide +kernel) ?_ | refine WC.draw 14 rfl (by decide +kernel) ?_ | refine WC.draw 15 rfl (by decide +kernel) ?_ | refine WC.draw 16 rfl (by decide +kernel) ?_ | refine WC.draw 17 rfl (by decide +kernel) ?_ | refine WC.draw 18 rfl (by decide +kernel) ?_ | refine WC.draw 19 rfl (by decide +kernel) ?_ | refine WC.draw 20 rfl (by decide +kernel) ?_ | refine WC.draw 21 rfl (by decide +kernel) ?_ | refine WC.draw 22 rfl (by decide +kernel) ?_ | refine WC.draw 23 rfl (by decide +kernel) ?_ | refine WC.draw 24 rfl (by decide +kernel) ?_)); (repeat (refine WD.cons rfl (fun c h => by cases h) sq_R13_1 ?_)); refine WD.nil ?_)); (try (refine st ?_; (repeat intro zzc)))))) | ((first | (refine iF 21 rfl ?_; refine w_callG Try.func21 ?_ (hs := count_any _ (by omega) _ _ _)) | ((refine iDraw ?_; (first | refine WC.drawAll rfl (by decide +kernel) ?_ | refine WC.draw 1 rfl (by decide +kernel) ?_ | refine WC.draw 2 rfl (by decide +kernel) ?_ | refine WC.draw 3 rfl (by decide +kernel) ?_ | refine WC.draw 4 rfl (by decide +kernel) ?_ | refine WC.draw 5 rfl (by decide +kernel) ?_ | refine WC.draw 6 rfl (by decide +kernel) ?_ | refine WC.draw 7 rfl (by decide +kernel) ?_ | refine WC.draw 8 rfl (by decide +kernel) ?_ | refine WC.draw 9 rfl (by decide +kernel) ?_ | refine WC.draw 10 rfl (by decide +kernel) ?_ | refine WC.draw 11 rfl (by decide +kernel) ?_ | refine WC.draw 12 rfl (by decide +kernel) ?_ | refine WC.draw 13 rfl (by decide +kernel) ?_ | refine WC.draw 14 rfl (by decide +kernel) ?_ | refine WC.draw 15 rfl (by decide +kernel) ?_ | refine WC.draw 16 rfl (by decide +kernel) ?_ | refine WC.draw 17 rfl (by decide +kernel) ?_ | refine WC.draw 18 rfl (by decide +kernel) ?_ | refine WC.draw 19 rfl (by decide +kernel) ?_ | refine WC.draw 20 rfl (by decide +kernel) ?_ | refine WC.draw 21 rfl (by decide +kernel) ?_ | refine WC.draw 22 rfl (by decide +kernel) ?_ | refine WC.draw 23 rfl (by decide +kernel) ?_ | refine WC.draw 24 rfl (by decide +kernel) ?_)); (repeat (refine WD.cons rfl (fun c h => by cases h) sq_R13_1 ?_)); refine WD.nil ?_)); (try (refine st ?_; (repeat intro zzc))))); (repeat ((first | (refine iF 21 rfl ?_; refine w_callG Try.func21 ?_ (hs := count_any _ (by omega) _ _ _)) | ((refine iDraw ?_; (first | refine WC.drawAll rfl (by decide +kernel) ?_ | refine WC.draw 1 rfl (by decide +kernel) ?_ | refine WC.draw 2 rfl (by decide +kernel) ?_ | refine WC.draw 3 rfl (by decide +kernel) ?_ | refine WC.draw 4 rfl (by decide +kernel) ?_ | refine WC.draw 5 rfl (by decide +kernel) ?_ | refine WC.draw 6 rfl (by decide +kernel) ?_ | refine WC.draw 7 rfl (by decide +kernel) ?_ | refine WC.draw 8 rfl (by decide +kernel) ?_ | refine WC.draw 9 rfl (by decide +kernel) ?_ | refine WC.draw 10 rfl (by decide +kernel) ?_ | refine WC.draw 11 rfl (by decide +kernel) ?_ | refine WC.draw 12 rfl (by decide +kernel) ?_ | refine WC.draw 13 rfl (by decide +kernel) ?_ | refine WC.draw 14 rfl (by decide +kernel) ?_ | refine WC.draw 15 rfl (by decide +kernel) ?_ | refine WC.draw 16 rfl (by decide +kernel) ?_ | refine WC.draw 17 rfl (by decide +kernel) ?_ | refine WC.draw 18 rfl (by decide +kernel) ?_ | refine WC.draw 19 rfl (by decide +kernel) ?_ | refine WC.draw 20 rfl (by decide +kernel) ?_ | refine WC.draw 21 rfl (by decide +kernel) ?_ | refine WC.draw 22 rfl (by decide +kernel) ?_ | refine WC.draw 23 rfl (by decide +kernel) ?_ | refine WC.draw 24 rfl (by decide +kernel) ?_)); (repeat (refine WD.cons rfl (fun c h => by cases h) sq_R13_1 ?_)); refine WD.nil ?_)); (try (refine st ?_; (repeat intro zzc))))); (repeat revert zzc); exact zzn.out) : G := h ⟨next⟩
theorem right_any (l : List UInt8) (hl : l.length ≤ 5000000000000) (w0 : World) (m : Mem) (H : SHeap) :
    Does Try.prog 22 #[str l] w0 m H (Gives (.bool (dcd ((nBroken (pieces l) : Int) = 0))) m H) := by
  refine Does.of_body (args := [str l]) Try.func22 rfl Try.ntmps22 rfl ?_
  (try (refine st_R13_1 ?_; intros))
  (refine q_fin0 ?_)
  exact Gives.mk rfl
theorem broken_any (l : List UInt8) (hl : l.length ≤ 5000000000000) (w0 : World) (m : Mem) (H : SHeap) :
    Does Try.prog 23 #[str l] w0 m H (MakesRow 3 1 ((brokenOf (pieces l)).map iV) m H) := by
  refine Does.of_body (args := [str l]) Try.func23 rfl Try.ntmps23 rfl ?_
  have hpl := pieces_length l
  (refine st_R13_1 ?_; intros; rename_i bl)
  refine w_callF Try.func38 ?_ (hs := pieces_any _ _ _ _)
  rintro _ m0 H0 ⟨b, rfl, rfl, rfl⟩
  (try (refine st_R13_1 ?_; intros))
  refine WC.persist (by (repeat (first | exact Out.here | apply Out.there))) ?_
  intro mp hle hb
  refine WC.newRow (T := 3) (sz := 1) ?_
  apply WC.rangeFunc (encs := fun p : Pc => [p.v]) (xs := pieces l) (Cap := TextAt b l) (lb := [.pointer (some ⟨b, 0, none⟩)]) (ps := [7])
    (J := fun pre m' Hl => ∃ a cap, Hl = [.row a cap 3 1 ((brokenOf pre).map iV), .blk bl (.cells [.slice a (brokenOf pre).length cap].toArray 32 (0, 0))]) (Jx := fun _ _ _ _ => False)
  · exact rfl
  · exact Try.func74
  · exact rfl
  · exact rfl
  · exact pieces_seq l (by omega) b
  · exact hb
  · exact fun _ => rfl
  · exact rfl
  · exact .cons (.cons .nil)
  · exact ⟨none, 0, rfl⟩
  · intro lp pre x post hxs m1 Hl hJ hm1 Hfr hfr
    obtain ⟨a, cap, rfl⟩ := hJ
    have hpre : pre.length ≤ (pieces l).length := by rw [hxs]; simp
    have hle3 := brokenOf_length pre
    have hsn := brokenOf_snoc pre x
    have hml : ((brokenOf pre).map iV).length = (brokenOf pre).length := by simp
    (try (refine st_R13_1 ?_; intros))
    refine WQ.assigned (.cons (.cons (.cons .nil))) (Mem.le.refl _) ?_
    intro Hfr2
    cases hx : x.b with
    | true =>
      rw [hx] at hsn
      (refine st_R13_1 ?_; intros; rename_i a2 c2)
      exact WQ.roundOn (Hl := [.row a2 c2 3 1 _, .blk bl _]) (fun w h => h.sublist (by repeat (first | exact List.Sublist.refl _ | apply List.Sublist.cons_cons | apply List.Sublist.cons))) (Mem.le.refl _) ⟨a2, c2, by rw [hsn]; simp [iV]⟩
    | false =>
      rw [hx] at hsn
      (try (refine st_R13_1 ?_; intros))
      exact WQ.roundOn (Hl := [.row a cap 3 1 _, .blk bl _]) (fun w h => h.sublist (by repeat (first | exact List.Sublist.refl _ | apply List.Sublist.cons_cons | apply List.Sublist.cons))) (Mem.le.refl _) ⟨a, cap, by rw [hsn]; simp⟩
  · intro D m' Hl hJ hm1
    obtain ⟨a, cap, rfl⟩ := hJ
    (try (refine st_R13_1 ?_; intros))
    refine WQ.mark List.perm_middle ?_
    refine q_fin1 (H0 := .row a cap 3 1 _ :: H) (hle.trans hm1) ⟨_, _, ?_, rfl, rfl⟩ (hd := (fun w h => h.sublist (by repeat (first | exact List.Sublist.refl _ | apply List.Sublist.cons_cons | apply List.Sublist.cons))))
    simp
  · intro D c pre m' Hl _ h _
    exact h.elim
theorem parts_any (l : List UInt8) (hl : l.length ≤ 5000000000000) (w0 : World) (m : Mem) (H : SHeap) :
    Does Try.prog 24 #[str l] w0 m H (MakesRow 44 3 ((partsOf (pieces l)).map Pt.cs) m H) := by
  refine Does.of_body (args := [str l]) Try.func24 rfl Try.ntmps24 rfl ?_
  have hpl := pieces_length l
  (refine st_R13_1 ?_; intros; rename_i bl)
  refine w_callF Try.func38 ?_ (hs := pieces_any _ _ _ _)
  rintro _ m0 H0 ⟨b, rfl, rfl, rfl⟩
  (try (refine st_R13_1 ?_; intros))
  refine WC.persist (by (repeat (first | exact Out.here | apply Out.there))) ?_
  intro mp hle hb
  refine WC.newRow (T := 44) (sz := 3) ?_
  apply WC.rangeFunc (encs := fun p : Pc => [p.v]) (xs := pieces l) (Cap := TextAt b l) (lb := [.pointer (some ⟨b, 0, none⟩)]) (ps := [8])
    (J := fun pre m' Hl => ∃ a cap, Hl = [.row a cap 44 3 ((partsOf pre).map Pt.cs), .blk bl (.cells [.slice a (partsOf pre).length cap].toArray 37 (0, 0))]) (Jx := fun _ _ _ _ => False)
  · exact rfl
  · exact Try.func74
  · exact rfl
  · exact rfl
  · exact pieces_seq l (by omega) b
  · exact hb
  · exact fun _ => rfl
  · exact rfl
  · exact .cons (.cons .nil)
  · exact ⟨none, 0, rfl⟩
  · intro lp pre x post hxs m1 Hl hJ hm1 Hfr hfr
    obtain ⟨a, cap, rfl⟩ := hJ
    have hpre : pre.length ≤ (pieces l).length := by rw [hxs]; simp
    have hle3 := partsOf_length pre
    obtain ⟨hx1, hx2, hx3⟩ : x.at_ < l.length ∧ x.w ≤ 4 ∧ 1 ≤ x.w := by
      have := pieces_split hxs
      have h2 := readP_w this.1
      rw [← this.2.1] at h2
      omega
    have hsn := partsOf_snoc pre x
    generalize partsOf pre = acc at hle3 hsn ⊢
    have hml : (acc.map Pt.cs).length = acc.length := by simp
    (try (refine st_R13_1 ?_; intros))
    refine WQ.assigned (.cons (.cons (.cons .nil))) (Mem.le.refl _) ?_
    intro Hfr2
    rcases nil_or_snoc acc with rfl | ⟨ys, q, rfl⟩
    · rw [addPart_nil] at hsn
      have h0 : ([] : List Pt).length = 0 := rfl
      (refine st_R13_1 ?_; intros; rename_i a2 c2)
      refine WL.rowSome (a := a2) (by (repeat (first | exact List.Mem.head _ | apply List.Mem.tail))) (by simp) ?_
      rintro a0 rfl
      have hg : (([] : List Pt).map Pt.cs ++ [[Value.int .i64 (x.at_ : Int), .int .i64 0, .bool x.b]])[([] : List Pt).length + 1 - 1]? = some [Value.int .i64 (x.at_ : Int), .int .i64 0, .bool x.b] := rfl
      (try (refine st_R13_1 ?_; intros))
      exact WQ.roundOn (Hl := [.row (some a0) c2 44 3 _, .blk bl _]) (fun w h => h.sublist (by repeat (first | exact List.Sublist.refl _ | apply List.Sublist.cons_cons | apply List.Sublist.cons))) (Mem.le.refl _) ⟨some a0, c2, by rw [hsn]; simp [Pt.cs]⟩
    · have h1 : (ys ++ [q]).length = ys.length + 1 := by simp
      have h2 : ((ys ++ [q]).map Pt.cs).length = ys.length + 1 := by simp
      have hg : ((ys ++ [q]).map Pt.cs)[(ys ++ [q]).length - 1]? = some q.cs := by simp
      refine WC.rowSome (a := a) (by (repeat (first | exact List.Mem.head _ | apply List.Mem.tail))) (by omega) ?_
      rintro a0 rfl
      cases hq : (q.b == x.b) with
      | true =>
        have hc : (!(q.b == x.b)) = false := by rw [hq]; rfl
        rw [addPart_eq (by simpa using hq)] at hsn
        (try (refine st_R13_1 ?_; intros))
        exact WQ.roundOn (Hl := [.row (some a0) cap 44 3 _, .blk bl _]) (fun w h => h.sublist (by repeat (first | exact List.Sublist.refl _ | apply List.Sublist.cons_cons | apply List.Sublist.cons))) (Mem.le.refl _) ⟨some a0, cap, by rw [hsn]; simp [Pt.cs]⟩
      | false =>
        have hc : (!(q.b == x.b)) = true := by rw [hq]; rfl
        rw [addPart_ne (by simpa using hq)] at hsn
        (refine st_R13_1 ?_; intros; rename_i a2 c2)
        refine WL.rowSome (a := a2) (by (repeat (first | exact List.Mem.head _ | apply List.Mem.tail))) (by simp) ?_
        rintro a0 rfl
        have hg : ((ys ++ [q]).map Pt.cs ++ [[Value.int .i64 (x.at_ : Int), .int .i64 0, .bool x.b]])[((ys ++ [q]).map Pt.cs).length + 1 - 1]? = some [Value.int .i64 (x.at_ : Int), .int .i64 0, .bool x.b] := by simp
        (try (refine st_R13_1 ?_; intros))
        exact WQ.roundOn (Hl := [.row (some a0) c2 44 3 _, .blk bl _]) (fun w h => h.sublist (by repeat (first | exact List.Sublist.refl _ | apply List.Sublist.cons_cons | apply List.Sublist.cons))) (Mem.le.refl _) ⟨some a0, c2, by rw [hsn]; simp [Pt.cs]⟩
  · intro D m' Hl hJ hm1
    obtain ⟨a, cap, rfl⟩ := hJ
    (try (refine st_R13_1 ?_; intros))
    refine WQ.mark List.perm_middle ?_
    refine q_fin1 (H0 := .row a cap 44 3 _ :: H) (hle.trans hm1) ⟨_, _, ?_, rfl, rfl⟩ (hd := (fun w h => h.sublist (by repeat (first | exact List.Sublist.refl _ | apply List.Sublist.cons_cons | apply List.Sublist.cons))))
    simp
  · intro D c pre m' Hl _ h _
    exact h.elim
end Go.Proofs.Ytdmdabjaboigcaa
