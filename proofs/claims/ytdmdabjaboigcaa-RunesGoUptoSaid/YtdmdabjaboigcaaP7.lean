/-
  Parts of a walk, joined: R13 R14 R16 R17 R18 R19 R20 R21 R22. No condition.
-/
import Derived.Test.YtdmdabjaboigcaaP6
import Derived.Test.YtdmdabjaboigcaaP4
import Derived.Test.YtdmdabjaboigcaaP1
/-
  The walks of package runes, thirteenth part: Right, Broken, Parts. No condition.
-/
namespace Go.Proofs.Ytdmdabjaboigcaa
open Go Go.Eng
set_option maxRecDepth 100000
set_option maxHeartbeats 4000000
set_option linter.all false
attribute [local irreducible] WL WC WQ QFun QLoop Does Q1 QRound QAssign Go.Addr.add
theorem sq_R13_1 {G : Prop} (h : G := by (repeat (first | (refine sp ?_; (repeat intro zzc)) | (refine iF 21 rfl ?_; refine w_callG Try.func21 ?_ (hs := count_any _ (by omega) _ _ _)))); exact WQ.q1 rfl) : G := h
theorem st_R13_1 {G G' : Prop} (next : G') (h : Bx G' → G := by intro zzn; (first | ((refine st ?_; (repeat intro zzc)); (try ((first | (refine iF 21 rfl ?_; refine w_callG Try.func21 ?_ (hs := count_any _ (by omega) _ _ _)) | ((refine iDraw ?_; (first | refine WC.drawAll rfl (by decide +kernel) ?_ | refine WC.draw 1 rfl (by decide +kernel) ?_ | refine WC.draw 2 rfl (by decide +kernel) ?_ | refine WC.draw 3 rfl (by decide +kernel) ?_ | refine WC.draw 4 rfl (by decide +kernel) ?_ | refine WC.draw 5 rfl (by decide +kernel) ?_ | refine WC.draw 6 rfl (by decide +kernel) ?_ | refine WC.draw 7 rfl (by decide +kernel) ?_ | refine WC.draw 8 rfl (by decide +kernel) ?_ | refine WC.draw 9 rfl (by decide +kernel) ?_ | refine WC.draw 10 rfl (by decide +kernel) ?_ | refine WC.draw 11 rfl (by decide +kernel) ?_ | refine WC.draw 12 rfl (by decide +kernel) ?_ | refine WC.draw 13 rfl (by decide +kernel) ?_ | refine WC.draw 14 rfl (by decide +kernel) ?_ | refine WC.draw 15 rfl (by decide +kernel) ?_ | refine WC.draw 16 rfl (by decide +kernel) ?_ | refine WC.draw 17 rfl (by decide +kernel) ?_ | refine WC.draw 18 rfl (by decide +kernel) ?_ | refine WC.draw 19 rfl (by decide +kernel) ?_ | refine WC.draw 20 rfl (by decide +kernel) ?_ | refine WC.draw 21 rfl (by decide +kernel) ?_ | refine WC.draw 22 rfl (by decide +kernel) ?_ | refine WC.draw 23 rfl (by decide +kernel) ?_ | refine WC.draw 24 rfl (by decide +kernel) ?_)); (repeat (refine WD.cons rfl (fun c h => by cases h) sq_R13_1 ?_)); refine WD.nil ?_)); (try (refine st ?_; (repeat intro zzc)))))) | ((first | (refine iF 21 rfl ?_; refine w_callG Try.func21 ?_ (hs := count_any _ (by omega) _ _ _)) | ((refine iDraw ?_; (first | refine WC.drawAll rfl (by decide +kernel) ?_ | refine WC.draw 1 rfl (by decide +kernel) ?_ | refine WC.draw 2 rfl (by decide +kernel) ?_ | refine WC.draw 3 rfl (by decide +kernel) ?_ | refine WC.draw 4 rfl (by decide +kernel) ?_ | refine WC.draw 5 rfl (by decide +kernel) ?_ | refine WC.draw 6 rfl (by decide +kernel) ?_ | refine WC.draw 7 rfl (by decide +kernel) ?_ | refine WC.draw 8 rfl (by decide +kernel) ?_ | refine WC.draw 9 rfl (by decide +kernel) ?_ | refine WC.draw 10 rfl (by decide +kernel) ?_ | refine WC.draw 11 rfl (by decide +kernel) ?_ | refine WC.draw 12 rfl (by decide +kernel) ?_ | refine WC.draw 13 rfl (by decide +kernel) ?_ | refine WC.draw 14 rfl (by decide +kernel) ?_ | refine WC.draw 15 rfl (by decide +kernel) ?_ | refine WC.draw 16 rfl (by decide +kernel) ?_ | refine WC.draw 17 rfl (by decide +kernel) ?_ | refine WC.draw 18 rfl (by decide +kernel) ?_ | refine WC.draw 19 rfl (by decide +kernel) ?_ | refine WC.draw 20 rfl (by decide +kernel) ?_ | refine WC.draw 21 rfl (by decide +kernel) ?_ | refine WC.draw 22 rfl (by decide +kernel) ?_ | refine WC.draw 23 rfl (by decide +kernel) ?_ | refine WC.draw 24 rfl (by decide +kernel) ?_)); (repeat (refine WD.cons rfl (fun c h => by cases h) sq_R13_1 ?_)); refine WD.nil ?_)); (try (refine st ?_; (repeat intro zzc))))); (repeat ((first | (refine iF 21 rfl ?_; refine w_callG Try.func21 ?_ (hs := count_any _ (by omega) _ _ _)) | ((refine iDraw ?_; (first | refine WC.drawAll rfl (by decide +kernel) ?_ | refine WC.draw 1 rfl (by decide +kernel) ?_ | refine WC.draw 2 rfl (by decide +kernel) ?_ | refine WC.draw 3 rfl (by decide +kernel) ?_ | refine WC.draw 4 rfl (by decide +kernel) ?_ | refine WC.draw 5 rfl (by decide +kernel) ?_ | refine WC.draw 6 rfl (by decide +kernel) ?_ | refine WC.draw 7 rfl (by decide +kernel) ?_ | refine WC.draw 8 rfl (by decide +kernel) ?_ | refine WC.draw 9 rfl (by decide +kernel) ?_ | refine WC.draw 10 rfl (by decide +kernel) ?_ | refine WC.draw 11 rfl (by decide +kernel) ?_ | refine WC.draw 12 rfl (by decide +kernel) ?_ | refine WC.draw 13 rfl (by decide +kernel) ?_ | refine WC.draw 14 rfl (by decide +kernel) ?_ | refine WC.draw 15 rfl (by decide +kernel) ?_ | refine WC.draw 16 rfl (by decide +kernel) ?_ | refine WC.draw 17 rfl (by decide +kernel) ?_ | refine WC.draw 18 rfl (by decide +kernel) ?_ | refine WC.draw 19 rfl (by decide +kernel) ?_ | refine WC.draw 20 rfl (by decide +kernel) ?_ | refine WC.draw 21 rfl (by decide +kernel) ?_ | refine WC.draw 22 rfl (by decide +kernel) ?_ | refine WC.draw 23 rfl (by decide +kernel) ?_ | refine WC.draw 24 rfl (by decide +kernel) ?_)); (repeat (refine WD.cons rfl (fun c h => by cases h) sq_R13_1 ?_)); refine WD.nil ?_)); (try (refine st ?_; (repeat intro zzc))))); (repeat revert zzc); exact zzn.out) : G := h ⟨next⟩
theorem right_any (l : List UInt8) (hl : l.length ≤ 5000000000000) (w0 : World) (m : Mem) (H : SHeap) :
    Does Try.prog 22 #[str l] w0 m H (Gives (.bool (dcd ((nBroken (pieces l) : Int) = 0))) m H) := by
  refine Does.of_body (args := [str l]) Try.func22 rfl Try.ntmps22 rfl ?_
  (try (refine st_R13_1 ?_; intros))
  (refine q_fin0 ?_)
  exact Gives.mk rfl
theorem broken_any (l : List UInt8) (hl : l.length ≤ 5000000000000) (w0 : World) (m : Mem) (H : SHeap) :
    Does Try.prog 23 #[str l] w0 m H (MakesRow 3 1 ((brokenOf (pieces l)).map iV) m H) := by
  refine Does.of_body (args := [str l]) Try.func23 rfl Try.ntmps23 rfl ?_
  have hpl := pieces_length l
  (refine st_R13_1 ?_; intros; rename_i bl)
  refine w_callF Try.func38 ?_ (hs := pieces_any _ _ _ _)
  rintro _ m0 H0 ⟨b, rfl, rfl, rfl⟩
  (try (refine st_R13_1 ?_; intros))
  refine WC.persist (by (repeat (first | exact Out.here | apply Out.there))) ?_
  intro mp hle hb
  refine WC.newRow (T := 3) (sz := 1) ?_
  apply WC.rangeFunc (encs := fun p : Pc => [p.v]) (xs := pieces l) (Cap := TextAt b l) (lb := [.pointer (some ⟨b, 0, none⟩)]) (ps := [7])
    (J := fun pre m' Hl => ∃ a cap, Hl = [.row a cap 3 1 ((brokenOf pre).map iV), .blk bl (.cells [.slice a (brokenOf pre).length cap].toArray 32 (0, 0))]) (Jx := fun _ _ _ _ => False)
  · exact rfl
  · exact Try.func74
  · exact rfl
  · exact rfl
  · exact pieces_seq l (by omega) b
  · exact hb
  · exact fun _ => rfl
  · exact rfl
  · exact .cons (.cons .nil)
  · exact ⟨none, 0, rfl⟩
  · intro lp pre x post hxs m1 Hl hJ hm1 Hfr hfr
    obtain ⟨a, cap, rfl⟩ := hJ
    have hpre : pre.length ≤ (pieces l).length := by rw [hxs]; simp
    have hle3 := brokenOf_length pre
    have hsn := brokenOf_snoc pre x
    have hml : ((brokenOf pre).map iV).length = (brokenOf pre).length := by simp
    (try (refine st_R13_1 ?_; intros))
    refine WQ.assigned (.cons (.cons (.cons .nil))) (Mem.le.refl _) ?_
    intro Hfr2
    cases hx : x.b with
    | true =>
      rw [hx] at hsn
      (refine st_R13_1 ?_; intros; rename_i a2 c2)
      exact WQ.roundOn (Hl := [.row a2 c2 3 1 _, .blk bl _]) (fun w h => h.sublist (by repeat (first | exact List.Sublist.refl _ | apply List.Sublist.cons_cons | apply List.Sublist.cons))) (Mem.le.refl _) ⟨a2, c2, by rw [hsn]; simp [iV]⟩
    | false =>
      rw [hx] at hsn
      (try (refine st_R13_1 ?_; intros))
      exact WQ.roundOn (Hl := [.row a cap 3 1 _, .blk bl _]) (fun w h => h.sublist (by repeat (first | exact List.Sublist.refl _ | apply List.Sublist.cons_cons | apply List.Sublist.cons))) (Mem.le.refl _) ⟨a, cap, by rw [hsn]; simp⟩
  · intro D m' Hl hJ hm1
    obtain ⟨a, cap, rfl⟩ := hJ
    (try (refine st_R13_1 ?_; intros))
    refine WQ.mark List.perm_middle ?_
    refine q_fin1 (H0 := .row a cap 3 1 _ :: H) (hle.trans hm1) ⟨_, _, ?_, rfl, rfl⟩ (hd := (fun w h => h.sublist (by repeat (first | exact List.Sublist.refl _ | apply List.Sublist.cons_cons | apply List.Sublist.cons))))
    simp
  · intro D c pre m' Hl _ h _
    exact h.elim
theorem parts_any (l : List UInt8) (hl : l.length ≤ 5000000000000) (w0 : World) (m : Mem) (H : SHeap) :
    Does Try.prog 24 #[str l] w0 m H (MakesRow 44 3 ((partsOf (pieces l)).map Pt.cs) m H) := by
  refine Does.of_body (args := [str l]) Try.func24 rfl Try.ntmps24 rfl ?_
  have hpl := pieces_length l
  (refine st_R13_1 ?_; intros; rename_i bl)
  refine w_callF Try.func38 ?_ (hs := pieces_any _ _ _ _)
  rintro _ m0 H0 ⟨b, rfl, rfl, rfl⟩
  (try (refine st_R13_1 ?_; intros))
  refine WC.persist (by (repeat (first | exact Out.here | apply Out.there))) ?_
  intro mp hle hb
  refine WC.newRow (T := 44) (sz := 3) ?_
  apply WC.rangeFunc (encs := fun p : Pc => [p.v]) (xs := pieces l) (Cap := TextAt b l) (lb := [.pointer (some ⟨b, 0, none⟩)]) (ps := [8])
    (J := fun pre m' Hl => ∃ a cap, Hl = [.row a cap 44 3 ((partsOf pre).map Pt.cs), .blk bl (.cells [.slice a (partsOf pre).length cap].toArray 37 (0, 0))]) (Jx := fun _ _ _ _ => False)
  · exact rfl
  · exact Try.func74
  · exact rfl
  · exact rfl
  · exact pieces_seq l (by omega) b
  · exact hb
  · exact fun _ => rfl
  · exact rfl
  · exact .cons (.cons .nil)
  · exact ⟨none, 0, rfl⟩
  · intro lp pre x post hxs m1 Hl hJ hm1 Hfr hfr
    obtain ⟨a, cap, rfl⟩ := hJ
    have hpre : pre.length ≤ (pieces l).length := by rw [hxs]; simp
    have hle3 := partsOf_length pre
    obtain ⟨hx1, hx2, hx3⟩ : x.at_ < l.length ∧ x.w ≤ 4 ∧ 1 ≤ x.w := by
      have := pieces_split hxs
      have h2 := readP_w this.1
      rw [← this.2.1] at h2
      omega
    have hsn := partsOf_snoc pre x
    generalize partsOf pre = acc at hle3 hsn ⊢
    have hml : (acc.map Pt.cs).length = acc.length := by simp
    (try (refine st_R13_1 ?_; intros))
    refine WQ.assigned (.cons (.cons (.cons .nil))) (Mem.le.refl _) ?_
    intro Hfr2
    rcases nil_or_snoc acc with rfl | ⟨ys, q, rfl⟩
    · rw [addPart_nil] at hsn
      have h0 : ([] : List Pt).length = 0 := rfl
      (refine st_R13_1 ?_; intros; rename_i a2 c2)
      refine WL.rowSome (a := a2) (by (repeat (first | exact List.Mem.head _ | apply List.Mem.tail))) (by simp) ?_
      rintro a0 rfl
      have hg : (([] : List Pt).map Pt.cs ++ [[Value.int .i64 (x.at_ : Int), .int .i64 0, .bool x.b]])[([] : List Pt).length + 1 - 1]? = some [Value.int .i64 (x.at_ : Int), .int .i64 0, .bool x.b] := rfl
      (try (refine st_R13_1 ?_; intros))
      exact WQ.roundOn (Hl := [.row (some a0) c2 44 3 _, .blk bl _]) (fun w h => h.sublist (by repeat (first | exact List.Sublist.refl _ | apply List.Sublist.cons_cons | apply List.Sublist.cons))) (Mem.le.refl _) ⟨some a0, c2, by rw [hsn]; simp [Pt.cs]⟩
    · have h1 : (ys ++ [q]).length = ys.length + 1 := by simp
      have h2 : ((ys ++ [q]).map Pt.cs).length = ys.length + 1 := by simp
      have hg : ((ys ++ [q]).map Pt.cs)[(ys ++ [q]).length - 1]? = some q.cs := by simp
      refine WC.rowSome (a := a) (by (repeat (first | exact List.Mem.head _ | apply List.Mem.tail))) (by omega) ?_
      rintro a0 rfl
      cases hq : (q.b == x.b) with
      | true =>
        have hc : (!(q.b == x.b)) = false := by rw [hq]; rfl
        rw [addPart_eq (by simpa using hq)] at hsn
        (try (refine st_R13_1 ?_; intros))
        exact WQ.roundOn (Hl := [.row (some a0) cap 44 3 _, .blk bl _]) (fun w h => h.sublist (by repeat (first | exact List.Sublist.refl _ | apply List.Sublist.cons_cons | apply List.Sublist.cons))) (Mem.le.refl _) ⟨some a0, cap, by rw [hsn]; simp [Pt.cs]⟩
      | false =>
        have hc : (!(q.b == x.b)) = true := by rw [hq]; rfl
        rw [addPart_ne (by simpa using hq)] at hsn
        (refine st_R13_1 ?_; intros; rename_i a2 c2)
        refine WL.rowSome (a := a2) (by (repeat (first | exact List.Mem.head _ | apply List.Mem.tail))) (by simp) ?_
        rintro a0 rfl
        have hg : ((ys ++ [q]).map Pt.cs ++ [[Value.int .i64 (x.at_ : Int), .int .i64 0, .bool x.b]])[((ys ++ [q]).map Pt.cs).length + 1 - 1]? = some [Value.int .i64 (x.at_ : Int), .int .i64 0, .bool x.b] := by simp
        (try (refine st_R13_1 ?_; intros))
        exact WQ.roundOn (Hl := [.row (some a0) c2 44 3 _, .blk bl _]) (fun w h => h.sublist (by repeat (first | exact List.Sublist.refl _ | apply List.Sublist.cons_cons | apply List.Sublist.cons))) (Mem.le.refl _) ⟨some a0, c2, by rw [hsn]; simp [Pt.cs]⟩
  · intro D m' Hl hJ hm1
    obtain ⟨a, cap, rfl⟩ := hJ
    (try (refine st_R13_1 ?_; intros))
    refine WQ.mark List.perm_middle ?_
    refine q_fin1 (H0 := .row a cap 44 3 _ :: H) (hle.trans hm1) ⟨_, _, ?_, rfl, rfl⟩ (hd := (fun w h => h.sublist (by repeat (first | exact List.Sublist.refl _ | apply List.Sublist.cons_cons | apply List.Sublist.cons))))
    simp
  · intro D c pre m' Hl _ h _
    exact h.elim
end Go.Proofs.Ytdmdabjaboigcaa

/-
  The walks of the law's own comparisons, and of the reference's Broken and Parts. No condition.
-/
namespace Go.Proofs.Ytdmdabjaboigcaa
open Go Go.Eng
set_option maxRecDepth 100000
set_option maxHeartbeats 4000000
set_option linter.all false
attribute [local irreducible] WL WC WQ QFun QLoop Does Q1 QRound QAssign Go.Addr.add
def iI (k : Int) : List Value := [.int .i64 k]
theorem ints_same {a b : Option Addr} {ca cb : Nat} {es : List (List Value)} {w0 : World} {m : Mem} {H : SHeap} (hl : es.length ≤ 5000000000000) (hes : ∃ xs : List Int, es = xs.map iI) (ha : RowR w0 m H 1 a es) (hb : RowR w0 m H 1 b es) :
    Does Try.prog 25 #[.slice a es.length ca, .slice b es.length cb] w0 m H (Gives (.bool true) m H) := by
  obtain ⟨xs, rfl⟩ := hes
  refine Does.of_body (args := [.slice a (xs.map iI).length ca, .slice b (xs.map iI).length cb]) Try.func25 rfl Try.ntmps25 rfl ?_
  have hln : (xs.map iI).length = xs.length := by simp
  (try (refine st ?_; intros))
  refine WC.loopH [(13, .int .i64 ((0) : Int)), (12, .int .i64 ((xs.map iI).length : Int)), (0, .slice a (xs.map iI).length ca), (1, .slice b (xs.map iI).length cb)] ?_ ?_ (fun j r ds m' H' => ∃ i, j = xs.length - i ∧ r = [(13, .int .i64 (i : Int)), (12, .int .i64 ((xs.map iI).length : Int)), (0, .slice a (xs.map iI).length ca), (1, .slice b (xs.map iI).length cb)] ∧ ds = [] ∧ m = m' ∧ H' = H ∧ (i ≤ xs.length)) (xs.length - (0)) ⟨0, rfl, rfl, rfl, rfl, rfl, by omega⟩ ?_
  · (repeat (first | exact Env.Sub.nil | refine Env.Sub.cons rfl ?_))
  · exact (fun w h => Pick.sat (by iterate 60 (try (first | exact Pick.all | (apply Pick.take; (· (repeat (first | exact Out.here | apply Out.there)))) | apply Pick.drop))) h)
  rintro j r ds m' H' ⟨i, rfl, rfl, rfl, rfl, rfl, hi⟩
  by_cases hlt : i < xs.length
  · obtain ⟨x, hx, hget, htk, hmem, hdr⟩ := at_idx (f := iI) hlt
    have hpos : 0 < (xs.map iI).length := by simp; omega
    refine WC.rSome ha hpos ?_
    rintro a0 rfl
    refine WC.rSome hb hpos ?_
    rintro b0 rfl
    (try (refine st ?_; intros))
    refine WQ.next (xs.length - (i + 1)) ⟨i + 1, rfl, rfl, rfl, rfl, rfl, ?_⟩ (by omega) (by (repeat (first | exact Env.Sub.nil | refine Env.Sub.cons rfl ?_))) (fun w h => Pick.sat (by iterate 60 (try (first | exact Pick.all | (apply Pick.take; (· (repeat (first | exact Out.here | apply Out.there)))) | apply Pick.drop))) h)
    omega
  · (try (refine st ?_; intros))
    (refine q_fin0 ?_)
    exact Gives.mk rfl
theorem runes_same {a b : Option Addr} {ca cb : Nat} {es : List (List Value)} {w0 : World} {m : Mem} {H : SHeap} (hl : es.length ≤ 5000000000000) (hes : ∃ xs : List Nat, es = xs.map rV) (ha : RowR w0 m H 1 a es) (hb : RowR w0 m H 1 b es) :
    Does Try.prog 48 #[.slice a es.length ca, .slice b es.length cb] w0 m H (Gives (.bool true) m H) := by
  obtain ⟨xs, rfl⟩ := hes
  refine Does.of_body (args := [.slice a (xs.map rV).length ca, .slice b (xs.map rV).length cb]) Try.func48 rfl Try.ntmps48 rfl ?_
  have hln : (xs.map rV).length = xs.length := by simp
  (try (refine st ?_; intros))
  refine WC.loopH [(13, .int .i64 ((0) : Int)), (12, .int .i64 ((xs.map rV).length : Int)), (0, .slice a (xs.map rV).length ca), (1, .slice b (xs.map rV).length cb)] ?_ ?_ (fun j r ds m' H' => ∃ i, j = xs.length - i ∧ r = [(13, .int .i64 (i : Int)), (12, .int .i64 ((xs.map rV).length : Int)), (0, .slice a (xs.map rV).length ca), (1, .slice b (xs.map rV).length cb)] ∧ ds = [] ∧ m = m' ∧ H' = H ∧ (i ≤ xs.length)) (xs.length - (0)) ⟨0, rfl, rfl, rfl, rfl, rfl, by omega⟩ ?_
  · (repeat (first | exact Env.Sub.nil | refine Env.Sub.cons rfl ?_))
  · exact (fun w h => Pick.sat (by iterate 60 (try (first | exact Pick.all | (apply Pick.take; (· (repeat (first | exact Out.here | apply Out.there)))) | apply Pick.drop))) h)
  rintro j r ds m' H' ⟨i, rfl, rfl, rfl, rfl, rfl, hi⟩
  by_cases hlt : i < xs.length
  · obtain ⟨x, hx, hget, htk, hmem, hdr⟩ := at_idx (f := rV) hlt
    have hpos : 0 < (xs.map rV).length := by simp; omega
    refine WC.rSome ha hpos ?_
    rintro a0 rfl
    refine WC.rSome hb hpos ?_
    rintro b0 rfl
    (try (refine st ?_; intros))
    refine WQ.next (xs.length - (i + 1)) ⟨i + 1, rfl, rfl, rfl, rfl, rfl, ?_⟩ (by omega) (by (repeat (first | exact Env.Sub.nil | refine Env.Sub.cons rfl ?_))) (fun w h => Pick.sat (by iterate 60 (try (first | exact Pick.all | (apply Pick.take; (· (repeat (first | exact Out.here | apply Out.there)))) | apply Pick.drop))) h)
    omega
  · (try (refine st ?_; intros))
    (refine q_fin0 ?_)
    exact Gives.mk rfl
theorem eq_part (a b a' b' : Int) (d d' : Bool) : eqB Try.prog 8 44 (.agg #[.int .i64 a, .int .i64 b, .bool d]) (.agg #[.int .i64 a', .int .i64 b', .bool d']) = some ((a == a' && (b == b' && true)) && (d == d' && true)) := by kernel_rfl
theorem eq_part_same (p : Pt) : eqB Try.prog 8 44 (.agg p.cs.toArray) (.agg p.cs.toArray) = some true := (eq_part _ _ _ _ _ _).trans (by simp)
theorem eq_piece_same (p : Pc) : eqB Try.prog 8 24 (.agg p.cs.toArray) (.agg p.cs.toArray) = some true := (eq_piece _ _ _ _ _ _ _ _).trans (by rw [dcd_true ⟨rfl, rfl, rfl, rfl⟩])
theorem sq_R14_1 {G : Prop} (h : G := by (repeat (first | (refine sp ?_; (repeat intro zzc)) | (refine iB_eql rfl ?_; refine w_eqlV ?_ (he := eq_part_same _)) | (refine iB_neq rfl ?_; refine w_neqV ?_ (he := eq_part_same _)))); exact WQ.q1 rfl) : G := h
theorem st_R14_1 {G G' : Prop} (next : G') (h : Bx G' → G := by intro zzn; (first | ((refine st ?_; (repeat intro zzc)); (try ((first | (refine iB_eql rfl ?_; refine w_eqlV ?_ (he := eq_part_same _)) | (refine iB_neq rfl ?_; refine w_neqV ?_ (he := eq_part_same _)) | ((refine iDraw ?_; (first | refine WC.drawAll rfl (by decide +kernel) ?_ | refine WC.draw 1 rfl (by decide +kernel) ?_ | refine WC.draw 2 rfl (by decide +kernel) ?_ | refine WC.draw 3 rfl (by decide +kernel) ?_ | refine WC.draw 4 rfl (by decide +kernel) ?_ | refine WC.draw 5 rfl (by decide +kernel) ?_ | refine WC.draw 6 rfl (by decide +kernel) ?_ | refine WC.draw 7 rfl (by decide +kernel) ?_ | refine WC.draw 8 rfl (by decide +kernel) ?_ | refine WC.draw 9 rfl (by decide +kernel) ?_ | refine WC.draw 10 rfl (by decide +kernel) ?_ | refine WC.draw 11 rfl (by decide +kernel) ?_ | refine WC.draw 12 rfl (by decide +kernel) ?_ | refine WC.draw 13 rfl (by decide +kernel) ?_ | refine WC.draw 14 rfl (by decide +kernel) ?_ | refine WC.draw 15 rfl (by decide +kernel) ?_ | refine WC.draw 16 rfl (by decide +kernel) ?_ | refine WC.draw 17 rfl (by decide +kernel) ?_ | refine WC.draw 18 rfl (by decide +kernel) ?_ | refine WC.draw 19 rfl (by decide +kernel) ?_ | refine WC.draw 20 rfl (by decide +kernel) ?_ | refine WC.draw 21 rfl (by decide +kernel) ?_ | refine WC.draw 22 rfl (by decide +kernel) ?_ | refine WC.draw 23 rfl (by decide +kernel) ?_ | refine WC.draw 24 rfl (by decide +kernel) ?_)); (repeat (refine WD.cons rfl (fun c h => by cases h) sq_R14_1 ?_)); refine WD.nil ?_)); (try (refine st ?_; (repeat intro zzc)))))) | ((first | (refine iB_eql rfl ?_; refine w_eqlV ?_ (he := eq_part_same _)) | (refine iB_neq rfl ?_; refine w_neqV ?_ (he := eq_part_same _)) | ((refine iDraw ?_; (first | refine WC.drawAll rfl (by decide +kernel) ?_ | refine WC.draw 1 rfl (by decide +kernel) ?_ | refine WC.draw 2 rfl (by decide +kernel) ?_ | refine WC.draw 3 rfl (by decide +kernel) ?_ | refine WC.draw 4 rfl (by decide +kernel) ?_ | refine WC.draw 5 rfl (by decide +kernel) ?_ | refine WC.draw 6 rfl (by decide +kernel) ?_ | refine WC.draw 7 rfl (by decide +kernel) ?_ | refine WC.draw 8 rfl (by decide +kernel) ?_ | refine WC.draw 9 rfl (by decide +kernel) ?_ | refine WC.draw 10 rfl (by decide +kernel) ?_ | refine WC.draw 11 rfl (by decide +kernel) ?_ | refine WC.draw 12 rfl (by decide +kernel) ?_ | refine WC.draw 13 rfl (by decide +kernel) ?_ | refine WC.draw 14 rfl (by decide +kernel) ?_ | refine WC.draw 15 rfl (by decide +kernel) ?_ | refine WC.draw 16 rfl (by decide +kernel) ?_ | refine WC.draw 17 rfl (by decide +kernel) ?_ | refine WC.draw 18 rfl (by decide +kernel) ?_ | refine WC.draw 19 rfl (by decide +kernel) ?_ | refine WC.draw 20 rfl (by decide +kernel) ?_ | refine WC.draw 21 rfl (by decide +kernel) ?_ | refine WC.draw 22 rfl (by decide +kernel) ?_ | refine WC.draw 23 rfl (by decide +kernel) ?_ | refine WC.draw 24 rfl (by decide +kernel) ?_)); (repeat (refine WD.cons rfl (fun c h => by cases h) sq_R14_1 ?_)); refine WD.nil ?_)); (try (refine st ?_; (repeat intro zzc))))); (repeat ((first | (refine iB_eql rfl ?_; refine w_eqlV ?_ (he := eq_part_same _)) | (refine iB_neq rfl ?_; refine w_neqV ?_ (he := eq_part_same _)) | ((refine iDraw ?_; (first | refine WC.drawAll rfl (by decide +kernel) ?_ | refine WC.draw 1 rfl (by decide +kernel) ?_ | refine WC.draw 2 rfl (by decide +kernel) ?_ | refine WC.draw 3 rfl (by decide +kernel) ?_ | refine WC.draw 4 rfl (by decide +kernel) ?_ | refine WC.draw 5 rfl (by decide +kernel) ?_ | refine WC.draw 6 rfl (by decide +kernel) ?_ | refine WC.draw 7 rfl (by decide +kernel) ?_ | refine WC.draw 8 rfl (by decide +kernel) ?_ | refine WC.draw 9 rfl (by decide +kernel) ?_ | refine WC.draw 10 rfl (by decide +kernel) ?_ | refine WC.draw 11 rfl (by decide +kernel) ?_ | refine WC.draw 12 rfl (by decide +kernel) ?_ | refine WC.draw 13 rfl (by decide +kernel) ?_ | refine WC.draw 14 rfl (by decide +kernel) ?_ | refine WC.draw 15 rfl (by decide +kernel) ?_ | refine WC.draw 16 rfl (by decide +kernel) ?_ | refine WC.draw 17 rfl (by decide +kernel) ?_ | refine WC.draw 18 rfl (by decide +kernel) ?_ | refine WC.draw 19 rfl (by decide +kernel) ?_ | refine WC.draw 20 rfl (by decide +kernel) ?_ | refine WC.draw 21 rfl (by decide +kernel) ?_ | refine WC.draw 22 rfl (by decide +kernel) ?_ | refine WC.draw 23 rfl (by decide +kernel) ?_ | refine WC.draw 24 rfl (by decide +kernel) ?_)); (repeat (refine WD.cons rfl (fun c h => by cases h) sq_R14_1 ?_)); refine WD.nil ?_)); (try (refine st ?_; (repeat intro zzc))))); (repeat revert zzc); exact zzn.out) : G := h ⟨next⟩
theorem parts_same {a b : Option Addr} {ca cb : Nat} {es : List (List Value)} {w0 : World} {m : Mem} {H : SHeap} (hl : es.length ≤ 5000000000000) (hes : ∃ xs : List Pt, es = xs.map Pt.cs) (ha : RowR w0 m H 3 a es) (hb : RowR w0 m H 3 b es) :
    Does Try.prog 26 #[.slice a es.length ca, .slice b es.length cb] w0 m H (Gives (.bool true) m H) := by
  obtain ⟨xs, rfl⟩ := hes
  refine Does.of_body (args := [.slice a (xs.map Pt.cs).length ca, .slice b (xs.map Pt.cs).length cb]) Try.func26 rfl Try.ntmps26 rfl ?_
  have hln : (xs.map Pt.cs).length = xs.length := by simp
  (try (refine st_R14_1 ?_; intros))
  refine WC.loopH [(13, .int .i64 ((0) : Int)), (12, .int .i64 ((xs.map Pt.cs).length : Int)), (0, .slice a (xs.map Pt.cs).length ca), (1, .slice b (xs.map Pt.cs).length cb)] ?_ ?_ (fun j r ds m' H' => ∃ i, j = xs.length - i ∧ r = [(13, .int .i64 (i : Int)), (12, .int .i64 ((xs.map Pt.cs).length : Int)), (0, .slice a (xs.map Pt.cs).length ca), (1, .slice b (xs.map Pt.cs).length cb)] ∧ ds = [] ∧ m = m' ∧ H' = H ∧ (i ≤ xs.length)) (xs.length - (0)) ⟨0, rfl, rfl, rfl, rfl, rfl, by omega⟩ ?_
  · (repeat (first | exact Env.Sub.nil | refine Env.Sub.cons rfl ?_))
  · exact (fun w h => Pick.sat (by iterate 60 (try (first | exact Pick.all | (apply Pick.take; (· (repeat (first | exact Out.here | apply Out.there)))) | apply Pick.drop))) h)
  rintro j r ds m' H' ⟨i, rfl, rfl, rfl, rfl, rfl, hi⟩
  by_cases hlt : i < xs.length
  · obtain ⟨x, hx, hget, htk, hmem, hdr⟩ := at_idx (f := Pt.cs) hlt
    have hpos : 0 < (xs.map Pt.cs).length := by simp; omega
    refine WC.rSome ha hpos ?_
    rintro a0 rfl
    refine WC.rSome hb hpos ?_
    rintro b0 rfl
    (try (refine st_R14_1 ?_; intros))
    refine WQ.next (xs.length - (i + 1)) ⟨i + 1, rfl, rfl, rfl, rfl, rfl, ?_⟩ (by omega) (by (repeat (first | exact Env.Sub.nil | refine Env.Sub.cons rfl ?_))) (fun w h => Pick.sat (by iterate 60 (try (first | exact Pick.all | (apply Pick.take; (· (repeat (first | exact Out.here | apply Out.there)))) | apply Pick.drop))) h)
    omega
  · (try (refine st_R14_1 ?_; intros))
    (refine q_fin0 ?_)
    exact Gives.mk rfl
theorem sq_R14_2 {G : Prop} (h : G := by (repeat (first | (refine sp ?_; (repeat intro zzc)) | (refine iB_eql rfl ?_; refine w_eqlV ?_ (he := eq_piece_same _)) | (refine iB_neq rfl ?_; refine w_neqV ?_ (he := eq_piece_same _)))); exact WQ.q1 rfl) : G := h
theorem st_R14_2 {G G' : Prop} (next : G') (h : Bx G' → G := by intro zzn; (first | ((refine st ?_; (repeat intro zzc)); (try ((first | (refine iB_eql rfl ?_; refine w_eqlV ?_ (he := eq_piece_same _)) | (refine iB_neq rfl ?_; refine w_neqV ?_ (he := eq_piece_same _)) | ((refine iDraw ?_; (first | refine WC.drawAll rfl (by decide +kernel) ?_ | refine WC.draw 1 rfl (by decide +kernel) ?_ | refine WC.draw 2 rfl (by decide +kernel) ?_ | refine WC.draw 3 rfl (by decide +kernel) ?_ | refine WC.draw 4 rfl (by decide +kernel) ?_ | refine WC.draw 5 rfl (by decide +kernel) ?_ | refine WC.draw 6 rfl (by decide +kernel) ?_ | refine WC.draw 7 rfl (by decide +kernel) ?_ | refine WC.draw 8 rfl (by decide +kernel) ?_ | refine WC.draw 9 rfl (by decide +kernel) ?_ | refine WC.draw 10 rfl (by decide +kernel) ?_ | refine WC.draw 11 rfl (by decide +kernel) ?_ | refine WC.draw 12 rfl (by decide +kernel) ?_ | refine WC.draw 13 rfl (by decide +kernel) ?_ | refine WC.draw 14 rfl (by decide +kernel) ?_ | refine WC.draw 15 rfl (by decide +kernel) ?_ | refine WC.draw 16 rfl (by decide +kernel) ?_ | refine WC.draw 17 rfl (by decide +kernel) ?_ | refine WC.draw 18 rfl (by decide +kernel) ?_ | refine WC.draw 19 rfl (by decide +kernel) ?_ | refine WC.draw 20 rfl (by decide +kernel) ?_ | refine WC.draw 21 rfl (by decide +kernel) ?_ | refine WC.draw 22 rfl (by decide +kernel) ?_ | refine WC.draw 23 rfl (by decide +kernel) ?_ | refine WC.draw 24 rfl (by decide +kernel) ?_)); (repeat (refine WD.cons rfl (fun c h => by cases h) sq_R14_2 ?_)); refine WD.nil ?_)); (try (refine st ?_; (repeat intro zzc)))))) | ((first | (refine iB_eql rfl ?_; refine w_eqlV ?_ (he := eq_piece_same _)) | (refine iB_neq rfl ?_; refine w_neqV ?_ (he := eq_piece_same _)) | ((refine iDraw ?_; (first | refine WC.drawAll rfl (by decide +kernel) ?_ | refine WC.draw 1 rfl (by decide +kernel) ?_ | refine WC.draw 2 rfl (by decide +kernel) ?_ | refine WC.draw 3 rfl (by decide +kernel) ?_ | refine WC.draw 4 rfl (by decide +kernel) ?_ | refine WC.draw 5 rfl (by decide +kernel) ?_ | refine WC.draw 6 rfl (by decide +kernel) ?_ | refine WC.draw 7 rfl (by decide +kernel) ?_ | refine WC.draw 8 rfl (by decide +kernel) ?_ | refine WC.draw 9 rfl (by decide +kernel) ?_ | refine WC.draw 10 rfl (by decide +kernel) ?_ | refine WC.draw 11 rfl (by decide +kernel) ?_ | refine WC.draw 12 rfl (by decide +kernel) ?_ | refine WC.draw 13 rfl (by decide +kernel) ?_ | refine WC.draw 14 rfl (by decide +kernel) ?_ | refine WC.draw 15 rfl (by decide +kernel) ?_ | refine WC.draw 16 rfl (by decide +kernel) ?_ | refine WC.draw 17 rfl (by decide +kernel) ?_ | refine WC.draw 18 rfl (by decide +kernel) ?_ | refine WC.draw 19 rfl (by decide +kernel) ?_ | refine WC.draw 20 rfl (by decide +kernel) ?_ | refine WC.draw 21 rfl (by decide +kernel) ?_ | refine WC.draw 22 rfl (by decide +kernel) ?_ | refine WC.draw 23 rfl (by decide +kernel) ?_ | refine WC.draw 24 rfl (by decide +kernel) ?_)); (repeat (refine WD.cons rfl (fun c h => by cases h) sq_R14_2 ?_)); refine WD.nil ?_)); (try (refine st ?_; (repeat intro zzc))))); (repeat ((first | (refine iB_eql rfl ?_; refine w_eqlV ?_ (he := eq_piece_same _)) | (refine iB_neq rfl ?_; refine w_neqV ?_ (he := eq_piece_same _)) | ((refine iDraw ?_; (first | refine WC.drawAll rfl (by decide +kernel) ?_ | refine WC.draw 1 rfl (by decide +kernel) ?_ | refine WC.draw 2 rfl (by decide +kernel) ?_ | refine WC.draw 3 rfl (by decide +kernel) ?_ | refine WC.draw 4 rfl (by decide +kernel) ?_ | refine WC.draw 5 rfl (by decide +kernel) ?_ | refine WC.draw 6 rfl (by decide +kernel) ?_ | refine WC.draw 7 rfl (by decide +kernel) ?_ | refine WC.draw 8 rfl (by decide +kernel) ?_ | refine WC.draw 9 rfl (by decide +kernel) ?_ | refine WC.draw 10 rfl (by decide +kernel) ?_ | refine WC.draw 11 rfl (by decide +kernel) ?_ | refine WC.draw 12 rfl (by decide +kernel) ?_ | refine WC.draw 13 rfl (by decide +kernel) ?_ | refine WC.draw 14 rfl (by decide +kernel) ?_ | refine WC.draw 15 rfl (by decide +kernel) ?_ | refine WC.draw 16 rfl (by decide +kernel) ?_ | refine WC.draw 17 rfl (by decide +kernel) ?_ | refine WC.draw 18 rfl (by decide +kernel) ?_ | refine WC.draw 19 rfl (by decide +kernel) ?_ | refine WC.draw 20 rfl (by decide +kernel) ?_ | refine WC.draw 21 rfl (by decide +kernel) ?_ | refine WC.draw 22 rfl (by decide +kernel) ?_ | refine WC.draw 23 rfl (by decide +kernel) ?_ | refine WC.draw 24 rfl (by decide +kernel) ?_)); (repeat (refine WD.cons rfl (fun c h => by cases h) sq_R14_2 ?_)); refine WD.nil ?_)); (try (refine st ?_; (repeat intro zzc))))); (repeat revert zzc); exact zzn.out) : G := h ⟨next⟩
theorem pieces_same {a b : Option Addr} {ca cb : Nat} {es : List (List Value)} {w0 : World} {m : Mem} {H : SHeap} (hl : es.length ≤ 5000000000000) (hes : ∃ xs : List Pc, es = xs.map Pc.cs) (ha : RowR w0 m H 4 a es) (hb : RowR w0 m H 4 b es) :
    Does Try.prog 64 #[.slice a es.length ca, .slice b es.length cb] w0 m H (Gives (.bool true) m H) := by
  obtain ⟨xs, rfl⟩ := hes
  refine Does.of_body (args := [.slice a (xs.map Pc.cs).length ca, .slice b (xs.map Pc.cs).length cb]) Try.func64 rfl Try.ntmps64 rfl ?_
  have hln : (xs.map Pc.cs).length = xs.length := by simp
  (try (refine st_R14_2 ?_; intros))
  refine WC.loopH [(13, .int .i64 ((0) : Int)), (12, .int .i64 ((xs.map Pc.cs).length : Int)), (0, .slice a (xs.map Pc.cs).length ca), (1, .slice b (xs.map Pc.cs).length cb)] ?_ ?_ (fun j r ds m' H' => ∃ i, j = xs.length - i ∧ r = [(13, .int .i64 (i : Int)), (12, .int .i64 ((xs.map Pc.cs).length : Int)), (0, .slice a (xs.map Pc.cs).length ca), (1, .slice b (xs.map Pc.cs).length cb)] ∧ ds = [] ∧ m = m' ∧ H' = H ∧ (i ≤ xs.length)) (xs.length - (0)) ⟨0, rfl, rfl, rfl, rfl, rfl, by omega⟩ ?_
  · (repeat (first | exact Env.Sub.nil | refine Env.Sub.cons rfl ?_))
  · exact (fun w h => Pick.sat (by iterate 60 (try (first | exact Pick.all | (apply Pick.take; (· (repeat (first | exact Out.here | apply Out.there)))) | apply Pick.drop))) h)
  rintro j r ds m' H' ⟨i, rfl, rfl, rfl, rfl, rfl, hi⟩
  by_cases hlt : i < xs.length
  · obtain ⟨x, hx, hget, htk, hmem, hdr⟩ := at_idx (f := Pc.cs) hlt
    have hpos : 0 < (xs.map Pc.cs).length := by simp; omega
    refine WC.rSome ha hpos ?_
    rintro a0 rfl
    refine WC.rSome hb hpos ?_
    rintro b0 rfl
    (try (refine st_R14_2 ?_; intros))
    refine WQ.next (xs.length - (i + 1)) ⟨i + 1, rfl, rfl, rfl, rfl, rfl, ?_⟩ (by omega) (by (repeat (first | exact Env.Sub.nil | refine Env.Sub.cons rfl ?_))) (fun w h => Pick.sat (by iterate 60 (try (first | exact Pick.all | (apply Pick.take; (· (repeat (first | exact Out.here | apply Out.there)))) | apply Pick.drop))) h)
    omega
  · (try (refine st_R14_2 ?_; intros))
    (refine q_fin0 ?_)
    exact Gives.mk rfl
theorem sq_R14_3 {G : Prop} (h : G := by (repeat (first | (refine sp ?_; (repeat intro zzc)))); exact WQ.q1 rfl) : G := h
theorem st_R14_3 {G G' : Prop} (next : G') (h : Bx G' → G := by intro zzn; (first | ((refine st ?_; (repeat intro zzc)); (try ((first | ((refine iDraw ?_; (first | refine WC.drawAll rfl (by decide +kernel) ?_ | refine WC.draw 1 rfl (by decide +kernel) ?_ | refine WC.draw 2 rfl (by decide +kernel) ?_ | refine WC.draw 3 rfl (by decide +kernel) ?_ | refine WC.draw 4 rfl (by decide +kernel) ?_ | refine WC.draw 5 rfl (by decide +kernel) ?_ | refine WC.draw 6 rfl (by decide +kernel) ?_ | refine WC.draw 7 rfl (by decide +kernel) ?_ | refine WC.draw 8 rfl (by decide +kernel) ?_ | refine WC.draw 9 rfl (by decide +kernel) ?_ | refine WC.draw 10 rfl (by decide +kernel) ?_ | refine WC.draw 11 rfl (by decide +kernel) ?_ | refine WC.draw 12 rfl (by decide +kernel) ?_ | refine WC.draw 13 rfl (by decide +kernel) ?_ | refine WC.draw 14 rfl (by decide +kernel) ?_ | refine WC.draw 15 rfl (by decide +kernel) ?_ | refine WC.draw 16 rfl (by decide +kernel) ?_ | refine WC.draw 17 rfl (by decide +kernel) ?_ | refine WC.draw 18 rfl (by decide +kernel) ?_ | refine WC.draw 19 rfl (by decide +kernel) ?_ | refine WC.draw 20 rfl (by decide +kernel) ?_ | refine WC.draw 21 rfl (by decide +kernel) ?_ | refine WC.draw 22 rfl (by decide +kernel) ?_ | refine WC.draw 23 rfl (by decide +kernel) ?_ | refine WC.draw 24 rfl (by decide +kernel) ?_)); (repeat (refine WD.cons rfl (fun c h => by cases h) sq_R14_3 ?_)); refine WD.nil ?_)); (try (refine st ?_; (repeat intro zzc)))))) | ((first | ((refine iDraw ?_; (first | refine WC.drawAll rfl (by decide +kernel) ?_ | refine WC.draw 1 rfl (by decide +kernel) ?_ | refine WC.draw 2 rfl (by decide +kernel) ?_ | refine WC.draw 3 rfl (by decide +kernel) ?_ | refine WC.draw 4 rfl (by decide +kernel) ?_ | refine WC.draw 5 rfl (by decide +kernel) ?_ | refine WC.draw 6 rfl (by decide +kernel) ?_ | refine WC.draw 7 rfl (by decide +kernel) ?_ | refine WC.draw 8 rfl (by decide +kernel) ?_ | refine WC.draw 9 rfl (by decide +kernel) ?_ | refine WC.draw 10 rfl (by decide +kernel) ?_ | refine WC.draw 11 rfl (by decide +kernel) ?_ | refine WC.draw 12 rfl (by decide +kernel) ?_ | refine WC.draw 13 rfl (by decide +kernel) ?_ | refine WC.draw 14 rfl (by decide +kernel) ?_ | refine WC.draw 15 rfl (by decide +kernel) ?_ | refine WC.draw 16 rfl (by decide +kernel) ?_ | refine WC.draw 17 rfl (by decide +kernel) ?_ | refine WC.draw 18 rfl (by decide +kernel) ?_ | refine WC.draw 19 rfl (by decide +kernel) ?_ | refine WC.draw 20 rfl (by decide +kernel) ?_ | refine WC.draw 21 rfl (by decide +kernel) ?_ | refine WC.draw 22 rfl (by decide +kernel) ?_ | refine WC.draw 23 rfl (by decide +kernel) ?_ | refine WC.draw 24 rfl (by decide +kernel) ?_)); (repeat (refine WD.cons rfl (fun c h => by cases h) sq_R14_3 ?_)); refine WD.nil ?_)); (try (refine st ?_; (repeat intro zzc))))); (repeat ((first | ((refine iDraw ?_; (first | refine WC.drawAll rfl (by decide +kernel) ?_ | refine WC.draw 1 rfl (by decide +kernel) ?_ | refine WC.draw 2 rfl (by decide +kernel) ?_ | refine WC.draw 3 rfl (by decide +kernel) ?_ | refine WC.draw 4 rfl (by decide +kernel) ?_ | refine WC.draw 5 rfl (by decide +kernel) ?_ | refine WC.draw 6 rfl (by decide +kernel) ?_ | refine WC.draw 7 rfl (by decide +kernel) ?_ | refine WC.draw 8 rfl (by decide +kernel) ?_ | refine WC.draw 9 rfl (by decide +kernel) ?_ | refine WC.draw 10 rfl (by decide +kernel) ?_ | refine WC.draw 11 rfl (by decide +kernel) ?_ | refine WC.draw 12 rfl (by decide +kernel) ?_ | refine WC.draw 13 rfl (by decide +kernel) ?_ | refine WC.draw 14 rfl (by decide +kernel) ?_ | refine WC.draw 15 rfl (by decide +kernel) ?_ | refine WC.draw 16 rfl (by decide +kernel) ?_ | refine WC.draw 17 rfl (by decide +kernel) ?_ | refine WC.draw 18 rfl (by decide +kernel) ?_ | refine WC.draw 19 rfl (by decide +kernel) ?_ | refine WC.draw 20 rfl (by decide +kernel) ?_ | refine WC.draw 21 rfl (by decide +kernel) ?_ | refine WC.draw 22 rfl (by decide +kernel) ?_ | refine WC.draw 23 rfl (by decide +kernel) ?_ | refine WC.draw 24 rfl (by decide +kernel) ?_)); (repeat (refine WD.cons rfl (fun c h => by cases h) sq_R14_3 ?_)); refine WD.nil ?_)); (try (refine st ?_; (repeat intro zzc))))); (repeat revert zzc); exact zzn.out) : G := h ⟨next⟩
theorem refBroken_any (l : List UInt8) (hl : l.length ≤ 5000000000000) (w0 : World) (m : Mem) (H : SHeap) :
    Does Try.prog 20 #[str l] w0 m H (MakesRow 3 1 ((brokenOf (pieces l)).map iV) m H) := by
  refine Does.of_body (args := [str l]) Try.func20 rfl Try.ntmps20 rfl ?_
  have hpl := pieces_length l
  (try (refine st_R14_3 ?_; intros))
  refine w_callF Try.func19 ?_ (hs := refPieces_any _ hl _ _ _)
  rintro _ m H1 ⟨a, cap, rfl, rfl, rfl⟩
  have hpm : ((pieces l).map Pc.cs).length = (pieces l).length := by simp
  (try (refine st_R14_3 ?_; intros))
  refine WC.newRow (T := 3) (sz := 1) ?_
  refine WC.loopH [(9, .int .i64 ((0) : Int)), (8, .int .i64 (((pieces l).map Pc.cs).length : Int)), (7, .slice a ((pieces l).map Pc.cs).length cap), (3, .slice (none) (0) (0))] ?_ ?_ (fun j r ds m' H' => ∃ i a3 cap3 k es, j = (pieces l).length - i ∧ r = [(9, .int .i64 (i : Int)), (8, .int .i64 (((pieces l).map Pc.cs).length : Int)), (7, .slice a ((pieces l).map Pc.cs).length cap), (3, .slice a3 k cap3)] ∧ ds = [] ∧ m = m' ∧ H' = .row a3 cap3 3 1 es :: .row a cap 24 4 ((pieces l).map Pc.cs) :: H ∧ (i ≤ (pieces l).length) ∧ (k = es.length) ∧ (es = (brokenOf ((pieces l).take i)).map iV)) ((pieces l).length - (0)) ⟨0, none, 0, 0, [], rfl, rfl, rfl, rfl, rfl, by omega, rfl, rfl⟩ ?_
  · (repeat (first | exact Env.Sub.nil | refine Env.Sub.cons rfl ?_))
  · exact (fun w h => Pick.sat (by iterate 60 (try (first | exact Pick.all | (apply Pick.take; (· (repeat (first | exact Out.here | apply Out.there)))) | apply Pick.drop))) h)
  rintro j r ds m' H' ⟨i, a3, cap3, k, es, rfl, rfl, rfl, rfl, rfl, hi, rfl, hes⟩
  have hbl := brokenOf_length ((pieces l).take i)
  have hbm : es.length = (brokenOf ((pieces l).take i)).length := by simp [hes]
  have htl : ((pieces l).take i).length ≤ i := by simp; omega
  by_cases hlt : i < (pieces l).length
  · obtain ⟨x, hx, hget, htk, hmem, hdr⟩ := at_idx (f := Pc.cs) hlt
    have hsn := brokenOf_snoc ((pieces l).take i) x
    rw [← htk] at hsn
    refine WC.rowSome (a := a) (by (repeat (first | exact List.Mem.head _ | apply List.Mem.tail))) (by omega) ?_
    rintro a0 rfl
    cases hb : x.b with
    | true =>
      (refine st_R14_3 ?_; intros; rename_i ak ck)
      refine WQ.next ((pieces l).length - (i + 1)) ⟨i + 1, ak, ck, _, _, rfl, rfl, rfl, rfl, rfl, ?_, ?_, ?_⟩ (by omega) (by (repeat (first | exact Env.Sub.nil | refine Env.Sub.cons rfl ?_))) (fun w h => Pick.sat (by iterate 60 (try (first | exact Pick.all | (apply Pick.take; (· (repeat (first | exact Out.here | apply Out.there)))) | apply Pick.drop))) h)
      · omega
      · simp
      · simp [hsn, hb, hes, iV]
    | false =>
      (try (refine st_R14_3 ?_; intros))
      refine WQ.next ((pieces l).length - (i + 1)) ⟨i + 1, a3, cap3, _, _, rfl, rfl, rfl, rfl, rfl, ?_, ?_, ?_⟩ (by omega) (by (repeat (first | exact Env.Sub.nil | refine Env.Sub.cons rfl ?_))) (fun w h => Pick.sat (by iterate 60 (try (first | exact Pick.all | (apply Pick.take; (· (repeat (first | exact Out.here | apply Out.there)))) | apply Pick.drop))) h)
      · omega
      · rfl
      · simp [hsn, hb, hes]
  · obtain rfl : i = (pieces l).length := by omega
    rw [List.take_length] at *
    (try (refine st_R14_3 ?_; intros))
    refine q_fin0 (H0 := .row a3 cap3 3 1 _ :: H) ⟨a3, cap3, ?_, rfl, ?_⟩ (hd := (fun w h => h.sublist (by repeat (first | exact List.Sublist.refl _ | apply List.Sublist.cons_cons | apply List.Sublist.cons))))
    · rw [hes]
    · rw [hes]
theorem refParts_any (l : List UInt8) (hl : l.length ≤ 5000000000000) (w0 : World) (m : Mem) (H : SHeap) :
    Does Try.prog 27 #[str l] w0 m H (MakesRow 44 3 ((partsOf (pieces l)).map Pt.cs) m H) := by
  refine Does.of_body (args := [str l]) Try.func27 rfl Try.ntmps27 rfl ?_
  have hpl := pieces_length l
  (try (refine st_R14_3 ?_; intros))
  refine w_callF Try.func19 ?_ (hs := refPieces_any _ hl _ _ _)
  rintro _ m H1 ⟨a, cap, rfl, rfl, rfl⟩
  have hpm : ((pieces l).map Pc.cs).length = (pieces l).length := by simp
  (try (refine st_R14_3 ?_; intros))
  refine WC.newRow (T := 44) (sz := 3) ?_
  refine WC.loopH [(10, .int .i64 ((0) : Int)), (9, .int .i64 (((pieces l).map Pc.cs).length : Int)), (8, .slice a ((pieces l).map Pc.cs).length cap), (3, .slice (none) (0) (0))] ?_ ?_ (fun j r ds m' H' => ∃ i a3 cap3 k es, j = (pieces l).length - i ∧ r = [(10, .int .i64 (i : Int)), (9, .int .i64 (((pieces l).map Pc.cs).length : Int)), (8, .slice a ((pieces l).map Pc.cs).length cap), (3, .slice a3 k cap3)] ∧ ds = [] ∧ m = m' ∧ H' = .row a3 cap3 44 3 es :: .row a cap 24 4 ((pieces l).map Pc.cs) :: H ∧ (i ≤ (pieces l).length) ∧ (k = es.length) ∧ (es = (partsOf ((pieces l).take i)).map Pt.cs)) ((pieces l).length - (0)) ⟨0, none, 0, 0, [], rfl, rfl, rfl, rfl, rfl, by omega, rfl, rfl⟩ ?_
  · (repeat (first | exact Env.Sub.nil | refine Env.Sub.cons rfl ?_))
  · exact (fun w h => Pick.sat (by iterate 60 (try (first | exact Pick.all | (apply Pick.take; (· (repeat (first | exact Out.here | apply Out.there)))) | apply Pick.drop))) h)
  rintro j r ds m' H' ⟨i, a3, cap3, k, es, rfl, rfl, rfl, rfl, rfl, hi, rfl, hes⟩
  have hbl := partsOf_length ((pieces l).take i)
  have htl : ((pieces l).take i).length ≤ i := by simp; omega
  by_cases hlt : i < (pieces l).length
  · obtain ⟨x, hx, hget, htk, hmem, hdr⟩ := at_idx (f := Pc.cs) hlt
    obtain ⟨hx1, hx2, hx3⟩ : x.at_ < l.length ∧ x.w ≤ 4 ∧ 1 ≤ x.w := by
      have := pieces_split (l := l) (pre := (pieces l).take i) (p := x) (post := (pieces l).drop (i + 1)) (by rw [← hdr, List.take_append_drop])
      have h2 := readP_w this.1
      rw [← this.2.1] at h2
      omega
    have hsn := partsOf_snoc ((pieces l).take i) x
    rw [← htk] at hsn
    generalize partsOf ((pieces l).take i) = acc at hbl hsn hes
    subst hes
    refine WC.rowSome (a := a) (by (repeat (first | exact List.Mem.head _ | apply List.Mem.tail))) (by omega) ?_
    rintro a0 rfl
    rcases nil_or_snoc acc with rfl | ⟨ys, q, rfl⟩
    · rw [addPart_nil] at hsn
      have h0 : (([] : List Pt).map Pt.cs).length = 0 := rfl
      (refine st_R14_3 ?_; intros; rename_i ak ck)
      refine WQ.next ((pieces l).length - (i + 1)) ⟨i + 1, ak, ck, _, _, rfl, rfl, rfl, rfl, rfl, ?_, ?_, ?_⟩ (by omega) (by (repeat (first | exact Env.Sub.nil | refine Env.Sub.cons rfl ?_))) (fun w h => Pick.sat (by iterate 60 (try (first | exact Pick.all | (apply Pick.take; (· (repeat (first | exact Out.here | apply Out.there)))) | apply Pick.drop))) h)
      · omega
      · simp
      · simp [hsn, Pt.cs]
    · have h1 : (ys ++ [q]).length = ys.length + 1 := by simp
      have h2 : ((ys ++ [q]).map Pt.cs).length = ys.length + 1 := by simp
      have hg : ((ys ++ [q]).map Pt.cs)[((ys ++ [q]).map Pt.cs).length - 1]? = some q.cs := by simp
      refine WC.rowSome (a := a3) (by (repeat (first | exact List.Mem.head _ | apply List.Mem.tail))) (by omega) ?_
      rintro a4 rfl
      cases hq : (q.b == x.b) with
      | true =>
        rw [addPart_eq (by simpa using hq)] at hsn
        (try (refine st_R14_3 ?_; intros))
        refine WQ.next ((pieces l).length - (i + 1)) ⟨i + 1, some a4, cap3, _, _, rfl, rfl, rfl, rfl, rfl, ?_, ?_, ?_⟩ (by omega) (by (repeat (first | exact Env.Sub.nil | refine Env.Sub.cons rfl ?_))) (fun w h => Pick.sat (by iterate 60 (try (first | exact Pick.all | (apply Pick.take; (· (repeat (first | exact Out.here | apply Out.there)))) | apply Pick.drop))) h)
        · omega
        · simp
        · rw [hsn]; simp [Pt.cs]
      | false =>
        rw [addPart_ne (by simpa using hq)] at hsn
        (refine st_R14_3 ?_; intros; rename_i ak ck)
        refine WQ.next ((pieces l).length - (i + 1)) ⟨i + 1, ak, ck, _, _, rfl, rfl, rfl, rfl, rfl, ?_, ?_, ?_⟩ (by omega) (by (repeat (first | exact Env.Sub.nil | refine Env.Sub.cons rfl ?_))) (fun w h => Pick.sat (by iterate 60 (try (first | exact Pick.all | (apply Pick.take; (· (repeat (first | exact Out.here | apply Out.there)))) | apply Pick.drop))) h)
        · omega
        · simp
        · simp [hsn, Pt.cs]
  · obtain rfl : i = (pieces l).length := by omega
    rw [List.take_length] at *
    (try (refine st_R14_3 ?_; intros))
    refine q_fin0 (H0 := .row a3 cap3 44 3 _ :: H) ⟨a3, cap3, ?_, rfl, ?_⟩ (hd := (fun w h => h.sublist (by repeat (first | exact List.Sublist.refl _ | apply List.Sublist.cons_cons | apply List.Sublist.cons))))
    · rw [hes]
    · rw [hes]
end Go.Proofs.Ytdmdabjaboigcaa

/-
  The walks of runes.Encode, Of, and the reference's Of. No condition.
-/
namespace Go.Proofs.Ytdmdabjaboigcaa
open Go Go.Eng
set_option maxRecDepth 100000
set_option maxHeartbeats 4000000
set_option linter.all false
attribute [local irreducible] WL WC WQ QFun QLoop Does Q1 QRound QAssign Go.Addr.add
theorem or_add {a x : Nat} (k b : Nat) (ha : a = 2 ^ k * b) (h : x < 2 ^ k) : a ||| x = a + x := by rw [ha]; exact (Nat.two_pow_add_eq_or_of_lt h b).symm
theorem tail_any (r : Int) (h0 : 0 ≤ r ∧ r ≤ 2147483647) (w0 : World) (m : Mem) (H : SHeap) : Does Try.prog 73 #[.int .i32 r] w0 m H (Gives (.int .u8 (128 + r % 64)) m H) := by
  refine Does.of_body (args := [.int .i32 r]) Try.func73 rfl Try.ntmps73 rfl ?_
  have h1 : (r % 256).toNat &&& (63 : Int).toNat = (r % 64).toNat := by
    have := Nat.and_two_pow_sub_one_eq_mod (r % 256).toNat 6
    rw [show (63 : Int).toNat = 2 ^ 6 - 1 by decide, this]; omega
  have h2 : (r % 64).toNat ||| (128 : Int).toNat = 128 + (r % 64).toNat := by
    rw [Nat.or_comm]; exact or_add 7 1 (by decide) (by omega)
  (try (refine st ?_; intros))
  (refine q_fin0 ?_)
  refine Gives.mk (vi ?_)
  rw [h1, Int.toNat_natCast, h2]; omega
theorem widthS_zero (r : Int) : widthS r = 0 ↔ Utf8.valid r = false := by
  have hw := wd_pos (rn r)
  rcases rn_cases r with ⟨h1, h2⟩ | ⟨h1, h2⟩
  · unfold widthS
    rw [h2]
    by_cases h3 : r = 65533
    · subst h3; exact absurd h1 (by decide)
    · simp [h3, h1, fmb_lost]
  · have hok := rn_ok r
    have h4 := widthS_ok hok
    rw [← h2] at h4
    rw [h4, h1]; constructor
    · intro h; omega
    · intro h; cases h
theorem shr_bound (c e : Nat) (h : c ≤ 2147483647) : 0 ≤ (c : Int) / 2 ^ e ∧ (c : Int) / 2 ^ e ≤ 2147483647 := by
  have h1 := Int.ediv_le_self (a := (c : Int)) (2 ^ e) (by omega)
  have h2 : 0 ≤ (c : Int) / 2 ^ e := Int.ediv_nonneg (by omega) (Int.le_of_lt (Int.pow_pos (by decide)))
  omega
theorem shr_nat (c e q : Nat) (hq : 2 ^ e = q) : (c : Int) / 2 ^ e = ((c / q : Nat) : Int) := by subst hq; push_cast; rfl
theorem sq_R16_1 {G : Prop} (h : G := by (repeat (first | (refine sp ?_; (repeat intro zzc)) | (refine iF 73 rfl ?_; refine w_callG Try.func73 ?_ (hs := tail_any _ (by first | omega | exact shr_bound _ _ (by omega)) _ _ _)) | (refine iF 34 rfl ?_; refine w_callG Try.func34 ?_ (hs := width_any _ _ _ _)))); exact WQ.q1 rfl) : G := h
theorem st_R16_1 {G G' : Prop} (next : G') (h : Bx G' → G := by intro zzn; (first | ((refine st ?_; (repeat intro zzc)); (try ((first | (refine iF 73 rfl ?_; refine w_callG Try.func73 ?_ (hs := tail_any _ (by first | omega | exact shr_bound _ _ (by omega)) _ _ _)) | (refine iF 34 rfl ?_; refine w_callG Try.func34 ?_ (hs := width_any _ _ _ _)) | ((refine iDraw ?_; (first | refine WC.drawAll rfl (by decide +kernel) ?_ | refine WC.draw 1 rfl (by decide +kernel) ?_ | refine WC.draw 2 rfl (by decide +kernel) ?_ | refine WC.draw 3 rfl (by decide +kernel) ?_ | refine WC.draw 4 rfl (by decide +kernel) ?_ | refine WC.draw 5 rfl (by decide +kernel) ?_ | refine WC.draw 6 rfl (by decide +kernel) ?_ | refine WC.draw 7 rfl (by decide +kernel) ?_ | refine WC.draw 8 rfl (by decide +kernel) ?_ | refine WC.draw 9 rfl (by decide +kernel) ?_ | refine WC.draw 10 rfl (by decide +kernel) ?_ | refine WC.draw 11 rfl (by decide +kernel) ?_ | refine WC.draw 12 rfl (by decide +kernel) ?_ | refine WC.draw 13 rfl (by decide +kernel) ?_ | refine WC.draw 14 rfl (by decide +kernel) ?_ | refine WC.draw 15 rfl (by decide +kernel) ?_ | refine WC.draw 16 rfl (by decide +kernel) ?_ | refine WC.draw 17 rfl (by decide +kernel) ?_ | refine WC.draw 18 rfl (by decide +kernel) ?_ | refine WC.draw 19 rfl (by decide +kernel) ?_ | refine WC.draw 20 rfl (by decide +kernel) ?_ | refine WC.draw 21 rfl (by decide +kernel) ?_ | refine WC.draw 22 rfl (by decide +kernel) ?_ | refine WC.draw 23 rfl (by decide +kernel) ?_ | refine WC.draw 24 rfl (by decide +kernel) ?_)); (repeat (refine WD.cons rfl (fun c h => by cases h) sq_R16_1 ?_)); refine WD.nil ?_)); (try (refine st ?_; (repeat intro zzc)))))) | ((first | (refine iF 73 rfl ?_; refine w_callG Try.func73 ?_ (hs := tail_any _ (by first | omega | exact shr_bound _ _ (by omega)) _ _ _)) | (refine iF 34 rfl ?_; refine w_callG Try.func34 ?_ (hs := width_any _ _ _ _)) | ((refine iDraw ?_; (first | refine WC.drawAll rfl (by decide +kernel) ?_ | refine WC.draw 1 rfl (by decide +kernel) ?_ | refine WC.draw 2 rfl (by decide +kernel) ?_ | refine WC.draw 3 rfl (by decide +kernel) ?_ | refine WC.draw 4 rfl (by decide +kernel) ?_ | refine WC.draw 5 rfl (by decide +kernel) ?_ | refine WC.draw 6 rfl (by decide +kernel) ?_ | refine WC.draw 7 rfl (by decide +kernel) ?_ | refine WC.draw 8 rfl (by decide +kernel) ?_ | refine WC.draw 9 rfl (by decide +kernel) ?_ | refine WC.draw 10 rfl (by decide +kernel) ?_ | refine WC.draw 11 rfl (by decide +kernel) ?_ | refine WC.draw 12 rfl (by decide +kernel) ?_ | refine WC.draw 13 rfl (by decide +kernel) ?_ | refine WC.draw 14 rfl (by decide +kernel) ?_ | refine WC.draw 15 rfl (by decide +kernel) ?_ | refine WC.draw 16 rfl (by decide +kernel) ?_ | refine WC.draw 17 rfl (by decide +kernel) ?_ | refine WC.draw 18 rfl (by decide +kernel) ?_ | refine WC.draw 19 rfl (by decide +kernel) ?_ | refine WC.draw 20 rfl (by decide +kernel) ?_ | refine WC.draw 21 rfl (by decide +kernel) ?_ | refine WC.draw 22 rfl (by decide +kernel) ?_ | refine WC.draw 23 rfl (by decide +kernel) ?_ | refine WC.draw 24 rfl (by decide +kernel) ?_)); (repeat (refine WD.cons rfl (fun c h => by cases h) sq_R16_1 ?_)); refine WD.nil ?_)); (try (refine st ?_; (repeat intro zzc))))); (repeat ((first | (refine iF 73 rfl ?_; refine w_callG Try.func73 ?_ (hs := tail_any _ (by first | omega | exact shr_bound _ _ (by omega)) _ _ _)) | (refine iF 34 rfl ?_; refine w_callG Try.func34 ?_ (hs := width_any _ _ _ _)) | ((refine iDraw ?_; (first | refine WC.drawAll rfl (by decide +kernel) ?_ | refine WC.draw 1 rfl (by decide +kernel) ?_ | refine WC.draw 2 rfl (by decide +kernel) ?_ | refine WC.draw 3 rfl (by decide +kernel) ?_ | refine WC.draw 4 rfl (by decide +kernel) ?_ | refine WC.draw 5 rfl (by decide +kernel) ?_ | refine WC.draw 6 rfl (by decide +kernel) ?_ | refine WC.draw 7 rfl (by decide +kernel) ?_ | refine WC.draw 8 rfl (by decide +kernel) ?_ | refine WC.draw 9 rfl (by decide +kernel) ?_ | refine WC.draw 10 rfl (by decide +kernel) ?_ | refine WC.draw 11 rfl (by decide +kernel) ?_ | refine WC.draw 12 rfl (by decide +kernel) ?_ | refine WC.draw 13 rfl (by decide +kernel) ?_ | refine WC.draw 14 rfl (by decide +kernel) ?_ | refine WC.draw 15 rfl (by decide +kernel) ?_ | refine WC.draw 16 rfl (by decide +kernel) ?_ | refine WC.draw 17 rfl (by decide +kernel) ?_ | refine WC.draw 18 rfl (by decide +kernel) ?_ | refine WC.draw 19 rfl (by decide +kernel) ?_ | refine WC.draw 20 rfl (by decide +kernel) ?_ | refine WC.draw 21 rfl (by decide +kernel) ?_ | refine WC.draw 22 rfl (by decide +kernel) ?_ | refine WC.draw 23 rfl (by decide +kernel) ?_ | refine WC.draw 24 rfl (by decide +kernel) ?_)); (repeat (refine WD.cons rfl (fun c h => by cases h) sq_R16_1 ?_)); refine WD.nil ?_)); (try (refine st ?_; (repeat intro zzc))))); (repeat revert zzc); exact zzn.out) : G := h ⟨next⟩
theorem encode_any (r : Int) (w0 : World) (m : Mem) (H : SHeap) : Does Try.prog 36 #[.int .i32 r] w0 m H (Gives (str (fmb (rn r))) m H) := by
  have hok := rn_ok r
  refine Does.of_body (args := [.int .i32 r]) Try.func36 rfl Try.ntmps36 rfl ?_
  have hz := widthS_zero r
  (try (refine st_R16_1 ?_; intros))
  refine WC.join (fun r' ds' m' H' => r' = [(0, .int .i32 (rn r : Int)), (2, str [])] ∧ ds' = [] ∧ m' = m ∧ H' = H) ?_ ?_
  · (first | refine c_ways (fun h1 => ?_) (fun h1 => ?_) | refine c_nways (fun h1 => ?_) (fun h1 => ?_) | refine w_gways (fun h1 => ?_) (fun h1 => ?_) | refine w_gnways (fun h1 => ?_) (fun h1 => ?_))
    · rcases rn_cases r with ⟨hf, hr⟩ | ⟨hf, hr⟩
      · (try (refine st_R16_1 ?_; intros))
        exact WQ.join ⟨rfl, rfl, rfl, rfl⟩ (Env.Sub.cons (by rw [hr]; rfl) (Env.Sub.cons rfl .nil)) (fun w h => h)
      · rw [hz, hf] at h1; cases h1
    · rcases rn_cases r with ⟨hf, hr⟩ | ⟨hf, hr⟩
      · exact absurd (hz.2 hf) h1
      · (try (refine st_R16_1 ?_; intros))
        exact WQ.join ⟨rfl, rfl, rfl, rfl⟩ (Env.Sub.cons (by rw [← hr]; rfl) (Env.Sub.cons rfl .nil)) (fun w h => h)
  rintro _ _ _ _ ⟨rfl, rfl, rfl, rfl⟩
  generalize rn r = c at hok ⊢
  have hc := okr_le hok
  have fin : ∀ (L : List Nat), fm c = L → (∀ x ∈ L, x < 256) → L.map (fun x : Nat => Value.int .u8 (x : Int)) = (fmb c).map fun b => Value.int .u8 (b.toNat : Int) := by
    intro L hL hx
    unfold fmb
    rw [hL, List.map_map]
    apply List.map_congr_left
    intro x h
    have := hx x h
    simp; omega
  rcases (show c < 128 ∨ (128 ≤ c ∧ c < 2048) ∨ (2048 ≤ c ∧ c < 65536) ∨ 65536 ≤ c by omega) with h | h | h | h
  · (try (refine st_R16_1 ?_; intros))
    apply WL.blkStr (s := fmb c)
    · exact rfl
    · (repeat (first | exact List.Mem.head _ | apply List.Mem.tail))
    · rw [← fin [c] (by unfold fm; rw [if_pos h]) (by simp; omega)]; rfl
    · rw [fmb_length]; unfold wd; rw [if_pos h]
    · exact rfl
    · exact rfl
    · exact rfl
    · exact rfl
    · exact rfl
    (try (refine st_R16_1 ?_; intros))
    (refine q_fin0 ?_)
    exact Gives.mk rfl
  · (try (refine st_R16_1 ?_; intros))
    apply WL.blkStr (s := fmb c)
    · exact rfl
    · (repeat (first | exact List.Mem.head _ | apply List.Mem.tail))
    · rw [← fin [0xC0 + c / 64, 0x80 + c % 64] (by unfold fm; rw [if_neg (by omega), if_pos h.2]) (by simp; omega)]
      have e3 : 192 ||| ((c : Int) / 64 % 256).toNat = 192 + c / 64 := by
        rw [show ((c : Int) / 64 % 256).toNat = c / 64 by omega]; exact or_add 5 6 (by decide) (by omega)
      simp [e3]
    · rw [fmb_length]; unfold wd; rw [if_neg (by omega), if_pos h.2]
    · exact rfl
    · exact rfl
    · exact rfl
    · exact rfl
    · exact rfl
    (try (refine st_R16_1 ?_; intros))
    (refine q_fin0 ?_)
    exact Gives.mk rfl
  · (try (refine st_R16_1 ?_; intros))
    apply WL.blkStr (s := fmb c)
    · exact rfl
    · (repeat (first | exact List.Mem.head _ | apply List.Mem.tail))
    · rw [← fin [0xE0 + c / 4096, 0x80 + c / 64 % 64, 0x80 + c % 64] (by unfold fm; rw [if_neg (by omega), if_neg (by omega), if_pos h.2]) (by simp; omega)]
      have e1 := shr_nat c 6 64 (by decide)
      have e2 := shr_nat c 12 4096 (by decide)
      have e3 : 224 ||| ((c : Int) / 4096 % 256).toNat = 224 + c / 4096 := by
        rw [show ((c : Int) / 4096 % 256).toNat = c / 4096 by omega]; exact or_add 4 14 (by decide) (by omega)
      simp [e3, e1, e2]
    · rw [fmb_length]; unfold wd; rw [if_neg (by omega), if_neg (by omega), if_pos h.2]
    · exact rfl
    · exact rfl
    · exact rfl
    · exact rfl
    · exact rfl
    (try (refine st_R16_1 ?_; intros))
    (refine q_fin0 ?_)
    exact Gives.mk rfl
  · (try (refine st_R16_1 ?_; intros))
    apply WL.blkStr (s := fmb c)
    · exact rfl
    · (repeat (first | exact List.Mem.head _ | apply List.Mem.tail))
    · rw [← fin [0xF0 + c / 262144, 0x80 + c / 4096 % 64, 0x80 + c / 64 % 64, 0x80 + c % 64] (by unfold fm; rw [if_neg (by omega), if_neg (by omega), if_neg (by omega)]) (by simp; omega)]
      have e1 := shr_nat c 6 64 (by decide)
      have e2 := shr_nat c 12 4096 (by decide)
      have e3 : 240 ||| ((c : Int) / 262144 % 256).toNat = 240 + c / 262144 := by
        rw [show ((c : Int) / 262144 % 256).toNat = c / 262144 by omega]; exact or_add 3 30 (by decide) (by omega)
      simp [e3, e1, e2]
    · rw [fmb_length]; unfold wd; rw [if_neg (by omega), if_neg (by omega), if_neg (by omega)]
    · exact rfl
    · exact rfl
    · exact rfl
    · exact rfl
    · exact rfl
    (try (refine st_R16_1 ?_; intros))
    (refine q_fin0 ?_)
    exact Gives.mk rfl
theorem sq_R16_2 {G : Prop} (h : G := by (repeat (first | (refine sp ?_; (repeat intro zzc)))); exact WQ.q1 rfl) : G := h
theorem st_R16_2 {G G' : Prop} (next : G') (h : Bx G' → G := by intro zzn; (first | ((refine st ?_; (repeat intro zzc)); (try ((first | ((refine iDraw ?_; (first | refine WC.drawAll rfl (by decide +kernel) ?_ | refine WC.draw 1 rfl (by decide +kernel) ?_ | refine WC.draw 2 rfl (by decide +kernel) ?_ | refine WC.draw 3 rfl (by decide +kernel) ?_ | refine WC.draw 4 rfl (by decide +kernel) ?_ | refine WC.draw 5 rfl (by decide +kernel) ?_ | refine WC.draw 6 rfl (by decide +kernel) ?_ | refine WC.draw 7 rfl (by decide +kernel) ?_ | refine WC.draw 8 rfl (by decide +kernel) ?_ | refine WC.draw 9 rfl (by decide +kernel) ?_ | refine WC.draw 10 rfl (by decide +kernel) ?_ | refine WC.draw 11 rfl (by decide +kernel) ?_ | refine WC.draw 12 rfl (by decide +kernel) ?_ | refine WC.draw 13 rfl (by decide +kernel) ?_ | refine WC.draw 14 rfl (by decide +kernel) ?_ | refine WC.draw 15 rfl (by decide +kernel) ?_ | refine WC.draw 16 rfl (by decide +kernel) ?_ | refine WC.draw 17 rfl (by decide +kernel) ?_ | refine WC.draw 18 rfl (by decide +kernel) ?_ | refine WC.draw 19 rfl (by decide +kernel) ?_ | refine WC.draw 20 rfl (by decide +kernel) ?_ | refine WC.draw 21 rfl (by decide +kernel) ?_ | refine WC.draw 22 rfl (by decide +kernel) ?_ | refine WC.draw 23 rfl (by decide +kernel) ?_ | refine WC.draw 24 rfl (by decide +kernel) ?_)); (repeat (refine WD.cons rfl (fun c h => by cases h) sq_R16_2 ?_)); refine WD.nil ?_)); (try (refine st ?_; (repeat intro zzc)))))) | ((first | ((refine iDraw ?_; (first | refine WC.drawAll rfl (by decide +kernel) ?_ | refine WC.draw 1 rfl (by decide +kernel) ?_ | refine WC.draw 2 rfl (by decide +kernel) ?_ | refine WC.draw 3 rfl (by decide +kernel) ?_ | refine WC.draw 4 rfl (by decide +kernel) ?_ | refine WC.draw 5 rfl (by decide +kernel) ?_ | refine WC.draw 6 rfl (by decide +kernel) ?_ | refine WC.draw 7 rfl (by decide +kernel) ?_ | refine WC.draw 8 rfl (by decide +kernel) ?_ | refine WC.draw 9 rfl (by decide +kernel) ?_ | refine WC.draw 10 rfl (by decide +kernel) ?_ | refine WC.draw 11 rfl (by decide +kernel) ?_ | refine WC.draw 12 rfl (by decide +kernel) ?_ | refine WC.draw 13 rfl (by decide +kernel) ?_ | refine WC.draw 14 rfl (by decide +kernel) ?_ | refine WC.draw 15 rfl (by decide +kernel) ?_ | refine WC.draw 16 rfl (by decide +kernel) ?_ | refine WC.draw 17 rfl (by decide +kernel) ?_ | refine WC.draw 18 rfl (by decide +kernel) ?_ | refine WC.draw 19 rfl (by decide +kernel) ?_ | refine WC.draw 20 rfl (by decide +kernel) ?_ | refine WC.draw 21 rfl (by decide +kernel) ?_ | refine WC.draw 22 rfl (by decide +kernel) ?_ | refine WC.draw 23 rfl (by decide +kernel) ?_ | refine WC.draw 24 rfl (by decide +kernel) ?_)); (repeat (refine WD.cons rfl (fun c h => by cases h) sq_R16_2 ?_)); refine WD.nil ?_)); (try (refine st ?_; (repeat intro zzc))))); (repeat ((first | ((refine iDraw ?_; (first | refine WC.drawAll rfl (by decide +kernel) ?_ | refine WC.draw 1 rfl (by decide +kernel) ?_ | refine WC.draw 2 rfl (by decide +kernel) ?_ | refine WC.draw 3 rfl (by decide +kernel) ?_ | refine WC.draw 4 rfl (by decide +kernel) ?_ | refine WC.draw 5 rfl (by decide +kernel) ?_ | refine WC.draw 6 rfl (by decide +kernel) ?_ | refine WC.draw 7 rfl (by decide +kernel) ?_ | refine WC.draw 8 rfl (by decide +kernel) ?_ | refine WC.draw 9 rfl (by decide +kernel) ?_ | refine WC.draw 10 rfl (by decide +kernel) ?_ | refine WC.draw 11 rfl (by decide +kernel) ?_ | refine WC.draw 12 rfl (by decide +kernel) ?_ | refine WC.draw 13 rfl (by decide +kernel) ?_ | refine WC.draw 14 rfl (by decide +kernel) ?_ | refine WC.draw 15 rfl (by decide +kernel) ?_ | refine WC.draw 16 rfl (by decide +kernel) ?_ | refine WC.draw 17 rfl (by decide +kernel) ?_ | refine WC.draw 18 rfl (by decide +kernel) ?_ | refine WC.draw 19 rfl (by decide +kernel) ?_ | refine WC.draw 20 rfl (by decide +kernel) ?_ | refine WC.draw 21 rfl (by decide +kernel) ?_ | refine WC.draw 22 rfl (by decide +kernel) ?_ | refine WC.draw 23 rfl (by decide +kernel) ?_ | refine WC.draw 24 rfl (by decide +kernel) ?_)); (repeat (refine WD.cons rfl (fun c h => by cases h) sq_R16_2 ?_)); refine WD.nil ?_)); (try (refine st ?_; (repeat intro zzc))))); (repeat revert zzc); exact zzn.out) : G := h ⟨next⟩
def rI (k : Int) : List Value := [.int .i32 k]
def bV (b : UInt8) : List Value := [.int .u8 (b.toNat : Int)]
theorem bV_append (A B : List UInt8) : (A ++ B).map bV = A.map bV ++ B.map (fun b => [Value.int .u8 (b.toNat : Int)]) := by rw [List.map_append]; rfl
theorem sq_R16_3 {G : Prop} (h : G := by (repeat (first | (refine sp ?_; (repeat intro zzc)) | (refine iF 36 rfl ?_; refine w_callG Try.func36 ?_ (hs := encode_any _ _ _ _)) | (refine iF 37 rfl ?_; refine w_callG Try.func37 ?_ (hs := rencode_any _ _ _ _)))); exact WQ.q1 rfl) : G := h
theorem st_R16_3 {G G' : Prop} (next : G') (h : Bx G' → G := by intro zzn; (first | ((refine st ?_; (repeat intro zzc)); (try ((first | (refine iF 36 rfl ?_; refine w_callG Try.func36 ?_ (hs := encode_any _ _ _ _)) | (refine iF 37 rfl ?_; refine w_callG Try.func37 ?_ (hs := rencode_any _ _ _ _)) | ((refine iDraw ?_; (first | refine WC.drawAll rfl (by decide +kernel) ?_ | refine WC.draw 1 rfl (by decide +kernel) ?_ | refine WC.draw 2 rfl (by decide +kernel) ?_ | refine WC.draw 3 rfl (by decide +kernel) ?_ | refine WC.draw 4 rfl (by decide +kernel) ?_ | refine WC.draw 5 rfl (by decide +kernel) ?_ | refine WC.draw 6 rfl (by decide +kernel) ?_ | refine WC.draw 7 rfl (by decide +kernel) ?_ | refine WC.draw 8 rfl (by decide +kernel) ?_ | refine WC.draw 9 rfl (by decide +kernel) ?_ | refine WC.draw 10 rfl (by decide +kernel) ?_ | refine WC.draw 11 rfl (by decide +kernel) ?_ | refine WC.draw 12 rfl (by decide +kernel) ?_ | refine WC.draw 13 rfl (by decide +kernel) ?_ | refine WC.draw 14 rfl (by decide +kernel) ?_ | refine WC.draw 15 rfl (by decide +kernel) ?_ | refine WC.draw 16 rfl (by decide +kernel) ?_ | refine WC.draw 17 rfl (by decide +kernel) ?_ | refine WC.draw 18 rfl (by decide +kernel) ?_ | refine WC.draw 19 rfl (by decide +kernel) ?_ | refine WC.draw 20 rfl (by decide +kernel) ?_ | refine WC.draw 21 rfl (by decide +kernel) ?_ | refine WC.draw 22 rfl (by decide +kernel) ?_ | refine WC.draw 23 rfl (by decide +kernel) ?_ | refine WC.draw 24 rfl (by decide +kernel) ?_)); (repeat (refine WD.cons rfl (fun c h => by cases h) sq_R16_3 ?_)); refine WD.nil ?_)); (try (refine st ?_; (repeat intro zzc)))))) | ((first | (refine iF 36 rfl ?_; refine w_callG Try.func36 ?_ (hs := encode_any _ _ _ _)) | (refine iF 37 rfl ?_; refine w_callG Try.func37 ?_ (hs := rencode_any _ _ _ _)) | ((refine iDraw ?_; (first | refine WC.drawAll rfl (by decide +kernel) ?_ | refine WC.draw 1 rfl (by decide +kernel) ?_ | refine WC.draw 2 rfl (by decide +kernel) ?_ | refine WC.draw 3 rfl (by decide +kernel) ?_ | refine WC.draw 4 rfl (by decide +kernel) ?_ | refine WC.draw 5 rfl (by decide +kernel) ?_ | refine WC.draw 6 rfl (by decide +kernel) ?_ | refine WC.draw 7 rfl (by decide +kernel) ?_ | refine WC.draw 8 rfl (by decide +kernel) ?_ | refine WC.draw 9 rfl (by decide +kernel) ?_ | refine WC.draw 10 rfl (by decide +kernel) ?_ | refine WC.draw 11 rfl (by decide +kernel) ?_ | refine WC.draw 12 rfl (by decide +kernel) ?_ | refine WC.draw 13 rfl (by decide +kernel) ?_ | refine WC.draw 14 rfl (by decide +kernel) ?_ | refine WC.draw 15 rfl (by decide +kernel) ?_ | refine WC.draw 16 rfl (by decide +kernel) ?_ | refine WC.draw 17 rfl (by decide +kernel) ?_ | refine WC.draw 18 rfl (by decide +kernel) ?_ | refine WC.draw 19 rfl (by decide +kernel) ?_ | refine WC.draw 20 rfl (by decide +kernel) ?_ | refine WC.draw 21 rfl (by decide +kernel) ?_ | refine WC.draw 22 rfl (by decide +kernel) ?_ | refine WC.draw 23 rfl (by decide +kernel) ?_ | refine WC.draw 24 rfl (by decide +kernel) ?_)); (repeat (refine WD.cons rfl (fun c h => by cases h) sq_R16_3 ?_)); refine WD.nil ?_)); (try (refine st ?_; (repeat intro zzc))))); (repeat ((first | (refine iF 36 rfl ?_; refine w_callG Try.func36 ?_ (hs := encode_any _ _ _ _)) | (refine iF 37 rfl ?_; refine w_callG Try.func37 ?_ (hs := rencode_any _ _ _ _)) | ((refine iDraw ?_; (first | refine WC.drawAll rfl (by decide +kernel) ?_ | refine WC.draw 1 rfl (by decide +kernel) ?_ | refine WC.draw 2 rfl (by decide +kernel) ?_ | refine WC.draw 3 rfl (by decide +kernel) ?_ | refine WC.draw 4 rfl (by decide +kernel) ?_ | refine WC.draw 5 rfl (by decide +kernel) ?_ | refine WC.draw 6 rfl (by decide +kernel) ?_ | refine WC.draw 7 rfl (by decide +kernel) ?_ | refine WC.draw 8 rfl (by decide +kernel) ?_ | refine WC.draw 9 rfl (by decide +kernel) ?_ | refine WC.draw 10 rfl (by decide +kernel) ?_ | refine WC.draw 11 rfl (by decide +kernel) ?_ | refine WC.draw 12 rfl (by decide +kernel) ?_ | refine WC.draw 13 rfl (by decide +kernel) ?_ | refine WC.draw 14 rfl (by decide +kernel) ?_ | refine WC.draw 15 rfl (by decide +kernel) ?_ | refine WC.draw 16 rfl (by decide +kernel) ?_ | refine WC.draw 17 rfl (by decide +kernel) ?_ | refine WC.draw 18 rfl (by decide +kernel) ?_ | refine WC.draw 19 rfl (by decide +kernel) ?_ | refine WC.draw 20 rfl (by decide +kernel) ?_ | refine WC.draw 21 rfl (by decide +kernel) ?_ | refine WC.draw 22 rfl (by decide +kernel) ?_ | refine WC.draw 23 rfl (by decide +kernel) ?_ | refine WC.draw 24 rfl (by decide +kernel) ?_)); (repeat (refine WD.cons rfl (fun c h => by cases h) sq_R16_3 ?_)); refine WD.nil ?_)); (try (refine st ?_; (repeat intro zzc))))); (repeat revert zzc); exact zzn.out) : G := h ⟨next⟩
theorem of_any {a : Option Addr} {cap : Nat} {ns : List Int} {w0 : World} {m : Mem} {H : SHeap} (hl : ns.length ≤ 5000000000000) (hr : RowR w0 m H 1 a (ns.map rI)) :
    Does Try.prog 32 #[.slice a ns.length cap] w0 m H (Gives (str (formsOf ns)) m H) := by
  refine Does.of_body (args := [.slice a ns.length cap]) Try.func32 rfl Try.ntmps32 rfl ?_
  (try (refine st_R16_3 ?_; intros))
  refine WC.newRow (T := 5) (sz := 1) ?_
  refine WC.loopH [(8, .int .i64 ((0) : Int)), (7, .int .i64 (ns.length : Int)), (6, .slice a ns.length cap), (3, .slice (none) (0) (0))] ?_ ?_ (fun j r ds m' H' => ∃ i b cb k S, j = ns.length - i ∧ r = [(8, .int .i64 (i : Int)), (7, .int .i64 (ns.length : Int)), (6, .slice a ns.length cap), (3, .slice b k cb)] ∧ ds = [] ∧ m = m' ∧ H' = .row b cb 5 1 (S.map bV) :: H ∧ (i ≤ ns.length) ∧ (k = (S.map bV).length) ∧ (S = formsOf (ns.take i)) ∧ (S.length ≤ 4 * i)) (ns.length - (0)) ⟨0, none, 0, 0, [], rfl, rfl, rfl, rfl, rfl, by omega, rfl, rfl, by simp⟩ ?_
  · (repeat (first | exact Env.Sub.nil | refine Env.Sub.cons rfl ?_))
  · exact (fun w h => Pick.sat (by iterate 60 (try (first | exact Pick.all | (apply Pick.take; (· (repeat (first | exact Out.here | apply Out.there)))) | apply Pick.drop))) h)
  rintro j r ds m' H' ⟨i, b, cb, k, S, rfl, rfl, rfl, rfl, rfl, hi, rfl, hS, hSl⟩
  have hml : (S.map bV).length = S.length := by simp
  by_cases hlt : i < ns.length
  · obtain ⟨x, hx, hget, htk, hmem, hdr⟩ := at_idx (f := rI) hlt
    have hf := fmb_length (rn x)
    have hw := wd_pos (rn x)
    have hr2 : RowR w0 m (.row b cb 5 1 (S.map bV) :: H) 1 a (ns.map rI) := hr.more
    refine WC.rSome hr2 (by simp; omega) ?_
    rintro a0 rfl
    (refine st_R16_3 ?_; intros; rename_i b2 cb2)
    rw [← bV_append]
    refine WQ.next (ns.length - (i + 1)) ⟨i + 1, b2, cb2, _, S ++ fmb (rn x), rfl, rfl, rfl, rfl, rfl, ?_, ?_, ?_, ?_⟩ (by omega) (by (repeat (first | exact Env.Sub.nil | refine Env.Sub.cons rfl ?_))) (fun w h => Pick.sat (by iterate 60 (try (first | exact Pick.all | (apply Pick.take; (· (repeat (first | exact Out.here | apply Out.there)))) | apply Pick.drop))) h)
    · omega
    · simp
    · rw [htk, formsOf_append, ← hS]; simp [formsOf]
    · simp; omega
  · obtain rfl : i = ns.length := by omega
    rw [List.take_length] at hS
    subst hS
    (try (refine st_R16_3 ?_; intros))
    refine WL.rowStr (s := formsOf ns) rfl hml (by (repeat (first | exact List.Mem.head _ | apply List.Mem.tail))) rfl rfl rfl rfl rfl ?_
    (try (refine st_R16_3 ?_; intros))
    (refine q_fin0 ?_)
    exact Gives.mk rfl
theorem refOf_any {a : Option Addr} {cap : Nat} {ns : List Int} {w0 : World} {m : Mem} {H : SHeap} (hl : ns.length ≤ 5000000000000) (hr : RowR w0 m H 1 a (ns.map rI)) :
    Does Try.prog 33 #[.slice a ns.length cap] w0 m H (Gives (str (formsOf ns)) m H) := by
  refine Does.of_body (args := [.slice a ns.length cap]) Try.func33 rfl Try.ntmps33 rfl ?_
  (try (refine st_R16_3 ?_; intros))
  refine WC.newRow (T := 5) (sz := 1) ?_
  refine WC.loopH [(8, .int .i64 ((0) : Int)), (7, .int .i64 (ns.length : Int)), (6, .slice a ns.length cap), (3, .slice (none) (0) (0))] ?_ ?_ (fun j r ds m' H' => ∃ i b cb k S, j = ns.length - i ∧ r = [(8, .int .i64 (i : Int)), (7, .int .i64 (ns.length : Int)), (6, .slice a ns.length cap), (3, .slice b k cb)] ∧ ds = [] ∧ m = m' ∧ H' = .row b cb 5 1 (S.map bV) :: H ∧ (i ≤ ns.length) ∧ (k = (S.map bV).length) ∧ (S = formsOf (ns.take i)) ∧ (S.length ≤ 4 * i)) (ns.length - (0)) ⟨0, none, 0, 0, [], rfl, rfl, rfl, rfl, rfl, by omega, rfl, rfl, by simp⟩ ?_
  · (repeat (first | exact Env.Sub.nil | refine Env.Sub.cons rfl ?_))
  · exact (fun w h => Pick.sat (by iterate 60 (try (first | exact Pick.all | (apply Pick.take; (· (repeat (first | exact Out.here | apply Out.there)))) | apply Pick.drop))) h)
  rintro j r ds m' H' ⟨i, b, cb, k, S, rfl, rfl, rfl, rfl, rfl, hi, rfl, hS, hSl⟩
  have hml : (S.map bV).length = S.length := by simp
  by_cases hlt : i < ns.length
  · obtain ⟨x, hx, hget, htk, hmem, hdr⟩ := at_idx (f := rI) hlt
    have hf := fmb_length (rn x)
    have hw := wd_pos (rn x)
    have hr2 : RowR w0 m (.row b cb 5 1 (S.map bV) :: H) 1 a (ns.map rI) := hr.more
    refine WC.rSome hr2 (by simp; omega) ?_
    rintro a0 rfl
    (refine st_R16_3 ?_; intros; rename_i b2 cb2)
    rw [← bV_append]
    refine WQ.next (ns.length - (i + 1)) ⟨i + 1, b2, cb2, _, S ++ fmb (rn x), rfl, rfl, rfl, rfl, rfl, ?_, ?_, ?_, ?_⟩ (by omega) (by (repeat (first | exact Env.Sub.nil | refine Env.Sub.cons rfl ?_))) (fun w h => Pick.sat (by iterate 60 (try (first | exact Pick.all | (apply Pick.take; (· (repeat (first | exact Out.here | apply Out.there)))) | apply Pick.drop))) h)
    · omega
    · simp
    · rw [htk, formsOf_append, ← hS]; simp [formsOf]
    · simp; omega
  · obtain rfl : i = ns.length := by omega
    rw [List.take_length] at hS
    subst hS
    (try (refine st_R16_3 ?_; intros))
    refine WL.rowStr (s := formsOf ns) rfl hml (by (repeat (first | exact List.Mem.head _ | apply List.Mem.tail))) rfl rfl rfl rfl rfl ?_
    (try (refine st_R16_3 ?_; intros))
    (refine q_fin0 ?_)
    exact Gives.mk rfl
end Go.Proofs.Ytdmdabjaboigcaa

/-
  The walk of the law RunesForms. No condition.
-/
namespace Go.Proofs.Ytdmdabjaboigcaa
open Go Go.Eng
set_option maxRecDepth 100000
set_option maxHeartbeats 4000000
set_option linter.all false
attribute [local irreducible] WL WC WQ QFun QLoop Does Q1 QRound QAssign Go.Addr.add
theorem widthS_rwd (r : Int) : widthS r = (rwd r : Int) := by
  rcases rn_cases r with ⟨h1, _⟩ | ⟨_, h2⟩
  · rw [(widthS_zero r).2 h1, rwd, if_pos h1]; rfl
  · have hok := rn_ok r
    have a := widthS_ok hok
    have b := rwd_okr hok
    rw [← h2] at a b
    rw [a, b]
theorem rwidth_same (r : Int) (w0 : World) (m : Mem) (H : SHeap) : Does Try.prog 35 #[.int .i32 r] w0 m H (Gives (.int .i64 (widthS r)) m H) := by rw [widthS_rwd]; exact rwidth_any r w0 m H
theorem all_ok (ns : List Int) : ∀ e ∈ ns.map rI, e.all okCell = true := by
  intro e he; obtain ⟨x, _, rfl⟩ := List.mem_map.1 he; rfl
theorem all_one (ns : List Int) : ∀ e ∈ ns.map rI, e.length = 1 := by
  intro e he; obtain ⟨x, _, rfl⟩ := List.mem_map.1 he; rfl
theorem sq_R17_1 {G : Prop} (h : G := by (repeat (first | (refine sp ?_; (repeat intro zzc)) | (refine iF 15 rfl ?_; refine w_callG Try.func15 ?_ (hs := wakes_any _ _ _)) | (refine iF 34 rfl ?_; refine w_callG Try.func34 ?_ (hs := width_any _ _ _ _)) | (refine iF 35 rfl ?_; refine w_callG Try.func35 ?_ (hs := rwidth_same _ _ _ _)) | (refine iF 36 rfl ?_; refine w_callG Try.func36 ?_ (hs := encode_any _ _ _ _)) | (refine iF 37 rfl ?_; refine w_callG Try.func37 ?_ (hs := rencode_any _ _ _ _)) | (refine iF 33 rfl ?_; refine w_callG Try.func33 ?_ (hs := refOf_any (by omega) (by assumption))))); exact WQ.q1 rfl) : G := h
theorem st_R17_1 {G G' : Prop} (next : G') (h : Bx G' → G := by intro zzn; (first | ((refine st ?_; (repeat intro zzc)); (try ((first | (refine iF 15 rfl ?_; refine w_callG Try.func15 ?_ (hs := wakes_any _ _ _)) | (refine iF 34 rfl ?_; refine w_callG Try.func34 ?_ (hs := width_any _ _ _ _)) | (refine iF 35 rfl ?_; refine w_callG Try.func35 ?_ (hs := rwidth_same _ _ _ _)) | (refine iF 36 rfl ?_; refine w_callG Try.func36 ?_ (hs := encode_any _ _ _ _)) | (refine iF 37 rfl ?_; refine w_callG Try.func37 ?_ (hs := rencode_any _ _ _ _)) | (refine iF 33 rfl ?_; refine w_callG Try.func33 ?_ (hs := refOf_any (by omega) (by assumption))) | ((refine iDraw ?_; (first | refine WC.drawAll rfl (by decide +kernel) ?_ | refine WC.draw 1 rfl (by decide +kernel) ?_ | refine WC.draw 2 rfl (by decide +kernel) ?_ | refine WC.draw 3 rfl (by decide +kernel) ?_ | refine WC.draw 4 rfl (by decide +kernel) ?_ | refine WC.draw 5 rfl (by decide +kernel) ?_ | refine WC.draw 6 rfl (by decide +kernel) ?_ | refine WC.draw 7 rfl (by decide +kernel) ?_ | refine WC.draw 8 rfl (by decide +kernel) ?_ | refine WC.draw 9 rfl (by decide +kernel) ?_ | refine WC.draw 10 rfl (by decide +kernel) ?_ | refine WC.draw 11 rfl (by decide +kernel) ?_ | refine WC.draw 12 rfl (by decide +kernel) ?_ | refine WC.draw 13 rfl (by decide +kernel) ?_ | refine WC.draw 14 rfl (by decide +kernel) ?_ | refine WC.draw 15 rfl (by decide +kernel) ?_ | refine WC.draw 16 rfl (by decide +kernel) ?_ | refine WC.draw 17 rfl (by decide +kernel) ?_ | refine WC.draw 18 rfl (by decide +kernel) ?_ | refine WC.draw 19 rfl (by decide +kernel) ?_ | refine WC.draw 20 rfl (by decide +kernel) ?_ | refine WC.draw 21 rfl (by decide +kernel) ?_ | refine WC.draw 22 rfl (by decide +kernel) ?_ | refine WC.draw 23 rfl (by decide +kernel) ?_ | refine WC.draw 24 rfl (by decide +kernel) ?_)); (repeat (refine WD.cons rfl (fun c h => by cases h) sq_R17_1 ?_)); refine WD.nil ?_)); (try (refine st ?_; (repeat intro zzc)))))) | ((first | (refine iF 15 rfl ?_; refine w_callG Try.func15 ?_ (hs := wakes_any _ _ _)) | (refine iF 34 rfl ?_; refine w_callG Try.func34 ?_ (hs := width_any _ _ _ _)) | (refine iF 35 rfl ?_; refine w_callG Try.func35 ?_ (hs := rwidth_same _ _ _ _)) | (refine iF 36 rfl ?_; refine w_callG Try.func36 ?_ (hs := encode_any _ _ _ _)) | (refine iF 37 rfl ?_; refine w_callG Try.func37 ?_ (hs := rencode_any _ _ _ _)) | (refine iF 33 rfl ?_; refine w_callG Try.func33 ?_ (hs := refOf_any (by omega) (by assumption))) | ((refine iDraw ?_; (first | refine WC.drawAll rfl (by decide +kernel) ?_ | refine WC.draw 1 rfl (by decide +kernel) ?_ | refine WC.draw 2 rfl (by decide +kernel) ?_ | refine WC.draw 3 rfl (by decide +kernel) ?_ | refine WC.draw 4 rfl (by decide +kernel) ?_ | refine WC.draw 5 rfl (by decide +kernel) ?_ | refine WC.draw 6 rfl (by decide +kernel) ?_ | refine WC.draw 7 rfl (by decide +kernel) ?_ | refine WC.draw 8 rfl (by decide +kernel) ?_ | refine WC.draw 9 rfl (by decide +kernel) ?_ | refine WC.draw 10 rfl (by decide +kernel) ?_ | refine WC.draw 11 rfl (by decide +kernel) ?_ | refine WC.draw 12 rfl (by decide +kernel) ?_ | refine WC.draw 13 rfl (by decide +kernel) ?_ | refine WC.draw 14 rfl (by decide +kernel) ?_ | refine WC.draw 15 rfl (by decide +kernel) ?_ | refine WC.draw 16 rfl (by decide +kernel) ?_ | refine WC.draw 17 rfl (by decide +kernel) ?_ | refine WC.draw 18 rfl (by decide +kernel) ?_ | refine WC.draw 19 rfl (by decide +kernel) ?_ | refine WC.draw 20 rfl (by decide +kernel) ?_ | refine WC.draw 21 rfl (by decide +kernel) ?_ | refine WC.draw 22 rfl (by decide +kernel) ?_ | refine WC.draw 23 rfl (by decide +kernel) ?_ | refine WC.draw 24 rfl (by decide +kernel) ?_)); (repeat (refine WD.cons rfl (fun c h => by cases h) sq_R17_1 ?_)); refine WD.nil ?_)); (try (refine st ?_; (repeat intro zzc))))); (repeat ((first | (refine iF 15 rfl ?_; refine w_callG Try.func15 ?_ (hs := wakes_any _ _ _)) | (refine iF 34 rfl ?_; refine w_callG Try.func34 ?_ (hs := width_any _ _ _ _)) | (refine iF 35 rfl ?_; refine w_callG Try.func35 ?_ (hs := rwidth_same _ _ _ _)) | (refine iF 36 rfl ?_; refine w_callG Try.func36 ?_ (hs := encode_any _ _ _ _)) | (refine iF 37 rfl ?_; refine w_callG Try.func37 ?_ (hs := rencode_any _ _ _ _)) | (refine iF 33 rfl ?_; refine w_callG Try.func33 ?_ (hs := refOf_any (by omega) (by assumption))) | ((refine iDraw ?_; (first | refine WC.drawAll rfl (by decide +kernel) ?_ | refine WC.draw 1 rfl (by decide +kernel) ?_ | refine WC.draw 2 rfl (by decide +kernel) ?_ | refine WC.draw 3 rfl (by decide +kernel) ?_ | refine WC.draw 4 rfl (by decide +kernel) ?_ | refine WC.draw 5 rfl (by decide +kernel) ?_ | refine WC.draw 6 rfl (by decide +kernel) ?_ | refine WC.draw 7 rfl (by decide +kernel) ?_ | refine WC.draw 8 rfl (by decide +kernel) ?_ | refine WC.draw 9 rfl (by decide +kernel) ?_ | refine WC.draw 10 rfl (by decide +kernel) ?_ | refine WC.draw 11 rfl (by decide +kernel) ?_ | refine WC.draw 12 rfl (by decide +kernel) ?_ | refine WC.draw 13 rfl (by decide +kernel) ?_ | refine WC.draw 14 rfl (by decide +kernel) ?_ | refine WC.draw 15 rfl (by decide +kernel) ?_ | refine WC.draw 16 rfl (by decide +kernel) ?_ | refine WC.draw 17 rfl (by decide +kernel) ?_ | refine WC.draw 18 rfl (by decide +kernel) ?_ | refine WC.draw 19 rfl (by decide +kernel) ?_ | refine WC.draw 20 rfl (by decide +kernel) ?_ | refine WC.draw 21 rfl (by decide +kernel) ?_ | refine WC.draw 22 rfl (by decide +kernel) ?_ | refine WC.draw 23 rfl (by decide +kernel) ?_ | refine WC.draw 24 rfl (by decide +kernel) ?_)); (repeat (refine WD.cons rfl (fun c h => by cases h) sq_R17_1 ?_)); refine WD.nil ?_)); (try (refine st ?_; (repeat intro zzc))))); (repeat revert zzc); exact zzn.out) : G := h ⟨next⟩
theorem runesForms_any {a0 : Option Addr} {cap0 : Nat} {ns : List Int} (hl : ns.length ≤ 1048576) (w0 : World) (m : Mem) (H : SHeap) (hr : ∀ Hp, RowR w0 m Hp 1 a0 (ns.map rI)) :
    Does Try.prog 6 #[.slice a0 ns.length cap0] w0 m H (fun v m' _ => v = .bool true ∧ m.le m') := by
  refine Does.of_body (args := [.slice a0 ns.length cap0]) Try.func6 rfl Try.ntmps6 rfl ?_
  have hml : (ns.map rI).length = ns.length := by simp
  (refine st_R17_1 ?_; intros; rename_i b3)
  refine w_appendR (hr _) (all_ok ns) (all_one ns) ?_
  intro a3 c3
  (try (refine st_R17_1 ?_; intros))
  refine WC.loopH [(4, .int .i64 ((0) : Int)), (3, .slice (a3) (([] : List (List Value)).length + (ns.map rI).length) (c3)), (0, .slice a0 ns.length cap0)] ?_ ?_ (fun j r ds m' H' => ∃ k a31 c31 n3 es, j = 70 - k ∧ r = [(4, .int .i64 (k : Int)), (3, .slice a31 n3 c31), (0, .slice a0 ns.length cap0)] ∧ ds = [] ∧ m = m' ∧ H' = .row a31 c31 21 1 es :: H ∧ (k ≤ 70) ∧ (n3 = es.length) ∧ (es = ns.map rI ++ List.replicate k [.int .i32 (-9)])) (70 - (0)) ⟨0, a3, c3, ([] : List (List Value)).length + (ns.map rI).length, [] ++ ns.map rI, rfl, rfl, rfl, rfl, rfl, by omega, by simp, by simp⟩ ?_
  · (repeat (first | exact Env.Sub.nil | refine Env.Sub.cons rfl ?_))
  · exact (fun w h => Pick.sat (by iterate 60 (try (first | exact Pick.all | (apply Pick.take; (· (repeat (first | exact Out.here | apply Out.there)))) | apply Pick.drop))) h)
  rintro j r ds m' H' ⟨k, a31, c31, n3, es, rfl, rfl, rfl, rfl, rfl, hk, rfl, hes⟩
  have hesl : es.length = ns.length + k := by simp [hes]
  by_cases hlt : k < 70
  · (refine st_R17_1 ?_; intros; rename_i b4 a32 c32)
    refine WQ.next (70 - (k + 1)) ⟨k + 1, a32, c32, _, _, rfl, rfl, rfl, rfl, rfl, ?_, ?_, ?_⟩ (by omega) (by (repeat (first | exact Env.Sub.nil | refine Env.Sub.cons rfl ?_))) (fun w h => Pick.sat (by iterate 60 (try (first | exact Pick.all | (apply Pick.take; (· (repeat (first | exact Out.here | apply Out.there)))) | apply Pick.drop))) h)
    · omega
    · simp
    · rw [hes, List.replicate_succ']; simp
  · obtain rfl : k = 70 := by omega
    refine WC.rowCap (a := a31) (by (repeat (first | exact List.Mem.head _ | apply List.Mem.tail))) ?_
    intro hcap
    (try (refine st_R17_1 ?_; intros))
    have hrow : RowR w0 m (.row a31 c31 21 1 es :: H) 1 (if c31 = 0 then a31 else a31.map (·.add (0 * 1))) (ns.map rI) := by
      have h := RowR.subRow (w0 := w0) (m := m) (H := .row a31 c31 21 1 es :: H) (lo := 0) (hi := ns.length) (sz := 1) (T := 21) (cap := c31) (a := a31) (es := es) (List.mem_cons_self) (by omega)
      have e : (es.take ns.length).drop 0 = ns.map rI := by rw [hes, List.drop_zero, List.take_left' hml]
      rwa [e] at h
    refine w_callF Try.func32 ?_ (hs := of_any (by omega) hrow)
    rintro _ m _ ⟨rfl, rfl, rfl⟩
    have hr1 := hr (.row a31 c31 21 1 es :: H)
    (try (refine st_R17_1 ?_; intros))
    refine WC.loopH [(32, .int .i64 ((0) : Int)), (31, .int .i64 (es.length : Int)), (3, .slice a31 es.length c31), (0, .slice a0 ns.length cap0), (5, str (formsOf ns))] ?_ ?_ (fun j r ds m' H' => ∃ i, j = es.length - i ∧ r = [(32, .int .i64 (i : Int)), (31, .int .i64 (es.length : Int)), (3, .slice a31 es.length c31), (0, .slice a0 ns.length cap0), (5, str (formsOf ns))] ∧ ds = [] ∧ m = m' ∧ H' = .row a31 c31 21 1 es :: H ∧ (i ≤ es.length)) (es.length - (0)) ⟨0, rfl, rfl, rfl, rfl, rfl, by omega⟩ ?_
    · (repeat (first | exact Env.Sub.nil | refine Env.Sub.cons rfl ?_))
    · exact (fun w h => Pick.sat (by iterate 60 (try (first | exact Pick.all | (apply Pick.take; (· (repeat (first | exact Out.here | apply Out.there)))) | apply Pick.drop))) h)
    rintro j r ds m' H' ⟨i, rfl, rfl, rfl, rfl, rfl, hi⟩
    by_cases hlt2 : i < es.length
    · refine WC.rowSome (a := a31) (by (repeat (first | exact List.Mem.head _ | apply List.Mem.tail))) (by omega) ?_
      rintro a33 rfl
      by_cases hin : i < ns.length
      · obtain ⟨x, hx, hget, htk, hmem, hdr⟩ := at_idx (f := rI) hin
        have hget2 : es[i]? = some (rI x) := by rw [hes, List.getElem?_append_left (by omega)]; exact hget
        refine WC.rSome hr1 (by omega) ?_
        rintro a00 rfl
        (try (refine st_R17_1 ?_; intros))
        refine WQ.next (es.length - (i + 1)) ⟨i + 1, rfl, rfl, rfl, rfl, rfl, ?_⟩ (by omega) (by (repeat (first | exact Env.Sub.nil | refine Env.Sub.cons rfl ?_))) (fun w h => Pick.sat (by iterate 60 (try (first | exact Pick.all | (apply Pick.take; (· (repeat (first | exact Out.here | apply Out.there)))) | apply Pick.drop))) h)
        omega
      · have hget2 : es[i]? = some [.int .i32 (-9)] := by
          rw [hes, List.getElem?_append_right (by omega), List.getElem?_replicate, if_pos (by omega)]
        (try (refine st_R17_1 ?_; intros))
        refine WQ.next (es.length - (i + 1)) ⟨i + 1, rfl, rfl, rfl, rfl, rfl, ?_⟩ (by omega) (by (repeat (first | exact Env.Sub.nil | refine Env.Sub.cons rfl ?_))) (fun w h => Pick.sat (by iterate 60 (try (first | exact Pick.all | (apply Pick.take; (· (repeat (first | exact Out.here | apply Out.there)))) | apply Pick.drop))) h)
        omega
    · (try (refine st_R17_1 ?_; intros))
      refine WC.loopH [(70, .int .i64 ((0) : Int)), (69, .int .i64 (ns.length : Int)), (68, .slice a0 ns.length cap0)] ?_ ?_ (fun j r ds m' H' => ∃ i3, j = ns.length - i3 ∧ r = [(70, .int .i64 (i3 : Int)), (69, .int .i64 (ns.length : Int)), (68, .slice a0 ns.length cap0)] ∧ ds = [] ∧ m = m' ∧ H' = .row a31 c31 21 1 es :: H ∧ (i3 ≤ ns.length)) (ns.length - (0)) ⟨0, rfl, rfl, rfl, rfl, rfl, by omega⟩ ?_
      · (repeat (first | exact Env.Sub.nil | refine Env.Sub.cons rfl ?_))
      · exact (fun w h => Pick.sat (by iterate 60 (try (first | exact Pick.all | (apply Pick.take; (· (repeat (first | exact Out.here | apply Out.there)))) | apply Pick.drop))) h)
      rintro j r ds m' H' ⟨i3, rfl, rfl, rfl, rfl, rfl, hi3⟩
      by_cases hlt3 : i3 < ns.length
      · obtain ⟨x, hx, hget, htk, hmem, hdr⟩ := at_idx (f := rI) hlt3
        refine WC.rSome hr1 (by omega) ?_
        rintro a00 rfl
        (try (refine st_R17_1 ?_; intros))
        refine WQ.next (ns.length - (i3 + 1)) ⟨i3 + 1, rfl, rfl, rfl, rfl, rfl, ?_⟩ (by omega) (by (repeat (first | exact Env.Sub.nil | refine Env.Sub.cons rfl ?_))) (fun w h => Pick.sat (by iterate 60 (try (first | exact Pick.all | (apply Pick.take; (· (repeat (first | exact Out.here | apply Out.there)))) | apply Pick.drop))) h)
        omega
      · (try (refine st_R17_1 ?_; intros))
        (refine q_fin0 ?_)
        exact ⟨rfl, Mem.le.refl _⟩
end Go.Proofs.Ytdmdabjaboigcaa

/-
  The walks of runes.To and of the law RunesStrings. No condition.
-/
namespace Go.Proofs.Ytdmdabjaboigcaa
open Go Go.Eng
set_option maxRecDepth 100000
set_option maxHeartbeats 4000000
set_option linter.all false
attribute [local irreducible] WL WC WQ QFun QLoop Does Q1 QRound QAssign Go.Addr.add
theorem to_any (l : List UInt8) (hl : l.length ≤ 5000000000000) (w0 : World) (m : Mem) (H : SHeap) :
    Does Try.prog 41 #[str l] w0 m H (MakesRow 21 1 ((pieces l).map fun p => rV p.r) m H) := by
  refine Does.of_body (args := [str l]) Try.func41 rfl Try.ntmps41 rfl ?_
  have hpl := pieces_length l
  (refine st ?_; intros; rename_i it)
  refine WC.newRow (T := 21) (sz := 1) ?_
  refine WC.loopH [(7, .pointer (some ⟨it, 0, none⟩)), (3, .slice (none) (0) (0))] ?_ ?_ (fun j r ds m' H' => ∃ k b cb n es pre, j = l.length - k ∧ r = [(7, .pointer (some ⟨it, 0, none⟩)), (3, .slice b n cb)] ∧ ds = [] ∧ m = m' ∧ H' = .row b cb 21 1 es :: .blk it (.stringIter ⟨l.toArray⟩ k) :: H ∧ (n = es.length) ∧ (es = pre.map (fun p : Pc => rV p.r)) ∧ (pieces l = pre ++ from_ l k)) (l.length - (0)) ⟨0, none, 0, 0, [], [], rfl, rfl, rfl, rfl, rfl, rfl, rfl, rfl⟩ ?_
  · (repeat (first | exact Env.Sub.nil | refine Env.Sub.cons rfl ?_))
  · exact (fun w h => Pick.sat (by iterate 60 (try (first | exact Pick.all | (apply Pick.take; (· (repeat (first | exact Out.here | apply Out.there)))) | apply Pick.drop))) h)
  rintro j r ds m' H' ⟨k, b, cb, n, es, pre, rfl, rfl, rfl, rfl, rfl, rfl, hes, hp⟩
  have hpre : pre.length ≤ l.length := by have := congrArg List.length hp; simp at this; omega
  have hel : es.length = pre.length := by simp [hes]
  by_cases hk : k < l.length
  · have hw := readP_w hk
    rw [from_cons hk] at hp
    have hwe := readP_w_eq l k
    (refine st ?_; intros; rename_i b1 b2 cb2)
    refine WQ.next (l.length - (k + (dl (l.drop k)).2)) ⟨k + (dl (l.drop k)).2, b2, cb2, _, _, pre ++ [readP l k], rfl, rfl, rfl, rfl, rfl, ?_, ?_, ?_⟩ (by omega) (by (repeat (first | exact Env.Sub.nil | refine Env.Sub.cons rfl ?_))) (fun w h => Pick.sat (by iterate 60 (try (first | exact Pick.all | (apply Pick.take; (· (repeat (first | exact Out.here | apply Out.there)))) | apply Pick.drop))) h)
    · simp
    · simp [hes, rV, readP_r_eq]
    · rw [hp, hwe]; simp
  · rw [from_nil hk, List.append_nil] at hp
    (try (refine st ?_; intros))
    refine q_fin0 (H0 := .row b cb 21 1 _ :: H) ⟨b, cb, ?_, rfl, ?_⟩ (hd := (fun w h => Pick.sat (by iterate 60 (try (first | exact Pick.all | (apply Pick.take; (· (repeat (first | exact Out.here | apply Out.there)))) | apply Pick.drop))) h))
    · rw [hp, ← hes]
    · rw [hp, ← hes]
theorem encode_same {x : Int} : fmb (rn x) = (Utf8.encode x).data.toList := (encode_eq x).symm
theorem encode_again {x : Int} : fmb (rn x) = (Utf8.encode (rn x : Int)).data.toList := by rw [encode_eq, rn_nat (rn_ok x)]
theorem to_es {l : List UInt8} {es : List (List Value)} (he : ((pieces l).map fun p => rV p.r) = es) (hl : l.length ≤ 5000000000000) (w0 : World) (m : Mem) (H : SHeap) :
    Does Try.prog 41 #[str l] w0 m H (MakesRow 21 1 es m H) := by subst he; exact to_any l hl w0 m H
theorem sq_R18_1 {G : Prop} (h : G := by (repeat (first | (refine sp ?_; (repeat intro zzc)) | (refine iF 15 rfl ?_; refine w_callG Try.func15 ?_ (hs := wakes_any _ _ _)) | (refine iF 34 rfl ?_; refine w_callG Try.func34 ?_ (hs := width_any _ _ _ _)) | (refine iF 36 rfl ?_; refine w_callG Try.func36 ?_ (hs := encode_any _ _ _ _)) | (refine iF 32 rfl ?_; refine w_callG Try.func32 ?_ (hs := of_any (by omega) (by assumption))) | (refine iF 22 rfl ?_; refine w_callG Try.func22 ?_ (hs := right_any _ (by omega) _ _ _)) | (refine iConv rfl ?_; refine w_runesR (by assumption) ?_))); exact WQ.q1 rfl) : G := h
theorem st_R18_1 {G G' : Prop} (next : G') (h : Bx G' → G := by intro zzn; (first | ((refine st ?_; (repeat intro zzc)); (try ((first | (refine iF 15 rfl ?_; refine w_callG Try.func15 ?_ (hs := wakes_any _ _ _)) | (refine iF 34 rfl ?_; refine w_callG Try.func34 ?_ (hs := width_any _ _ _ _)) | (refine iF 36 rfl ?_; refine w_callG Try.func36 ?_ (hs := encode_any _ _ _ _)) | (refine iF 32 rfl ?_; refine w_callG Try.func32 ?_ (hs := of_any (by omega) (by assumption))) | (refine iF 22 rfl ?_; refine w_callG Try.func22 ?_ (hs := right_any _ (by omega) _ _ _)) | (refine iConv rfl ?_; refine w_runesR (by assumption) ?_) | ((refine iDraw ?_; (first | refine WC.drawAll rfl (by decide +kernel) ?_ | refine WC.draw 1 rfl (by decide +kernel) ?_ | refine WC.draw 2 rfl (by decide +kernel) ?_ | refine WC.draw 3 rfl (by decide +kernel) ?_ | refine WC.draw 4 rfl (by decide +kernel) ?_ | refine WC.draw 5 rfl (by decide +kernel) ?_ | refine WC.draw 6 rfl (by decide +kernel) ?_ | refine WC.draw 7 rfl (by decide +kernel) ?_ | refine WC.draw 8 rfl (by decide +kernel) ?_ | refine WC.draw 9 rfl (by decide +kernel) ?_ | refine WC.draw 10 rfl (by decide +kernel) ?_ | refine WC.draw 11 rfl (by decide +kernel) ?_ | refine WC.draw 12 rfl (by decide +kernel) ?_ | refine WC.draw 13 rfl (by decide +kernel) ?_ | refine WC.draw 14 rfl (by decide +kernel) ?_ | refine WC.draw 15 rfl (by decide +kernel) ?_ | refine WC.draw 16 rfl (by decide +kernel) ?_ | refine WC.draw 17 rfl (by decide +kernel) ?_ | refine WC.draw 18 rfl (by decide +kernel) ?_ | refine WC.draw 19 rfl (by decide +kernel) ?_ | refine WC.draw 20 rfl (by decide +kernel) ?_ | refine WC.draw 21 rfl (by decide +kernel) ?_ | refine WC.draw 22 rfl (by decide +kernel) ?_ | refine WC.draw 23 rfl (by decide +kernel) ?_ | refine WC.draw 24 rfl (by decide +kernel) ?_)); (repeat (refine WD.cons rfl (fun c h => by cases h) sq_R18_1 ?_)); refine WD.nil ?_)); (try (refine st ?_; (repeat intro zzc)))))) | ((first | (refine iF 15 rfl ?_; refine w_callG Try.func15 ?_ (hs := wakes_any _ _ _)) | (refine iF 34 rfl ?_; refine w_callG Try.func34 ?_ (hs := width_any _ _ _ _)) | (refine iF 36 rfl ?_; refine w_callG Try.func36 ?_ (hs := encode_any _ _ _ _)) | (refine iF 32 rfl ?_; refine w_callG Try.func32 ?_ (hs := of_any (by omega) (by assumption))) | (refine iF 22 rfl ?_; refine w_callG Try.func22 ?_ (hs := right_any _ (by omega) _ _ _)) | (refine iConv rfl ?_; refine w_runesR (by assumption) ?_) | ((refine iDraw ?_; (first | refine WC.drawAll rfl (by decide +kernel) ?_ | refine WC.draw 1 rfl (by decide +kernel) ?_ | refine WC.draw 2 rfl (by decide +kernel) ?_ | refine WC.draw 3 rfl (by decide +kernel) ?_ | refine WC.draw 4 rfl (by decide +kernel) ?_ | refine WC.draw 5 rfl (by decide +kernel) ?_ | refine WC.draw 6 rfl (by decide +kernel) ?_ | refine WC.draw 7 rfl (by decide +kernel) ?_ | refine WC.draw 8 rfl (by decide +kernel) ?_ | refine WC.draw 9 rfl (by decide +kernel) ?_ | refine WC.draw 10 rfl (by decide +kernel) ?_ | refine WC.draw 11 rfl (by decide +kernel) ?_ | refine WC.draw 12 rfl (by decide +kernel) ?_ | refine WC.draw 13 rfl (by decide +kernel) ?_ | refine WC.draw 14 rfl (by decide +kernel) ?_ | refine WC.draw 15 rfl (by decide +kernel) ?_ | refine WC.draw 16 rfl (by decide +kernel) ?_ | refine WC.draw 17 rfl (by decide +kernel) ?_ | refine WC.draw 18 rfl (by decide +kernel) ?_ | refine WC.draw 19 rfl (by decide +kernel) ?_ | refine WC.draw 20 rfl (by decide +kernel) ?_ | refine WC.draw 21 rfl (by decide +kernel) ?_ | refine WC.draw 22 rfl (by decide +kernel) ?_ | refine WC.draw 23 rfl (by decide +kernel) ?_ | refine WC.draw 24 rfl (by decide +kernel) ?_)); (repeat (refine WD.cons rfl (fun c h => by cases h) sq_R18_1 ?_)); refine WD.nil ?_)); (try (refine st ?_; (repeat intro zzc))))); (repeat ((first | (refine iF 15 rfl ?_; refine w_callG Try.func15 ?_ (hs := wakes_any _ _ _)) | (refine iF 34 rfl ?_; refine w_callG Try.func34 ?_ (hs := width_any _ _ _ _)) | (refine iF 36 rfl ?_; refine w_callG Try.func36 ?_ (hs := encode_any _ _ _ _)) | (refine iF 32 rfl ?_; refine w_callG Try.func32 ?_ (hs := of_any (by omega) (by assumption))) | (refine iF 22 rfl ?_; refine w_callG Try.func22 ?_ (hs := right_any _ (by omega) _ _ _)) | (refine iConv rfl ?_; refine w_runesR (by assumption) ?_) | ((refine iDraw ?_; (first | refine WC.drawAll rfl (by decide +kernel) ?_ | refine WC.draw 1 rfl (by decide +kernel) ?_ | refine WC.draw 2 rfl (by decide +kernel) ?_ | refine WC.draw 3 rfl (by decide +kernel) ?_ | refine WC.draw 4 rfl (by decide +kernel) ?_ | refine WC.draw 5 rfl (by decide +kernel) ?_ | refine WC.draw 6 rfl (by decide +kernel) ?_ | refine WC.draw 7 rfl (by decide +kernel) ?_ | refine WC.draw 8 rfl (by decide +kernel) ?_ | refine WC.draw 9 rfl (by decide +kernel) ?_ | refine WC.draw 10 rfl (by decide +kernel) ?_ | refine WC.draw 11 rfl (by decide +kernel) ?_ | refine WC.draw 12 rfl (by decide +kernel) ?_ | refine WC.draw 13 rfl (by decide +kernel) ?_ | refine WC.draw 14 rfl (by decide +kernel) ?_ | refine WC.draw 15 rfl (by decide +kernel) ?_ | refine WC.draw 16 rfl (by decide +kernel) ?_ | refine WC.draw 17 rfl (by decide +kernel) ?_ | refine WC.draw 18 rfl (by decide +kernel) ?_ | refine WC.draw 19 rfl (by decide +kernel) ?_ | refine WC.draw 20 rfl (by decide +kernel) ?_ | refine WC.draw 21 rfl (by decide +kernel) ?_ | refine WC.draw 22 rfl (by decide +kernel) ?_ | refine WC.draw 23 rfl (by decide +kernel) ?_ | refine WC.draw 24 rfl (by decide +kernel) ?_)); (repeat (refine WD.cons rfl (fun c h => by cases h) sq_R18_1 ?_)); refine WD.nil ?_)); (try (refine st ?_; (repeat intro zzc))))); (repeat revert zzc); exact zzn.out) : G := h ⟨next⟩
theorem runesStrings_any {a0 : Option Addr} {cap0 : Nat} {ns : List Int} (hl : ns.length ≤ 1048576) (w0 : World) (m : Mem) (H : SHeap) (hr : ∀ Hp, RowR w0 m Hp 1 a0 (ns.map rI)) :
    Does Try.prog 8 #[.slice a0 ns.length cap0] w0 m H (fun v m' _ => v = .bool true ∧ m.le m') := by
  refine Does.of_body (args := [.slice a0 ns.length cap0]) Try.func8 rfl Try.ntmps8 rfl ?_
  have hml : (ns.map rI).length = ns.length := by simp
  have hfl := forms_len ns
  have hf2 : (ns.flatMap fun k => fmb (rn k)) = formsOf ns := rfl
  have hnb : nBroken (pieces (formsOf ns)) = 0 := by rw [forms_pieces, nBroken, mkP_right]; rfl
  have hrr : ((pieces (formsOf ns)).map fun p => rV p.r) = ns.map fun x => rV (rn x) := by
    rw [forms_pieces]
    have := congrArg (List.map rV) (mkP_map ns 0)
    simpa [Function.comp_def] using this
  have hr0 : RowR w0 m H 1 a0 (ns.map fun k => [Value.int .i32 k]) := hr H
  (try (refine st_R18_1 ?_; intros))
  refine WL.rename 14 (u := str (formsOf ns)) rfl rfl ?_
  refine w_callF Try.func41 ?_ (hs := to_es hrr (by omega) _ _ _)
  rintro _ m _ ⟨b, cb, rfl, rfl, rfl⟩
  have hel : (ns.map fun x => rV (rn x)).length = ns.length := by simp
  have hr1 := hr (.row b cb 21 1 (ns.map fun x => rV (rn x)) :: H)
  have hr2 : RowR w0 m (.row b cb 21 1 (ns.map fun x => rV (rn x)) :: H) 1 a0 (ns.map fun k => [Value.int .i32 k]) := hr1
  (try (refine st_R18_1 ?_; intros))
  refine WC.loopH [(17, .int .i64 ((0) : Int)), (16, .int .i64 ((ns.map fun x => rV (rn x)).length : Int)), (15, .slice b (ns.map fun x => rV (rn x)).length cb), (0, .slice a0 ns.length cap0)] ?_ ?_ (fun j r ds m' H' => ∃ i, j = ns.length - i ∧ r = [(17, .int .i64 (i : Int)), (16, .int .i64 ((ns.map fun x => rV (rn x)).length : Int)), (15, .slice b (ns.map fun x => rV (rn x)).length cb), (0, .slice a0 ns.length cap0)] ∧ ds = [] ∧ m = m' ∧ H' = .row b cb 21 1 (ns.map fun x => rV (rn x)) :: H ∧ (i ≤ ns.length)) (ns.length - (0)) ⟨0, rfl, rfl, rfl, rfl, rfl, by omega⟩ ?_
  · (repeat (first | exact Env.Sub.nil | refine Env.Sub.cons rfl ?_))
  · exact (fun w h => Pick.sat (by iterate 60 (try (first | exact Pick.all | (apply Pick.take; (· (repeat (first | exact Out.here | apply Out.there)))) | apply Pick.drop))) h)
  rintro j r ds m' H' ⟨i, rfl, rfl, rfl, rfl, rfl, hi⟩
  by_cases hlt : i < ns.length
  · obtain ⟨x, hx, hget, htk, hmem, hdr⟩ := at_idx (f := rI) hlt
    have hgetb : (ns.map fun x => rV (rn x))[i]? = some (rV (rn x)) := by rw [List.getElem?_map, hx]; rfl
    have he1 := encode_same (x := x)
    have he2 := encode_again (x := x)
    refine WC.rowSome (a := b) (by (repeat (first | exact List.Mem.head _ | apply List.Mem.tail))) (by omega) ?_
    rintro b0 rfl
    refine WC.rSome hr1 (by omega) ?_
    rintro a00 rfl
    have hws := widthS_zero x
    have hwl : widthS x ≠ 0 → widthS x = ((Utf8.encode x).data.toList.length : Int) := by
      intro h
      rw [← he1, fmb_length]
      rcases rn_cases x with ⟨h1, _⟩ | ⟨_, h2⟩
      · exact absurd (hws.2 h1) h
      · have := widthS_ok (rn_ok x); rwa [← h2] at this
    have hwr : widthS x = 0 → (rn x : Int) = 65533 := by
      intro h
      rcases rn_cases x with ⟨_, h2⟩ | ⟨h1, _⟩
      · omega
      · rw [hws.1 h] at h1; cases h1
    by_cases hz : widthS x = 0
    · have hz2 := hwr hz
      (try (refine st_R18_1 ?_; intros))
      refine WQ.next (ns.length - (i + 1)) ⟨i + 1, rfl, rfl, rfl, rfl, rfl, ?_⟩ (by omega) (by (repeat (first | exact Env.Sub.nil | refine Env.Sub.cons rfl ?_))) (fun w h => Pick.sat (by iterate 60 (try (first | exact Pick.all | (apply Pick.take; (· (repeat (first | exact Out.here | apply Out.there)))) | apply Pick.drop))) h)
      omega
    · have hz2 := hwl hz
      (try (refine st_R18_1 ?_; intros))
      refine WQ.next (ns.length - (i + 1)) ⟨i + 1, rfl, rfl, rfl, rfl, rfl, ?_⟩ (by omega) (by (repeat (first | exact Env.Sub.nil | refine Env.Sub.cons rfl ?_))) (fun w h => Pick.sat (by iterate 60 (try (first | exact Pick.all | (apply Pick.take; (· (repeat (first | exact Out.here | apply Out.there)))) | apply Pick.drop))) h)
      omega
  · have hfl2 : (ns.flatMap fun k => fmb (rn k)).length ≤ 4 * ns.length := hfl
    have hnb2 : nBroken (pieces (ns.flatMap fun k => fmb (rn k))) = 0 := hnb
    (try (refine st_R18_1 ?_; intros))
    refine w_callF Try.func41 ?_ (hs := to_es hrr (by omega) _ _ _)
    rintro _ m _ ⟨b2, cb2, rfl, rfl, rfl⟩
    (try (refine st_R18_1 ?_; intros))
    (refine q_fin0 ?_)
    exact ⟨rfl, Mem.le.refl _⟩
end Go.Proofs.Ytdmdabjaboigcaa

/-
  The walks of runes.Compare, Common, Index and of the reference's, and of the law RunesHolds. No condition.
-/
namespace Go.Proofs.Ytdmdabjaboigcaa
open Go Go.Eng
set_option maxRecDepth 100000
set_option maxHeartbeats 4000000
set_option linter.all false
attribute [local irreducible] WL WC WQ QFun QLoop Does Q1 QRound QAssign Go.Addr.add
theorem eq_pc (p q : Pc) : eqB Try.prog 8 24 (.agg p.cs.toArray) (.agg q.cs.toArray) = some (dcd (p = q)) := by
  refine (eq_piece _ _ _ _ _ _ _ _).trans ?_
  by_cases h : p = q
  · subst h; rw [dcd_true rfl, dcd_true ⟨rfl, rfl, rfl, rfl⟩]
  · rw [dcd_false h, dcd_false]
    rintro ⟨h1, h2, h3, h4⟩
    apply h
    obtain ⟨a, b, c, d⟩ := p
    obtain ⟨a', b', c', d'⟩ := q
    simp only at h1 h2 h3 h4
    simp only [Pc.mk.injEq]
    exact ⟨by omega, by omega, by omega, h4⟩
attribute [local irreducible] readP pieces dl wt
theorem sq_R19_1 {G : Prop} (h : G := by (repeat (first | (refine sp ?_; (repeat intro zzc)) | (refine iB_eql rfl ?_; refine w_eqlV ?_ (he := eq_pc (readP _ _) (readP _ _))) | (refine iB_neq rfl ?_; refine w_neqV ?_ (he := eq_pc (readP _ _) (readP _ _))) | (refine WL.pickIsT rfl (by assumption) rfl rfl ?_) | (refine WL.pickIsF rfl (by assumption) rfl rfl ?_) | (refine iF 67 rfl ?_; refine w_callG Try.func67 ?_ (hs := read_z _ (by (first | with_reducible exact natz _ | with_reducible exact natz0 | with_reducible exact natz1 | with_reducible exact natz2 | with_reducible exact natz3 | with_reducible exact natz4 | with_reducible exact natz8 | (apply natz_add; (· first | with_reducible exact natz _ | with_reducible exact natz0 | with_reducible exact natz1 | with_reducible exact natz2 | with_reducible exact natz3 | with_reducible exact natz4 | with_reducible exact natz8); (· first | with_reducible exact natz _ | with_reducible exact natz0 | with_reducible exact natz1 | with_reducible exact natz2 | with_reducible exact natz3 | with_reducible exact natz4 | with_reducible exact natz8)) | (apply natz_sub; (· first | with_reducible exact natz _ | with_reducible exact natz0 | with_reducible exact natz1 | with_reducible exact natz2 | with_reducible exact natz3 | with_reducible exact natz4 | with_reducible exact natz8); (· first | with_reducible exact natz _ | with_reducible exact natz0 | with_reducible exact natz1 | with_reducible exact natz2 | with_reducible exact natz3 | with_reducible exact natz4 | with_reducible exact natz8); (· omega)) | exact (Int.toNat_of_nonneg (by omega)).symm)) (by omega) (by omega) _ _ _)))); exact WQ.q1 rfl) : G := h
theorem st_R19_1 {G G' : Prop} (next : G') (h : Bx G' → G := by intro zzn; (first | ((refine st ?_; (repeat intro zzc)); (try ((first | (refine iB_eql rfl ?_; refine w_eqlV ?_ (he := eq_pc (readP _ _) (readP _ _))) | (refine iB_neq rfl ?_; refine w_neqV ?_ (he := eq_pc (readP _ _) (readP _ _))) | (refine WL.pickIsT rfl (by assumption) rfl rfl ?_) | (refine WL.pickIsF rfl (by assumption) rfl rfl ?_) | (refine iF 67 rfl ?_; refine w_callG Try.func67 ?_ (hs := read_z _ (by (first | with_reducible exact natz _ | with_reducible exact natz0 | with_reducible exact natz1 | with_reducible exact natz2 | with_reducible exact natz3 | with_reducible exact natz4 | with_reducible exact natz8 | (apply natz_add; (· first | with_reducible exact natz _ | with_reducible exact natz0 | with_reducible exact natz1 | with_reducible exact natz2 | with_reducible exact natz3 | with_reducible exact natz4 | with_reducible exact natz8); (· first | with_reducible exact natz _ | with_reducible exact natz0 | with_reducible exact natz1 | with_reducible exact natz2 | with_reducible exact natz3 | with_reducible exact natz4 | with_reducible exact natz8)) | (apply natz_sub; (· first | with_reducible exact natz _ | with_reducible exact natz0 | with_reducible exact natz1 | with_reducible exact natz2 | with_reducible exact natz3 | with_reducible exact natz4 | with_reducible exact natz8); (· first | with_reducible exact natz _ | with_reducible exact natz0 | with_reducible exact natz1 | with_reducible exact natz2 | with_reducible exact natz3 | with_reducible exact natz4 | with_reducible exact natz8); (· omega)) | exact (Int.toNat_of_nonneg (by omega)).symm)) (by omega) (by omega) _ _ _)) | ((refine iDraw ?_; (first | refine WC.drawAll rfl (by decide +kernel) ?_ | refine WC.draw 1 rfl (by decide +kernel) ?_ | refine WC.draw 2 rfl (by decide +kernel) ?_ | refine WC.draw 3 rfl (by decide +kernel) ?_ | refine WC.draw 4 rfl (by decide +kernel) ?_ | refine WC.draw 5 rfl (by decide +kernel) ?_ | refine WC.draw 6 rfl (by decide +kernel) ?_ | refine WC.draw 7 rfl (by decide +kernel) ?_ | refine WC.draw 8 rfl (by decide +kernel) ?_ | refine WC.draw 9 rfl (by decide +kernel) ?_ | refine WC.draw 10 rfl (by decide +kernel) ?_ | refine WC.draw 11 rfl (by decide +kernel) ?_ | refine WC.draw 12 rfl (by decide +kernel) ?_ | refine WC.draw 13 rfl (by decide +kernel) ?_ | refine WC.draw 14 rfl (by decide +kernel) ?_ | refine WC.draw 15 rfl (by decide +kernel) ?_ | refine WC.draw 16 rfl (by decide +kernel) ?_ | refine WC.draw 17 rfl (by decide +kernel) ?_ | refine WC.draw 18 rfl (by decide +kernel) ?_ | refine WC.draw 19 rfl (by decide +kernel) ?_ | refine WC.draw 20 rfl (by decide +kernel) ?_ | refine WC.draw 21 rfl (by decide +kernel) ?_ | refine WC.draw 22 rfl (by decide +kernel) ?_ | refine WC.draw 23 rfl (by decide +kernel) ?_ | refine WC.draw 24 rfl (by decide +kernel) ?_)); (repeat (refine WD.cons rfl (fun c h => by cases h) sq_R19_1 ?_)); refine WD.nil ?_)); (try (refine st ?_; (repeat intro zzc)))))) | ((first | (refine iB_eql rfl ?_; refine w_eqlV ?_ (he := eq_pc (readP _ _) (readP _ _))) | (refine iB_neq rfl ?_; refine w_neqV ?_ (he := eq_pc (readP _ _) (readP _ _))) | (refine WL.pickIsT rfl (by assumption) rfl rfl ?_) | (refine WL.pickIsF rfl (by assumption) rfl rfl ?_) | (refine iF 67 rfl ?_; refine w_callG Try.func67 ?_ (hs := read_z _ (by (first | with_reducible exact natz _ | with_reducible exact natz0 | with_reducible exact natz1 | with_reducible exact natz2 | with_reducible exact natz3 | with_reducible exact natz4 | with_reducible exact natz8 | (apply natz_add; (· first | with_reducible exact natz _ | with_reducible exact natz0 | with_reducible exact natz1 | with_reducible exact natz2 | with_reducible exact natz3 | with_reducible exact natz4 | with_reducible exact natz8); (· first | with_reducible exact natz _ | with_reducible exact natz0 | with_reducible exact natz1 | with_reducible exact natz2 | with_reducible exact natz3 | with_reducible exact natz4 | with_reducible exact natz8)) | (apply natz_sub; (· first | with_reducible exact natz _ | with_reducible exact natz0 | with_reducible exact natz1 | with_reducible exact natz2 | with_reducible exact natz3 | with_reducible exact natz4 | with_reducible exact natz8); (· first | with_reducible exact natz _ | with_reducible exact natz0 | with_reducible exact natz1 | with_reducible exact natz2 | with_reducible exact natz3 | with_reducible exact natz4 | with_reducible exact natz8); (· omega)) | exact (Int.toNat_of_nonneg (by omega)).symm)) (by omega) (by omega) _ _ _)) | ((refine iDraw ?_; (first | refine WC.drawAll rfl (by decide +kernel) ?_ | refine WC.draw 1 rfl (by decide +kernel) ?_ | refine WC.draw 2 rfl (by decide +kernel) ?_ | refine WC.draw 3 rfl (by decide +kernel) ?_ | refine WC.draw 4 rfl (by decide +kernel) ?_ | refine WC.draw 5 rfl (by decide +kernel) ?_ | refine WC.draw 6 rfl (by decide +kernel) ?_ | refine WC.draw 7 rfl (by decide +kernel) ?_ | refine WC.draw 8 rfl (by decide +kernel) ?_ | refine WC.draw 9 rfl (by decide +kernel) ?_ | refine WC.draw 10 rfl (by decide +kernel) ?_ | refine WC.draw 11 rfl (by decide +kernel) ?_ | refine WC.draw 12 rfl (by decide +kernel) ?_ | refine WC.draw 13 rfl (by decide +kernel) ?_ | refine WC.draw 14 rfl (by decide +kernel) ?_ | refine WC.draw 15 rfl (by decide +kernel) ?_ | refine WC.draw 16 rfl (by decide +kernel) ?_ | refine WC.draw 17 rfl (by decide +kernel) ?_ | refine WC.draw 18 rfl (by decide +kernel) ?_ | refine WC.draw 19 rfl (by decide +kernel) ?_ | refine WC.draw 20 rfl (by decide +kernel) ?_ | refine WC.draw 21 rfl (by decide +kernel) ?_ | refine WC.draw 22 rfl (by decide +kernel) ?_ | refine WC.draw 23 rfl (by decide +kernel) ?_ | refine WC.draw 24 rfl (by decide +kernel) ?_)); (repeat (refine WD.cons rfl (fun c h => by cases h) sq_R19_1 ?_)); refine WD.nil ?_)); (try (refine st ?_; (repeat intro zzc))))); (repeat ((first | (refine iB_eql rfl ?_; refine w_eqlV ?_ (he := eq_pc (readP _ _) (readP _ _))) | (refine iB_neq rfl ?_; refine w_neqV ?_ (he := eq_pc (readP _ _) (readP _ _))) | (refine WL.pickIsT rfl (by assumption) rfl rfl ?_) | (refine WL.pickIsF rfl (by assumption) rfl rfl ?_) | (refine iF 67 rfl ?_; refine w_callG Try.func67 ?_ (hs := read_z _ (by (first | with_reducible exact natz _ | with_reducible exact natz0 | with_reducible exact natz1 | with_reducible exact natz2 | with_reducible exact natz3 | with_reducible exact natz4 | with_reducible exact natz8 | (apply natz_add; (· first | with_reducible exact natz _ | with_reducible exact natz0 | with_reducible exact natz1 | with_reducible exact natz2 | with_reducible exact natz3 | with_reducible exact natz4 | with_reducible exact natz8); (· first | with_reducible exact natz _ | with_reducible exact natz0 | with_reducible exact natz1 | with_reducible exact natz2 | with_reducible exact natz3 | with_reducible exact natz4 | with_reducible exact natz8)) | (apply natz_sub; (· first | with_reducible exact natz _ | with_reducible exact natz0 | with_reducible exact natz1 | with_reducible exact natz2 | with_reducible exact natz3 | with_reducible exact natz4 | with_reducible exact natz8); (· first | with_reducible exact natz _ | with_reducible exact natz0 | with_reducible exact natz1 | with_reducible exact natz2 | with_reducible exact natz3 | with_reducible exact natz4 | with_reducible exact natz8); (· omega)) | exact (Int.toNat_of_nonneg (by omega)).symm)) (by omega) (by omega) _ _ _)) | ((refine iDraw ?_; (first | refine WC.drawAll rfl (by decide +kernel) ?_ | refine WC.draw 1 rfl (by decide +kernel) ?_ | refine WC.draw 2 rfl (by decide +kernel) ?_ | refine WC.draw 3 rfl (by decide +kernel) ?_ | refine WC.draw 4 rfl (by decide +kernel) ?_ | refine WC.draw 5 rfl (by decide +kernel) ?_ | refine WC.draw 6 rfl (by decide +kernel) ?_ | refine WC.draw 7 rfl (by decide +kernel) ?_ | refine WC.draw 8 rfl (by decide +kernel) ?_ | refine WC.draw 9 rfl (by decide +kernel) ?_ | refine WC.draw 10 rfl (by decide +kernel) ?_ | refine WC.draw 11 rfl (by decide +kernel) ?_ | refine WC.draw 12 rfl (by decide +kernel) ?_ | refine WC.draw 13 rfl (by decide +kernel) ?_ | refine WC.draw 14 rfl (by decide +kernel) ?_ | refine WC.draw 15 rfl (by decide +kernel) ?_ | refine WC.draw 16 rfl (by decide +kernel) ?_ | refine WC.draw 17 rfl (by decide +kernel) ?_ | refine WC.draw 18 rfl (by decide +kernel) ?_ | refine WC.draw 19 rfl (by decide +kernel) ?_ | refine WC.draw 20 rfl (by decide +kernel) ?_ | refine WC.draw 21 rfl (by decide +kernel) ?_ | refine WC.draw 22 rfl (by decide +kernel) ?_ | refine WC.draw 23 rfl (by decide +kernel) ?_ | refine WC.draw 24 rfl (by decide +kernel) ?_)); (repeat (refine WD.cons rfl (fun c h => by cases h) sq_R19_1 ?_)); refine WD.nil ?_)); (try (refine st ?_; (repeat intro zzc))))); (repeat revert zzc); exact zzn.out) : G := h ⟨next⟩
theorem shared_any (a b : List UInt8) (ha : a.length ≤ 1000000000) (hb : b.length ≤ 1000000000) (w0 : World) (m : Mem) (H : SHeap) :
    Does Try.prog 76 #[str a, str b] w0 m H (fun v m' H' => ∃ n k : Nat, v = .tuple #[.int .i64 (n : Int), .int .i64 (k : Int)] ∧ m' = m ∧ H' = H ∧ Sh a b n k ∧ (k = a.length ∨ k = b.length ∨ wt a (readP a k) ≠ wt b (readP b k))) := by
  refine Does.of_body (args := [str a, str b]) Try.func76 rfl Try.ntmps76 rfl ?_
  (try (refine st_R19_1 ?_; intros))
  refine WC.loopH [(7, .int .i64 ((0) : Int)), (6, .int .i64 ((0) : Int)), (0, str a), (1, str b)] ?_ ?_ (fun j r ds m' H' => ∃ (k : Nat) (n : Nat), j = a.length - k ∧ r = [(7, .int .i64 (k : Int)), (6, .int .i64 (n : Int)), (0, str a), (1, str b)] ∧ ds = [] ∧ m = m' ∧ H' = H ∧ (n ≤ k) ∧ (Sh a b n k)) (a.length - (0)) ⟨0, 0, rfl, rfl, rfl, rfl, rfl, by omega, Sh.start a b⟩ ?_
  · (repeat (first | exact Env.Sub.nil | refine Env.Sub.cons rfl ?_))
  · exact (fun w h => Pick.sat (by iterate 60 (try (first | exact Pick.all | (apply Pick.take; (· (repeat (first | exact Out.here | apply Out.there)))) | apply Pick.drop))) h)
  rintro j r ds m' H' ⟨k, n, rfl, rfl, rfl, rfl, rfl, hn, hS⟩
  have hka : k ≤ a.length := by obtain ⟨_, _, _, _, _, _, _, h, _⟩ := hS; exact h
  have hkb : k ≤ b.length := by obtain ⟨_, _, _, _, _, _, _, _, h⟩ := hS; exact h
  by_cases h1 : k < a.length
  · by_cases h2 : k < b.length
    · have w1 := readP_w h1
      have w2 := readP_w h2
      have hws := wt_same h1 h2
      by_cases hw : wt a (readP a k) = wt b (readP b k)
      · obtain ⟨he, hg⟩ := hws.1 hw
        have hSn := hS.next h1 h2 hw
        cases hbr : (readP a k).b with
        | true =>
          have hg' := hg hbr
          (try (refine st_R19_1 ?_; intros))
          refine WQ.next (a.length - (k + (readP a k).w)) ⟨k + (readP a k).w, n + 1, rfl, rfl, rfl, rfl, rfl, ?_, ?_⟩ (by omega) (by (repeat (first | exact Env.Sub.nil | refine Env.Sub.cons rfl ?_))) (fun w h => Pick.sat (by iterate 60 (try (first | exact Pick.all | (apply Pick.take; (· (repeat (first | exact Out.here | apply Out.there)))) | apply Pick.drop))) h)
          · omega
          · exact hSn
        | false =>
          (try (refine st_R19_1 ?_; intros))
          refine WQ.next (a.length - (k + (readP a k).w)) ⟨k + (readP a k).w, n + 1, rfl, rfl, rfl, rfl, rfl, ?_, ?_⟩ (by omega) (by (repeat (first | exact Env.Sub.nil | refine Env.Sub.cons rfl ?_))) (fun w h => Pick.sat (by iterate 60 (try (first | exact Pick.all | (apply Pick.take; (· (repeat (first | exact Out.here | apply Out.there)))) | apply Pick.drop))) h)
          · omega
          · exact hSn
      · by_cases he : readP a k = readP b k
        · have hbr : (readP a k).b = true := by
            cases hb : (readP a k).b with
            | true => rfl
            | false => exact absurd (hws.2 ⟨he, fun h => by rw [hb] at h; cases h⟩) hw
          have hg : ¬ gb a k = gb b k := fun h => hw (hws.2 ⟨he, fun _ => h⟩)
          (try (refine st_R19_1 ?_; intros))
          (refine q_fin0 ?_)
          exact ⟨n, k, rfl, rfl, rfl, hS, .inr (.inr hw)⟩
        · (try (refine st_R19_1 ?_; intros))
          (refine q_fin0 ?_)
          exact ⟨n, k, rfl, rfl, rfl, hS, .inr (.inr hw)⟩
    · (try (refine st_R19_1 ?_; intros))
      (refine q_fin0 ?_)
      exact ⟨n, k, rfl, rfl, rfl, hS, .inr (.inl (by omega))⟩
  · (try (refine st_R19_1 ?_; intros))
    (refine q_fin0 ?_)
    exact ⟨n, k, rfl, rfl, rfl, hS, .inl (by omega)⟩
end Go.Proofs.Ytdmdabjaboigcaa

/-
  The walks of runes.Compare, Common, Index and of the reference's, and of the law RunesHolds. No condition.
-/
namespace Go.Proofs.Ytdmdabjaboigcaa
open Go Go.Eng
set_option maxRecDepth 100000
set_option maxHeartbeats 4000000
set_option linter.all false
attribute [local irreducible] WL WC WQ QFun QLoop Does Q1 QRound QAssign Go.Addr.add
def W (l : List UInt8) : List Nat := (pieces l).map (wt l)
theorem W_length (l : List UInt8) : (W l).length = (pieces l).length := by simp [W]
theorem cm_take {X Y : List Nat} {n : Nat} (h : X.take n = Y.take n) (hx : n ≤ X.length) (hy : n ≤ Y.length) (hs : n = X.length ∨ n = Y.length ∨ ∃ x y, X[n]? = some x ∧ Y[n]? = some y ∧ x ≠ y) : cm X Y = n := by
  have h1 : X = X.take n ++ X.drop n := (List.take_append_drop n X).symm
  have h2 : Y = X.take n ++ Y.drop n := by rw [h]; exact (List.take_append_drop n Y).symm
  rw [h1, h2, cm_pre, cm_stop, List.length_take]
  · omega
  · rcases hs with hs | hs | ⟨x, y, e1, e2, hne⟩
    · rw [List.drop_eq_nil_of_le (by omega)]; trivial
    · rw [show Y.drop n = [] from List.drop_eq_nil_of_le (by omega)]; cases X.drop n <;> trivial
    · obtain ⟨g1, e1⟩ := List.getElem?_eq_some_iff.1 e1
      obtain ⟨g2, e2⟩ := List.getElem?_eq_some_iff.1 e2
      rw [List.drop_eq_getElem_cons g1, List.drop_eq_getElem_cons g2, e1, e2]
      exact hne
theorem mem_ok {l : List UInt8} {p : Pc} (h : p ∈ pieces l) : p.at_ < l.length ∧ p.r ≤ 1114111 := by
  obtain ⟨_, h2, h3⟩ := reach_of_mem h
  have := okr_le (readP_ok h2)
  rw [← h3] at this
  exact ⟨h2, this⟩
theorem common_any (a b : List UInt8) (ha : a.length ≤ 1000000000) (hb : b.length ≤ 1000000000) (w0 : World) (m : Mem) (H : SHeap) :
    Does Try.prog 44 #[str a, str b] w0 m H (Gives (.int .i64 (cm (W a) (W b) : Int)) m H) := by
  refine Does.of_body (args := [str a, str b]) Try.func44 rfl Try.ntmps44 rfl ?_
  (try (refine st ?_; intros))
  refine w_callF Try.func76 ?_ (hs := shared_any a b ha hb _ _ _)
  rintro _ m H ⟨n, k, rfl, rfl, rfl, hS, hstop⟩
  (try (refine st ?_; intros))
  (refine q_fin0 ?_)
  refine Gives.mk (vi ?_)
  rw [(hS.done hstop).1]; rfl
theorem weight_any (l : List UInt8) (p : Pc) (hp : p.at_ < l.length ∧ p.r ≤ 1114111) (hl : l.length ≤ 1000000000) (w0 : World) (m : Mem) (H : SHeap) :
    Does Try.prog 77 #[str l, p.v] w0 m H (Gives (.int .i64 (wt l p : Int)) m H) := by
  refine Does.of_body (args := [str l, p.v]) Try.func77 rfl Try.ntmps77 rfl ?_
  have hg := gb_lt l p.at_
  cases hb : p.b with
  | true =>
    (try (refine st ?_; intros))
    (refine q_fin0 ?_)
    refine Gives.mk (vi ?_)
    unfold wt; rw [if_pos hb]; omega
  | false =>
    (try (refine st ?_; intros))
    (refine q_fin0 ?_)
    refine Gives.mk (vi ?_)
    unfold wt; rw [if_neg (by rw [hb]; simp)]
theorem sq_R20_1 {G : Prop} (h : G := by (repeat (first | (refine sp ?_; (repeat intro zzc)) | (refine iF 77 rfl ?_; refine w_callG Try.func77 ?_ (hs := weight_any _ _ (by assumption) (by omega) _ _ _)))); exact WQ.q1 rfl) : G := h
theorem st_R20_1 {G G' : Prop} (next : G') (h : Bx G' → G := by intro zzn; (first | ((refine st ?_; (repeat intro zzc)); (try ((first | (refine iF 77 rfl ?_; refine w_callG Try.func77 ?_ (hs := weight_any _ _ (by assumption) (by omega) _ _ _)) | ((refine iDraw ?_; (first | refine WC.drawAll rfl (by decide +kernel) ?_ | refine WC.draw 1 rfl (by decide +kernel) ?_ | refine WC.draw 2 rfl (by decide +kernel) ?_ | refine WC.draw 3 rfl (by decide +kernel) ?_ | refine WC.draw 4 rfl (by decide +kernel) ?_ | refine WC.draw 5 rfl (by decide +kernel) ?_ | refine WC.draw 6 rfl (by decide +kernel) ?_ | refine WC.draw 7 rfl (by decide +kernel) ?_ | refine WC.draw 8 rfl (by decide +kernel) ?_ | refine WC.draw 9 rfl (by decide +kernel) ?_ | refine WC.draw 10 rfl (by decide +kernel) ?_ | refine WC.draw 11 rfl (by decide +kernel) ?_ | refine WC.draw 12 rfl (by decide +kernel) ?_ | refine WC.draw 13 rfl (by decide +kernel) ?_ | refine WC.draw 14 rfl (by decide +kernel) ?_ | refine WC.draw 15 rfl (by decide +kernel) ?_ | refine WC.draw 16 rfl (by decide +kernel) ?_ | refine WC.draw 17 rfl (by decide +kernel) ?_ | refine WC.draw 18 rfl (by decide +kernel) ?_ | refine WC.draw 19 rfl (by decide +kernel) ?_ | refine WC.draw 20 rfl (by decide +kernel) ?_ | refine WC.draw 21 rfl (by decide +kernel) ?_ | refine WC.draw 22 rfl (by decide +kernel) ?_ | refine WC.draw 23 rfl (by decide +kernel) ?_ | refine WC.draw 24 rfl (by decide +kernel) ?_)); (repeat (refine WD.cons rfl (fun c h => by cases h) sq_R20_1 ?_)); refine WD.nil ?_)); (try (refine st ?_; (repeat intro zzc)))))) | ((first | (refine iF 77 rfl ?_; refine w_callG Try.func77 ?_ (hs := weight_any _ _ (by assumption) (by omega) _ _ _)) | ((refine iDraw ?_; (first | refine WC.drawAll rfl (by decide +kernel) ?_ | refine WC.draw 1 rfl (by decide +kernel) ?_ | refine WC.draw 2 rfl (by decide +kernel) ?_ | refine WC.draw 3 rfl (by decide +kernel) ?_ | refine WC.draw 4 rfl (by decide +kernel) ?_ | refine WC.draw 5 rfl (by decide +kernel) ?_ | refine WC.draw 6 rfl (by decide +kernel) ?_ | refine WC.draw 7 rfl (by decide +kernel) ?_ | refine WC.draw 8 rfl (by decide +kernel) ?_ | refine WC.draw 9 rfl (by decide +kernel) ?_ | refine WC.draw 10 rfl (by decide +kernel) ?_ | refine WC.draw 11 rfl (by decide +kernel) ?_ | refine WC.draw 12 rfl (by decide +kernel) ?_ | refine WC.draw 13 rfl (by decide +kernel) ?_ | refine WC.draw 14 rfl (by decide +kernel) ?_ | refine WC.draw 15 rfl (by decide +kernel) ?_ | refine WC.draw 16 rfl (by decide +kernel) ?_ | refine WC.draw 17 rfl (by decide +kernel) ?_ | refine WC.draw 18 rfl (by decide +kernel) ?_ | refine WC.draw 19 rfl (by decide +kernel) ?_ | refine WC.draw 20 rfl (by decide +kernel) ?_ | refine WC.draw 21 rfl (by decide +kernel) ?_ | refine WC.draw 22 rfl (by decide +kernel) ?_ | refine WC.draw 23 rfl (by decide +kernel) ?_ | refine WC.draw 24 rfl (by decide +kernel) ?_)); (repeat (refine WD.cons rfl (fun c h => by cases h) sq_R20_1 ?_)); refine WD.nil ?_)); (try (refine st ?_; (repeat intro zzc))))); (repeat ((first | (refine iF 77 rfl ?_; refine w_callG Try.func77 ?_ (hs := weight_any _ _ (by assumption) (by omega) _ _ _)) | ((refine iDraw ?_; (first | refine WC.drawAll rfl (by decide +kernel) ?_ | refine WC.draw 1 rfl (by decide +kernel) ?_ | refine WC.draw 2 rfl (by decide +kernel) ?_ | refine WC.draw 3 rfl (by decide +kernel) ?_ | refine WC.draw 4 rfl (by decide +kernel) ?_ | refine WC.draw 5 rfl (by decide +kernel) ?_ | refine WC.draw 6 rfl (by decide +kernel) ?_ | refine WC.draw 7 rfl (by decide +kernel) ?_ | refine WC.draw 8 rfl (by decide +kernel) ?_ | refine WC.draw 9 rfl (by decide +kernel) ?_ | refine WC.draw 10 rfl (by decide +kernel) ?_ | refine WC.draw 11 rfl (by decide +kernel) ?_ | refine WC.draw 12 rfl (by decide +kernel) ?_ | refine WC.draw 13 rfl (by decide +kernel) ?_ | refine WC.draw 14 rfl (by decide +kernel) ?_ | refine WC.draw 15 rfl (by decide +kernel) ?_ | refine WC.draw 16 rfl (by decide +kernel) ?_ | refine WC.draw 17 rfl (by decide +kernel) ?_ | refine WC.draw 18 rfl (by decide +kernel) ?_ | refine WC.draw 19 rfl (by decide +kernel) ?_ | refine WC.draw 20 rfl (by decide +kernel) ?_ | refine WC.draw 21 rfl (by decide +kernel) ?_ | refine WC.draw 22 rfl (by decide +kernel) ?_ | refine WC.draw 23 rfl (by decide +kernel) ?_ | refine WC.draw 24 rfl (by decide +kernel) ?_)); (repeat (refine WD.cons rfl (fun c h => by cases h) sq_R20_1 ?_)); refine WD.nil ?_)); (try (refine st ?_; (repeat intro zzc))))); (repeat revert zzc); exact zzn.out) : G := h ⟨next⟩
theorem refCommon_any (a b : List UInt8) (ha : a.length ≤ 1048576) (hb : b.length ≤ 1048576) (w0 : World) (m : Mem) (H : SHeap) :
    Does Try.prog 45 #[str a, str b] w0 m H (Gives (.int .i64 (cm (W a) (W b) : Int)) m H) := by
  refine Does.of_body (args := [str a, str b]) Try.func45 rfl Try.ntmps45 rfl ?_
  have hpa := pieces_length a
  have hpb := pieces_length b
  have hma : ((pieces a).map Pc.cs).length = (pieces a).length := by simp
  have hmb : ((pieces b).map Pc.cs).length = (pieces b).length := by simp
  (try (refine st_R20_1 ?_; intros))
  refine w_callF Try.func19 ?_ (hs := refPieces_any _ (by omega) _ _ _)
  rintro _ m _ ⟨x0, cx, rfl, rfl, rfl⟩
  (try (refine st_R20_1 ?_; intros))
  refine w_callF Try.func19 ?_ (hs := refPieces_any _ (by omega) _ _ _)
  rintro _ m _ ⟨y0, cy, rfl, rfl, rfl⟩
  (try (refine st_R20_1 ?_; intros))
  refine WC.loopH [(7, .int .i64 ((0) : Int)), (0, str a), (1, str b), (5, .slice x0 ((pieces a).map Pc.cs).length cx), (6, .slice y0 ((pieces b).map Pc.cs).length cy)] ?_ ?_ (fun j r ds m' H' => ∃ (n : Nat), j = (pieces a).length - n ∧ r = [(7, .int .i64 (n : Int)), (0, str a), (1, str b), (5, .slice x0 ((pieces a).map Pc.cs).length cx), (6, .slice y0 ((pieces b).map Pc.cs).length cy)] ∧ ds = [] ∧ m = m' ∧ H' = .row y0 cy 24 4 ((pieces b).map Pc.cs) :: .row x0 cx 24 4 ((pieces a).map Pc.cs) :: H ∧ (n ≤ (pieces a).length) ∧ (n ≤ (pieces b).length) ∧ ((W a).take n = (W b).take n)) ((pieces a).length - (0)) ⟨0, rfl, rfl, rfl, rfl, rfl, by omega, by omega, by simp⟩ ?_
  · (repeat (first | exact Env.Sub.nil | refine Env.Sub.cons rfl ?_))
  · exact (fun w h => Pick.sat (by iterate 60 (try (first | exact Pick.all | (apply Pick.take; (· (repeat (first | exact Out.here | apply Out.there)))) | apply Pick.drop))) h)
  rintro j r ds m' H' ⟨n, rfl, rfl, rfl, rfl, rfl, hn1, hn2, ht⟩
  have hWa := W_length a
  have hWb := W_length b
  by_cases h1 : n < (pieces a).length
  · obtain ⟨p, hp, hget1, htk1, hmem1, _⟩ := at_idx (f := Pc.cs) h1
    have hok1 := mem_ok hmem1
    have hWp : (W a)[n]? = some (wt a p) := by rw [W, List.getElem?_map, hp]; rfl
    refine WC.rowSome (a := x0) (by (repeat (first | exact List.Mem.head _ | apply List.Mem.tail))) (by omega) ?_
    rintro x1 rfl
    by_cases h2 : n < (pieces b).length
    · obtain ⟨q, hq, hget2, htk2, hmem2, _⟩ := at_idx (f := Pc.cs) h2
      have hok2 := mem_ok hmem2
      have hWq : (W b)[n]? = some (wt b q) := by rw [W, List.getElem?_map, hq]; rfl
      refine WC.rowSome (a := y0) (by (repeat (first | exact List.Mem.head _ | apply List.Mem.tail))) (by omega) ?_
      rintro y1 rfl
      by_cases hw : wt a p = wt b q
      · (try (refine st_R20_1 ?_; intros))
        refine WQ.next ((pieces a).length - (n + 1)) ⟨n + 1, rfl, rfl, rfl, rfl, rfl, ?_, ?_, ?_⟩ (by omega) (by (repeat (first | exact Env.Sub.nil | refine Env.Sub.cons rfl ?_))) (fun w h => Pick.sat (by iterate 60 (try (first | exact Pick.all | (apply Pick.take; (· (repeat (first | exact Out.here | apply Out.there)))) | apply Pick.drop))) h)
        · omega
        · omega
        · rw [List.take_succ, List.take_succ, ht, hWp, hWq, hw]
      · have hcm := cm_take ht (by omega) (by omega) (.inr (.inr ⟨_, _, hWp, hWq, hw⟩))
        (try (refine st_R20_1 ?_; intros))
        (refine q_fin0 ?_)
        exact Gives.mk (vi (by rw [hcm]))
    · have hcm := cm_take ht (by omega) (by omega) (.inr (.inl (by omega)))
      (try (refine st_R20_1 ?_; intros))
      (refine q_fin0 ?_)
      exact Gives.mk (vi (by rw [hcm]))
  · have hcm := cm_take ht (by omega) (by omega) (.inl (by omega))
    (try (refine st_R20_1 ?_; intros))
    (refine q_fin0 ?_)
    exact Gives.mk (vi (by rw [hcm]))
end Go.Proofs.Ytdmdabjaboigcaa

/-
  The walks of runes.Compare and of the reference's. No condition.
-/
namespace Go.Proofs.Ytdmdabjaboigcaa
open Go Go.Eng
set_option maxRecDepth 100000
set_option maxHeartbeats 4000000
set_option linter.all false
attribute [local irreducible] WL WC WQ QFun QLoop Does Q1 QRound QAssign Go.Addr.add
theorem read_is {l : List UInt8} {z : Int} {k : Nat} {p : Pc} (hz : z = (k : Int)) (hl : l.length ≤ 9223372036854775804) (hk : k < l.length) (h : readP l k = p) (w0 : World) (m : Mem) (H : SHeap) :
    Does Try.prog 67 #[str l, .int .i64 z] w0 m H (Gives p.v m H) := by subst h; exact read_z l hz hl hk w0 m H
theorem compare_any (a b : List UInt8) (ha : a.length ≤ 1000000000) (hb : b.length ≤ 1000000000) (w0 : World) (m : Mem) (H : SHeap) :
    Does Try.prog 42 #[str a, str b] w0 m H (Gives (.int .i64 (cmpL (W a) (W b))) m H) := by
  refine Does.of_body (args := [str a, str b]) Try.func42 rfl Try.ntmps42 rfl ?_
  (try (refine st ?_; intros))
  refine w_callF Try.func76 ?_ (hs := shared_any a b ha hb _ _ _)
  rintro _ m H ⟨n, k, rfl, rfl, rfl, hS, hstop⟩
  have hd := (hS.done hstop).2
  have hka : k ≤ a.length := by obtain ⟨_, _, _, _, _, _, _, h, _⟩ := hS; exact h
  have hkb : k ≤ b.length := by obtain ⟨_, _, _, _, _, _, _, _, h⟩ := hS; exact h
  rw [← W, ← W] at hd
  rw [hd]
  by_cases h1 : k = a.length
  · by_cases h2 : k = b.length
    · (try (refine st ?_; intros))
      (refine q_fin0 ?_)
      exact Gives.mk (vi (by rw [if_pos ⟨h1, h2⟩]))
    · (try (refine st ?_; intros))
      (refine q_fin0 ?_)
      exact Gives.mk (vi (by rw [if_neg (by omega), if_pos h1]))
  · by_cases h2 : k = b.length
    · (try (refine st ?_; intros))
      (refine q_fin0 ?_)
      exact Gives.mk (vi (by rw [if_neg (by omega), if_neg h1, if_pos h2]))
    · rw [if_neg (by omega), if_neg h1, if_neg h2, wt_read, wt_read]
      have hg1 := gb_lt a k
      have hg2 := gb_lt b k
      have hc1 := readP_cases (show k < a.length by omega)
      have hc2 := readP_cases (show k < b.length by omega)
      have ha1 : k < a.length := by omega
      have hb1 : k < b.length := by omega
      rcases hp : readP a k with ⟨pa, pw, pr, pb⟩
      rcases hq : readP b k with ⟨qa, qw, qr, qb⟩
      rw [hp] at hc1
      rw [hq] at hc2
      simp only at hc1 hc2 ⊢
      (try (refine st ?_; intros))
      refine w_callF Try.func67 ?_ (hs := read_is (by (first | with_reducible exact natz _ | with_reducible exact natz0 | with_reducible exact natz1 | with_reducible exact natz2 | with_reducible exact natz3 | with_reducible exact natz4 | with_reducible exact natz8 | (apply natz_add; (· first | with_reducible exact natz _ | with_reducible exact natz0 | with_reducible exact natz1 | with_reducible exact natz2 | with_reducible exact natz3 | with_reducible exact natz4 | with_reducible exact natz8); (· first | with_reducible exact natz _ | with_reducible exact natz0 | with_reducible exact natz1 | with_reducible exact natz2 | with_reducible exact natz3 | with_reducible exact natz4 | with_reducible exact natz8)) | (apply natz_sub; (· first | with_reducible exact natz _ | with_reducible exact natz0 | with_reducible exact natz1 | with_reducible exact natz2 | with_reducible exact natz3 | with_reducible exact natz4 | with_reducible exact natz8); (· first | with_reducible exact natz _ | with_reducible exact natz0 | with_reducible exact natz1 | with_reducible exact natz2 | with_reducible exact natz3 | with_reducible exact natz4 | with_reducible exact natz8); (· omega)) | exact (Int.toNat_of_nonneg (by omega)).symm)) (by omega) ha1 hp _ _ _)
      rintro _ m H ⟨rfl, rfl, rfl⟩
      (try (refine st ?_; intros))
      refine w_callF Try.func67 ?_ (hs := read_is (by (first | with_reducible exact natz _ | with_reducible exact natz0 | with_reducible exact natz1 | with_reducible exact natz2 | with_reducible exact natz3 | with_reducible exact natz4 | with_reducible exact natz8 | (apply natz_add; (· first | with_reducible exact natz _ | with_reducible exact natz0 | with_reducible exact natz1 | with_reducible exact natz2 | with_reducible exact natz3 | with_reducible exact natz4 | with_reducible exact natz8); (· first | with_reducible exact natz _ | with_reducible exact natz0 | with_reducible exact natz1 | with_reducible exact natz2 | with_reducible exact natz3 | with_reducible exact natz4 | with_reducible exact natz8)) | (apply natz_sub; (· first | with_reducible exact natz _ | with_reducible exact natz0 | with_reducible exact natz1 | with_reducible exact natz2 | with_reducible exact natz3 | with_reducible exact natz4 | with_reducible exact natz8); (· first | with_reducible exact natz _ | with_reducible exact natz0 | with_reducible exact natz1 | with_reducible exact natz2 | with_reducible exact natz3 | with_reducible exact natz4 | with_reducible exact natz8); (· omega)) | exact (Int.toNat_of_nonneg (by omega)).symm)) (by omega) hb1 hq _ _ _)
      rintro _ m H ⟨rfl, rfl, rfl⟩
      cases pb with
      | true =>
        cases qb with
        | true =>
          by_cases hlt : gb a k < gb b k
          · (try (refine st ?_; intros))
            (refine q_fin0 ?_)
            exact Gives.mk (vi (by simp [hlt]))
          · (try (refine st ?_; intros))
            (refine q_fin0 ?_)
            exact Gives.mk (vi (by simp [hlt]))
        | false =>
          (try (refine st ?_; intros))
          (refine q_fin0 ?_)
          exact Gives.mk (vi (by simp; omega))
      | false =>
        cases qb with
        | true =>
          (try (refine st ?_; intros))
          (refine q_fin0 ?_)
          exact Gives.mk (vi (by simp; omega))
        | false =>
          by_cases hlt : pr < qr
          · have hlt2 : (⟨pa, pw, pr, false⟩ : Pc).r < (⟨qa, qw, qr, false⟩ : Pc).r := hlt
            (try (refine st ?_; intros))
            (refine q_fin0 ?_)
            exact Gives.mk (vi (by simp [hlt]))
          · have hlt2 : ¬ (⟨pa, pw, pr, false⟩ : Pc).r < (⟨qa, qw, qr, false⟩ : Pc).r := hlt
            (try (refine st ?_; intros))
            (refine q_fin0 ?_)
            exact Gives.mk (vi (by simp [hlt]))
theorem refCommon_is {a b : List UInt8} {n : Nat} (h : cm (W a) (W b) = n) (ha : a.length ≤ 1048576) (hb : b.length ≤ 1048576) (w0 : World) (m : Mem) (H : SHeap) :
    Does Try.prog 45 #[str a, str b] w0 m H (Gives (.int .i64 (n : Int)) m H) := by subst h; exact refCommon_any a b ha hb w0 m H
theorem W_at {l : List UInt8} {n x : Nat} (h : (W l)[n]? = some x) : ∃ p, ((pieces l).map Pc.cs)[n]? = some p.cs ∧ p ∈ pieces l ∧ wt l p = x := by
  rw [W, List.getElem?_map] at h
  obtain ⟨p, h1, h2⟩ := Option.map_eq_some_iff.1 h
  exact ⟨p, by rw [List.getElem?_map, h1]; rfl, List.mem_of_getElem? h1, h2⟩
theorem sq_R21_1 {G : Prop} (h : G := by (repeat (first | (refine sp ?_; (repeat intro zzc)) | (refine iF 77 rfl ?_; refine w_callG Try.func77 ?_ (hs := weight_any _ _ (by assumption) (by omega) _ _ _)) | (refine iF 45 rfl ?_; refine w_callG Try.func45 ?_ (hs := refCommon_is (by assumption) (by omega) (by omega) _ _ _)))); exact WQ.q1 rfl) : G := h
theorem st_R21_1 {G G' : Prop} (next : G') (h : Bx G' → G := by intro zzn; (first | ((refine st ?_; (repeat intro zzc)); (try ((first | (refine iF 77 rfl ?_; refine w_callG Try.func77 ?_ (hs := weight_any _ _ (by assumption) (by omega) _ _ _)) | (refine iF 45 rfl ?_; refine w_callG Try.func45 ?_ (hs := refCommon_is (by assumption) (by omega) (by omega) _ _ _)) | ((refine iDraw ?_; (first | refine WC.drawAll rfl (by decide +kernel) ?_ | refine WC.draw 1 rfl (by decide +kernel) ?_ | refine WC.draw 2 rfl (by decide +kernel) ?_ | refine WC.draw 3 rfl (by decide +kernel) ?_ | refine WC.draw 4 rfl (by decide +kernel) ?_ | refine WC.draw 5 rfl (by decide +kernel) ?_ | refine WC.draw 6 rfl (by decide +kernel) ?_ | refine WC.draw 7 rfl (by decide +kernel) ?_ | refine WC.draw 8 rfl (by decide +kernel) ?_ | refine WC.draw 9 rfl (by decide +kernel) ?_ | refine WC.draw 10 rfl (by decide +kernel) ?_ | refine WC.draw 11 rfl (by decide +kernel) ?_ | refine WC.draw 12 rfl (by decide +kernel) ?_ | refine WC.draw 13 rfl (by decide +kernel) ?_ | refine WC.draw 14 rfl (by decide +kernel) ?_ | refine WC.draw 15 rfl (by decide +kernel) ?_ | refine WC.draw 16 rfl (by decide +kernel) ?_ | refine WC.draw 17 rfl (by decide +kernel) ?_ | refine WC.draw 18 rfl (by decide +kernel) ?_ | refine WC.draw 19 rfl (by decide +kernel) ?_ | refine WC.draw 20 rfl (by decide +kernel) ?_ | refine WC.draw 21 rfl (by decide +kernel) ?_ | refine WC.draw 22 rfl (by decide +kernel) ?_ | refine WC.draw 23 rfl (by decide +kernel) ?_ | refine WC.draw 24 rfl (by decide +kernel) ?_)); (repeat (refine WD.cons rfl (fun c h => by cases h) sq_R21_1 ?_)); refine WD.nil ?_)); (try (refine st ?_; (repeat intro zzc)))))) | ((first | (refine iF 77 rfl ?_; refine w_callG Try.func77 ?_ (hs := weight_any _ _ (by assumption) (by omega) _ _ _)) | (refine iF 45 rfl ?_; refine w_callG Try.func45 ?_ (hs := refCommon_is (by assumption) (by omega) (by omega) _ _ _)) | ((refine iDraw ?_; (first | refine WC.drawAll rfl (by decide +kernel) ?_ | refine WC.draw 1 rfl (by decide +kernel) ?_ | refine WC.draw 2 rfl (by decide +kernel) ?_ | refine WC.draw 3 rfl (by decide +kernel) ?_ | refine WC.draw 4 rfl (by decide +kernel) ?_ | refine WC.draw 5 rfl (by decide +kernel) ?_ | refine WC.draw 6 rfl (by decide +kernel) ?_ | refine WC.draw 7 rfl (by decide +kernel) ?_ | refine WC.draw 8 rfl (by decide +kernel) ?_ | refine WC.draw 9 rfl (by decide +kernel) ?_ | refine WC.draw 10 rfl (by decide +kernel) ?_ | refine WC.draw 11 rfl (by decide +kernel) ?_ | refine WC.draw 12 rfl (by decide +kernel) ?_ | refine WC.draw 13 rfl (by decide +kernel) ?_ | refine WC.draw 14 rfl (by decide +kernel) ?_ | refine WC.draw 15 rfl (by decide +kernel) ?_ | refine WC.draw 16 rfl (by decide +kernel) ?_ | refine WC.draw 17 rfl (by decide +kernel) ?_ | refine WC.draw 18 rfl (by decide +kernel) ?_ | refine WC.draw 19 rfl (by decide +kernel) ?_ | refine WC.draw 20 rfl (by decide +kernel) ?_ | refine WC.draw 21 rfl (by decide +kernel) ?_ | refine WC.draw 22 rfl (by decide +kernel) ?_ | refine WC.draw 23 rfl (by decide +kernel) ?_ | refine WC.draw 24 rfl (by decide +kernel) ?_)); (repeat (refine WD.cons rfl (fun c h => by cases h) sq_R21_1 ?_)); refine WD.nil ?_)); (try (refine st ?_; (repeat intro zzc))))); (repeat ((first | (refine iF 77 rfl ?_; refine w_callG Try.func77 ?_ (hs := weight_any _ _ (by assumption) (by omega) _ _ _)) | (refine iF 45 rfl ?_; refine w_callG Try.func45 ?_ (hs := refCommon_is (by assumption) (by omega) (by omega) _ _ _)) | ((refine iDraw ?_; (first | refine WC.drawAll rfl (by decide +kernel) ?_ | refine WC.draw 1 rfl (by decide +kernel) ?_ | refine WC.draw 2 rfl (by decide +kernel) ?_ | refine WC.draw 3 rfl (by decide +kernel) ?_ | refine WC.draw 4 rfl (by decide +kernel) ?_ | refine WC.draw 5 rfl (by decide +kernel) ?_ | refine WC.draw 6 rfl (by decide +kernel) ?_ | refine WC.draw 7 rfl (by decide +kernel) ?_ | refine WC.draw 8 rfl (by decide +kernel) ?_ | refine WC.draw 9 rfl (by decide +kernel) ?_ | refine WC.draw 10 rfl (by decide +kernel) ?_ | refine WC.draw 11 rfl (by decide +kernel) ?_ | refine WC.draw 12 rfl (by decide +kernel) ?_ | refine WC.draw 13 rfl (by decide +kernel) ?_ | refine WC.draw 14 rfl (by decide +kernel) ?_ | refine WC.draw 15 rfl (by decide +kernel) ?_ | refine WC.draw 16 rfl (by decide +kernel) ?_ | refine WC.draw 17 rfl (by decide +kernel) ?_ | refine WC.draw 18 rfl (by decide +kernel) ?_ | refine WC.draw 19 rfl (by decide +kernel) ?_ | refine WC.draw 20 rfl (by decide +kernel) ?_ | refine WC.draw 21 rfl (by decide +kernel) ?_ | refine WC.draw 22 rfl (by decide +kernel) ?_ | refine WC.draw 23 rfl (by decide +kernel) ?_ | refine WC.draw 24 rfl (by decide +kernel) ?_)); (repeat (refine WD.cons rfl (fun c h => by cases h) sq_R21_1 ?_)); refine WD.nil ?_)); (try (refine st ?_; (repeat intro zzc))))); (repeat revert zzc); exact zzn.out) : G := h ⟨next⟩
theorem refCompare_any (a b : List UInt8) (ha : a.length ≤ 1048576) (hb : b.length ≤ 1048576) (w0 : World) (m : Mem) (H : SHeap) :
    Does Try.prog 43 #[str a, str b] w0 m H (Gives (.int .i64 (cmpL (W a) (W b))) m H) := by
  refine Does.of_body (args := [str a, str b]) Try.func43 rfl Try.ntmps43 rfl ?_
  have hpa := pieces_length a
  have hpb := pieces_length b
  have hWa := W_length a
  have hWb := W_length b
  have hma : ((pieces a).map Pc.cs).length = (pieces a).length := by simp
  have hmb : ((pieces b).map Pc.cs).length = (pieces b).length := by simp
  obtain ⟨P, X, Y, e1, e2, hcm, hst⟩ := cm_split (W a) (W b)
  have hl1 : (W a).length = P.length + X.length := by rw [e1]; simp
  have hl2 : (W b).length = P.length + Y.length := by rw [e2]; simp
  have hcl : cmpL (W a) (W b) = cmpL X Y := by rw [e1, e2, cmpL_pre]
  rw [hcl]
  (try (refine st_R21_1 ?_; intros))
  refine w_callF Try.func19 ?_ (hs := refPieces_any _ (by omega) _ _ _)
  rintro _ m _ ⟨x0, cx, rfl, rfl, rfl⟩
  (try (refine st_R21_1 ?_; intros))
  refine w_callF Try.func19 ?_ (hs := refPieces_any _ (by omega) _ _ _)
  rintro _ m _ ⟨y0, cy, rfl, rfl, rfl⟩
  cases X with
  | nil =>
    simp only [List.length_nil] at hl1
    cases Y with
    | nil =>
      simp only [List.length_nil] at hl2
      (try (refine st_R21_1 ?_; intros))
      (refine q_fin0 ?_)
      exact Gives.mk rfl
    | cons y Y =>
      simp only [List.length_cons] at hl2
      (try (refine st_R21_1 ?_; intros))
      (refine q_fin0 ?_)
      exact Gives.mk rfl
  | cons x X =>
    simp only [List.length_cons] at hl1
    obtain ⟨p, hget1, hmem1, hw1⟩ := W_at (l := a) (n := P.length) (x := x) (by rw [e1]; simp)
    have hok1 := mem_ok hmem1
    refine WL.rowSome (a := x0) (by (repeat (first | exact List.Mem.head _ | apply List.Mem.tail))) (by omega) ?_
    rintro x1 rfl
    cases Y with
    | nil =>
      simp only [List.length_nil] at hl2
      (try (refine st_R21_1 ?_; intros))
      (refine q_fin0 ?_)
      exact Gives.mk rfl
    | cons y Y =>
      simp only [List.length_cons] at hl2
      obtain ⟨q, hget2, hmem2, hw2⟩ := W_at (l := b) (n := P.length) (x := y) (by rw [e2]; simp)
      have hok2 := mem_ok hmem2
      refine WL.rowSome (a := y0) (by (repeat (first | exact List.Mem.head _ | apply List.Mem.tail))) (by omega) ?_
      rintro y1 rfl
      have hne : x ≠ y := hst
      by_cases hlt : wt a p < wt b q
      · (try (refine st_R21_1 ?_; intros))
        (refine q_fin0 ?_)
        exact Gives.mk (vi (by simp only [cmpL]; rw [if_neg hne, if_pos (by omega)]))
      · (try (refine st_R21_1 ?_; intros))
        (refine q_fin0 ?_)
        exact Gives.mk (vi (by simp only [cmpL]; rw [if_neg hne, if_neg (by omega)]))
end Go.Proofs.Ytdmdabjaboigcaa

/-
  The walks of runes.Index and of the reference's, and of the law RunesHolds. No condition.
-/
namespace Go.Proofs.Ytdmdabjaboigcaa
open Go Go.Eng
set_option maxRecDepth 100000
set_option maxHeartbeats 4000000
set_option linter.all false
attribute [local irreducible] WL WC WQ QFun QLoop Does Q1 QRound QAssign Go.Addr.add
theorem index_any (l : List UInt8) (q : Int) (hl : l.length ≤ 1000000000) (w0 : World) (m : Mem) (H : SHeap) :
    Does Try.prog 46 #[str l, .int .i32 q] w0 m H (Gives (.int .i64 (idx (pieces l) q)) m H) := by
  refine Does.of_body (args := [str l, .int .i32 q]) Try.func46 rfl Try.ntmps46 rfl ?_
  have hpl := pieces_length l
  (refine st ?_; intros; rename_i b3 b4)
  refine w_callF Try.func38 ?_ (hs := pieces_any _ _ _ _)
  rintro _ m0 H0 ⟨b, rfl, rfl, rfl⟩
  (try (refine st ?_; intros))
  refine WC.persist (by (repeat (first | exact Out.here | apply Out.there))) ?_
  intro mp hle hb
  refine WC.rangeFunc (encs := fun p : Pc => [p.v]) (xs := pieces l) (Cap := TextAt b l) (lb := [.pointer (some ⟨b, 0, none⟩)]) (ps := [8]) (J := fun pre m' Hl => Hl = [.blk b4 (.cells [.int .i64 0].toArray 3 (0, 0)), .blk b3 (.cells [.int .i32 q].toArray 21 (0, 0))] ∧ noIdx pre q) (Jx := fun c pre m' Hl => c = .ret ∧ ∃ p0, ∃ x : Pc, pre = p0 ++ [x] ∧ noIdx p0 q ∧ ((x.r : Int) = q ∧ x.b = false) ∧ Hl = [.blk b4 (.cells [.int .i64 (x.at_ : Int)].toArray 3 (0, 0)), .blk b3 (.cells [.int .i32 q].toArray 21 (0, 0))]) rfl Try.func74 rfl rfl (pieces_seq l (by omega) b) hb (fun _ => rfl) rfl (.cons (.cons .nil)) ?_ ?_ ?_ ?_
  · exact ⟨rfl, fun _ h => by cases h⟩
  · rintro lp pre x post hxs m1 Hl ⟨rfl, hno⟩ hm1 Hfr hfr
    (try (refine st ?_; intros))
    refine WQ.assigned (.cons (.cons (.cons .nil))) (Mem.le.refl _) ?_
    intro Hfr2
    by_cases h1 : (x.r : Int) = q
    · cases hx : x.b with
      | true =>
        (try (refine st ?_; intros))
        exact WQ.roundOn (Hl := [_, _]) (fun w h => Pick.sat (by iterate 60 (try (first | exact Pick.all | (apply Pick.take; (· (repeat (first | exact Out.here | apply Out.there)))) | apply Pick.drop))) h) (Mem.le.refl _) ⟨rfl, noIdx_snoc hno (by rw [hx]; rintro ⟨_, h⟩; cases h)⟩
      | false =>
        (try (refine st ?_; intros))
        exact WQ.roundRet (Hl := [_, _]) (fun w h => Pick.sat (by iterate 60 (try (first | exact Pick.all | (apply Pick.take; (· (repeat (first | exact Out.here | apply Out.there)))) | apply Pick.drop))) h) (Mem.le.refl _) ⟨rfl, pre, x, rfl, hno, ⟨h1, hx⟩, rfl⟩
    · (try (refine st ?_; intros))
      exact WQ.roundOn (Hl := [_, _]) (fun w h => Pick.sat (by iterate 60 (try (first | exact Pick.all | (apply Pick.take; (· (repeat (first | exact Out.here | apply Out.there)))) | apply Pick.drop))) h) (Mem.le.refl _) ⟨rfl, noIdx_snoc hno (fun h => h1 h.1)⟩
  · rintro D m' Hl ⟨rfl, hno⟩ hm1
    have hid : idx (pieces l) q = -1 := by have := idx_pre [] hno; rwa [List.append_nil] at this
    (try (refine st ?_; intros))
    refine WQ.mark (List.perm_middle (l₁ := [_, _])) ?_
    refine q_fin1 (H0 := H) (hle.trans hm1) (Gives.mk (vi hid.symm)) (hd := (fun w h => Pick.sat (by iterate 60 (try (first | exact Pick.all | (apply Pick.take; (· (repeat (first | exact Out.here | apply Out.there)))) | apply Pick.drop))) h))
  · rintro D c pre m' Hl hpre ⟨rfl, p0, x, rfl, hno, hx, rfl⟩ hm1
    obtain ⟨post, hpost⟩ := hpre
    have hid : idx (pieces l) q = (x.at_ : Int) := by
      rw [← hpost, List.append_assoc, idx_pre _ hno]
      simp [idx, hx]
    (try (refine st ?_; intros))
    refine WQ.mark (List.perm_middle (l₁ := [_, _])) ?_
    refine q_fin1 (H0 := H) (hle.trans hm1) (Gives.mk (vi hid.symm)) (hd := (fun w h => Pick.sat (by iterate 60 (try (first | exact Pick.all | (apply Pick.take; (· (repeat (first | exact Out.here | apply Out.there)))) | apply Pick.drop))) h))
theorem refIndex_any (l : List UInt8) (q : Int) (hl : l.length ≤ 1048576) (w0 : World) (m : Mem) (H : SHeap) :
    Does Try.prog 47 #[str l, .int .i32 q] w0 m H (Gives (.int .i64 (idx (pieces l) q)) m H) := by
  refine Does.of_body (args := [str l, .int .i32 q]) Try.func47 rfl Try.ntmps47 rfl ?_
  have hpl := pieces_length l
  (try (refine st ?_; intros))
  refine w_callF Try.func19 ?_ (hs := refPieces_any _ (by omega) _ _ _)
  rintro _ m _ ⟨a, cap, rfl, rfl, rfl⟩
  have hpm : ((pieces l).map Pc.cs).length = (pieces l).length := by simp
  (try (refine st ?_; intros))
  refine WC.loopH [(10, .int .i64 ((0) : Int)), (9, .int .i64 (((pieces l).map Pc.cs).length : Int)), (8, .slice a ((pieces l).map Pc.cs).length cap), (1, .int .i32 q)] ?_ ?_ (fun j r ds m' H' => ∃ i, j = (pieces l).length - i ∧ r = [(10, .int .i64 (i : Int)), (9, .int .i64 (((pieces l).map Pc.cs).length : Int)), (8, .slice a ((pieces l).map Pc.cs).length cap), (1, .int .i32 q)] ∧ ds = [] ∧ m = m' ∧ H' = .row a cap 24 4 ((pieces l).map Pc.cs) :: H ∧ (i ≤ (pieces l).length) ∧ (noIdx ((pieces l).take i) q)) ((pieces l).length - (0)) ⟨0, rfl, rfl, rfl, rfl, rfl, by omega, by intro p hp; simp at hp⟩ ?_
  · (repeat (first | exact Env.Sub.nil | refine Env.Sub.cons rfl ?_))
  · exact (fun w h => Pick.sat (by iterate 60 (try (first | exact Pick.all | (apply Pick.take; (· (repeat (first | exact Out.here | apply Out.there)))) | apply Pick.drop))) h)
  rintro j r ds m' H' ⟨i, rfl, rfl, rfl, rfl, rfl, hi, hno⟩
  by_cases hlt : i < (pieces l).length
  · obtain ⟨x, hx, hget, htk, hmem, hdr⟩ := at_idx (f := Pc.cs) hlt
    refine WC.rowSome (a := a) (by (repeat (first | exact List.Mem.head _ | apply List.Mem.tail))) (by omega) ?_
    rintro a0 rfl
    cases hb : x.b with
    | true =>
      have hb2 : (!x.b) = false := by rw [hb]; rfl
      (try (refine st ?_; intros))
      refine WQ.next ((pieces l).length - (i + 1)) ⟨i + 1, rfl, rfl, rfl, rfl, rfl, ?_, ?_⟩ (by omega) (by (repeat (first | exact Env.Sub.nil | refine Env.Sub.cons rfl ?_))) (fun w h => Pick.sat (by iterate 60 (try (first | exact Pick.all | (apply Pick.take; (· (repeat (first | exact Out.here | apply Out.there)))) | apply Pick.drop))) h)
      · omega
      · rw [htk]; exact noIdx_snoc hno (by rw [hb]; rintro ⟨_, h⟩; cases h)
    | false =>
      have hb2 : (!x.b) = true := by rw [hb]; rfl
      by_cases h1 : (x.r : Int) = q
      · have hid : idx (pieces l) q = (x.at_ : Int) := by
          rw [← List.take_append_drop i (pieces l), idx_pre _ hno, hdr]
          simp [idx, h1, hb]
        (try (refine st ?_; intros))
        (refine q_fin0 ?_)
        exact Gives.mk (vi hid.symm)
      · (try (refine st ?_; intros))
        refine WQ.next ((pieces l).length - (i + 1)) ⟨i + 1, rfl, rfl, rfl, rfl, rfl, ?_, ?_⟩ (by omega) (by (repeat (first | exact Env.Sub.nil | refine Env.Sub.cons rfl ?_))) (fun w h => Pick.sat (by iterate 60 (try (first | exact Pick.all | (apply Pick.take; (· (repeat (first | exact Out.here | apply Out.there)))) | apply Pick.drop))) h)
        · omega
        · rw [htk]; exact noIdx_snoc hno (fun h => h1 h.1)
  · have hid : idx (pieces l) q = -1 := by
      rw [List.take_of_length_le (by omega)] at hno
      have := idx_pre [] hno; rwa [List.append_nil] at this
    (try (refine st ?_; intros))
    (refine q_fin0 ?_)
    exact Gives.mk (vi hid.symm)
end Go.Proofs.Ytdmdabjaboigcaa

