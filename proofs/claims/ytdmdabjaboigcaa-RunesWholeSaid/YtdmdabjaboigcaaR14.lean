/-
  The walks of the law's own comparisons, and of the reference's Broken and Parts. No condition.
-/
import Derived.Test.YtdmdabjaboigcaaR13
import Derived.Test.YtdmdabjaboigcaaEngP
namespace Go.Proofs.Ytdmdabjaboigcaa
open Go Go.Eng
set_option maxRecDepth 100000
set_option maxHeartbeats 4000000
set_option linter.all false
attribute [local irreducible] WL WC WQ QFun QLoop Does Q1 QRound QAssign Go.Addr.add
def iI (k : Int) : List Value := [.int .i64 k]
theorem ints_same {a b : Option Addr} {ca cb : Nat} {es : List (List Value)} {w0 : World} {m : Mem} {H : SHeap} (hl : es.length ≤ 5000000000000) (hes : ∃ xs : List Int, es = xs.map iI) (ha : RowR w0 m H 1 a es) (hb : RowR w0 m H 1 b es) :
    Does Try.prog 25 #[.slice a es.length ca, .slice b es.length cb] w0 m H (Gives (.bool true) m H) := by
  obtain ⟨xs, rfl⟩ := hes
  refine Does.of_body (args := [.slice a (xs.map iI).length ca, .slice b (xs.map iI).length cb]) Try.func25 rfl Try.ntmps25 rfl ?_
  have hln : (xs.map iI).length = xs.length := by simp
  (try (refine st ?_; intros))
  refine WC.loopH [(13, .int .i64 ((0) : Int)), (12, .int .i64 ((xs.map iI).length : Int)), (0, .slice a (xs.map iI).length ca), (1, .slice b (xs.map iI).length cb)] ?_ ?_ (fun j r ds m' H' => ∃ i, j = xs.length - i ∧ r = [(13, .int .i64 (i : Int)), (12, .int .i64 ((xs.map iI).length : Int)), (0, .slice a (xs.map iI).length ca), (1, .slice b (xs.map iI).length cb)] ∧ ds = [] ∧ m = m' ∧ H' = H ∧ (i ≤ xs.length)) (xs.length - (0)) ⟨0, rfl, rfl, rfl, rfl, rfl, by omega⟩ ?_
  · (repeat (first | exact Env.Sub.nil | refine Env.Sub.cons rfl ?_))
  · exact (fun w h => Pick.sat (by iterate 60 (try (first | exact Pick.all | (apply Pick.take; (· (repeat (first | exact Out.here | apply Out.there)))) | apply Pick.drop))) h)
  rintro j r ds m' H' ⟨i, rfl, rfl, rfl, rfl, rfl, hi⟩
  by_cases hlt : i < xs.length
  · obtain ⟨x, hx, hget, htk, hmem, hdr⟩ := at_idx (f := iI) hlt
    have hpos : 0 < (xs.map iI).length := by simp; omega
    refine WC.rSome ha hpos ?_
    rintro a0 rfl
    refine WC.rSome hb hpos ?_
    rintro b0 rfl
    (try (refine st ?_; intros))
    refine WQ.next (xs.length - (i + 1)) ⟨i + 1, rfl, rfl, rfl, rfl, rfl, ?_⟩ (by omega) (by (repeat (first | exact Env.Sub.nil | refine Env.Sub.cons rfl ?_))) (fun w h => Pick.sat (by iterate 60 (try (first | exact Pick.all | (apply Pick.take; (· (repeat (first | exact Out.here | apply Out.there)))) | apply Pick.drop))) h)
    omega
  · (try (refine st ?_; intros))
    (refine q_fin0 ?_)
    exact Gives.mk rfl
theorem runes_same {a b : Option Addr} {ca cb : Nat} {es : List (List Value)} {w0 : World} {m : Mem} {H : SHeap} (hl : es.length ≤ 5000000000000) (hes : ∃ xs : List Nat, es = xs.map rV) (ha : RowR w0 m H 1 a es) (hb : RowR w0 m H 1 b es) :
    Does Try.prog 48 #[.slice a es.length ca, .slice b es.length cb] w0 m H (Gives (.bool true) m H) := by
  obtain ⟨xs, rfl⟩ := hes
  refine Does.of_body (args := [.slice a (xs.map rV).length ca, .slice b (xs.map rV).length cb]) Try.func48 rfl Try.ntmps48 rfl ?_
  have hln : (xs.map rV).length = xs.length := by simp
  (try (refine st ?_; intros))
  refine WC.loopH [(13, .int .i64 ((0) : Int)), (12, .int .i64 ((xs.map rV).length : Int)), (0, .slice a (xs.map rV).length ca), (1, .slice b (xs.map rV).length cb)] ?_ ?_ (fun j r ds m' H' => ∃ i, j = xs.length - i ∧ r = [(13, .int .i64 (i : Int)), (12, .int .i64 ((xs.map rV).length : Int)), (0, .slice a (xs.map rV).length ca), (1, .slice b (xs.map rV).length cb)] ∧ ds = [] ∧ m = m' ∧ H' = H ∧ (i ≤ xs.length)) (xs.length - (0)) ⟨0, rfl, rfl, rfl, rfl, rfl, by omega⟩ ?_
  · (repeat (first | exact Env.Sub.nil | refine Env.Sub.cons rfl ?_))
  · exact (fun w h => Pick.sat (by iterate 60 (try (first | exact Pick.all | (apply Pick.take; (· (repeat (first | exact Out.here | apply Out.there)))) | apply Pick.drop))) h)
  rintro j r ds m' H' ⟨i, rfl, rfl, rfl, rfl, rfl, hi⟩
  by_cases hlt : i < xs.length
  · obtain ⟨x, hx, hget, htk, hmem, hdr⟩ := at_idx (f := rV) hlt
    have hpos : 0 < (xs.map rV).length := by simp; omega
    refine WC.rSome ha hpos ?_
    rintro a0 rfl
    refine WC.rSome hb hpos ?_
    rintro b0 rfl
    (try (refine st ?_; intros))
    refine WQ.next (xs.length - (i + 1)) ⟨i + 1, rfl, rfl, rfl, rfl, rfl, ?_⟩ (by omega) (by (repeat (first | exact Env.Sub.nil | refine Env.Sub.cons rfl ?_))) (fun w h => Pick.sat (by iterate 60 (try (first | exact Pick.all | (apply Pick.take; (· (repeat (first | exact Out.here | apply Out.there)))) | apply Pick.drop))) h)
    omega
  · (try (refine st ?_; intros))
    (refine q_fin0 ?_)
    exact Gives.mk rfl
theorem eq_part (a b a' b' : Int) (d d' : Bool) : eqB Try.prog 8 44 (.agg #[.int .i64 a, .int .i64 b, .bool d]) (.agg #[.int .i64 a', .int .i64 b', .bool d']) = some ((a == a' && (b == b' && true)) && (d == d' && true)) := by kernel_rfl
theorem eq_part_same (p : Pt) : eqB Try.prog 8 44 (.agg p.cs.toArray) (.agg p.cs.toArray) = some true := (eq_part _ _ _ _ _ _).trans (by simp)
theorem eq_piece_same (p : Pc) : eqB Try.prog 8 24 (.agg p.cs.toArray) (.agg p.cs.toArray) = some true := (eq_piece _ _ _ _ _ _ _ _).trans (by rw [dcd_true ⟨rfl, rfl, rfl, rfl⟩])
theorem sq_R14_1 {G : Prop} (h : G := by (repeat (first | (refine sp ?_; (repeat intro zzc)) | (refine iB_eql rfl ?_; refine w_eqlV ?_ (he := eq_part_same _)) | (refine iB_neq rfl ?_; refine w_neqV ?_ (he := eq_part_same _)))); exact WQ.q1 rfl) : G := h
theorem st_R14_1 {G G' : Prop} (next : G') (h : Bx G' → G := by intro zzn; (first | ((refine st ?_; (repeat intro zzc)); (try ((first | (refine iB_eql rfl ?_; refine w_eqlV ?_ (he := eq_part_same _)) | (refine iB_neq rfl ?_; refine w_neqV ?_ (he := eq_part_same _)) | ((refine iDraw ?_; (first | refine WC.drawAll rfl (by decide +kernel) ?_ | refine WC.draw 1 rfl (by decide +kernel) ?_ | refine WC.draw 2 rfl (by decide +kernel) ?_ | refine WC.draw 3 rfl (by decide +kernel) ?_ | refine WC.draw 4 rfl (by decide +kernel) ?_ | refine WC.draw 5 rfl (by decide +kernel) ?_ | refine WC.draw 6 rfl (by decide +kernel) ?_ | refine WC.draw 7 rfl (by decide +kernel) ?_ | refine WC.draw 8 rfl (by decide +kernel) ?_ | refine WC.draw 9 rfl (by decide +kernel) ?_ | refine WC.draw 10 rfl (by decide +kernel) ?_ | refine WC.draw 11 rfl (by decide +kernel) ?_ | refine WC.draw 12 rfl (by decide +kernel) ?_ | refine WC.draw 13 rfl (by decide +kernel) ?_ | refine WC.draw 14 rfl (by decide +kernel) ?_ | refine WC.draw 15 rfl (by decide +kernel) ?_ | refine WC.draw 16 rfl (by decide +kernel) ?_ | refine WC.draw 17 rfl (by decide +kernel) ?_ | refine WC.draw 18 rfl (by decide +kernel) ?_ | refine WC.draw 19 rfl (by decide +kernel) ?_ | refine WC.draw 20 rfl (by decide +kernel) ?_ | refine WC.draw 21 rfl (by decide +kernel) ?_ | refine WC.draw 22 rfl (by decide +kernel) ?_ | refine WC.draw 23 rfl (by decide +kernel) ?_ | refine WC.draw 24 rfl (by decide +kernel) ?_)); (repeat (refine WD.cons rfl (fun c h => by cases h) sq_R14_1 ?_)); refine WD.nil ?_)); (try (refine st ?_; (repeat intro zzc)))))) | ((first | (refine iB_eql rfl ?_; refine w_eqlV ?_ (he := eq_part_same _)) | (refine iB_neq rfl ?_; refine w_neqV ?_ (he := eq_part_same _)) | ((refine iDraw ?_; (first | refine WC.drawAll rfl (by decide +kernel) ?_ | refine WC.draw 1 rfl (by decide +kernel) ?_ | refine WC.draw 2 rfl (by decide +kernel) ?_ | refine WC.draw 3 rfl (by decide +kernel) ?_ | refine WC.draw 4 rfl (by decide +kernel) ?_ | refine WC.draw 5 rfl (by decide +kernel) ?_ | refine WC.draw 6 rfl (by decide +kernel) ?_ | refine WC.draw 7 rfl (by decide +kernel) ?_ | refine WC.draw 8 rfl (by decide +kernel) ?_ | refine WC.draw 9 rfl (by decide +kernel) ?_ | refine WC.draw 10 rfl (by decide +kernel) ?_ | refine WC.draw 11 rfl (by decide +kernel) ?_ | refine WC.draw 12 rfl (by decide +kernel) ?_ | refine WC.draw 13 rfl (by decide +kernel) ?_ | refine WC.draw 14 rfl (by decide +kernel) ?_ | refine WC.draw 15 rfl (by decide +kernel) ?_ | refine WC.draw 16 rfl (by decide +kernel) ?_ | refine WC.draw 17 rfl (by decide +kernel) ?_ | refine WC.draw 18 rfl (by decide +kernel) ?_ | refine WC.draw 19 rfl (by decide +kernel) ?_ | refine WC.draw 20 rfl (by decide +kernel) ?_ | refine WC.draw 21 rfl (by decide +kernel) ?_ | refine WC.draw 22 rfl (by decide +kernel) ?_ | refine WC.draw 23 rfl (by decide +kernel) ?_ | refine WC.draw 24 rfl (by decide +kernel) ?_)); (repeat (refine WD.cons rfl (fun c h => by cases h) sq_R14_1 ?_)); refine WD.nil ?_)); (try (refine st ?_; (repeat intro zzc))))); (repeat ((first | (refine iB_eql rfl ?_; refine w_eqlV ?_ (he := eq_part_same _)) | (refine iB_neq rfl ?_; refine w_neqV ?_ (he := eq_part_same _)) | ((refine iDraw ?_; (first | refine WC.drawAll rfl (by decide +kernel) ?_ | refine WC.draw 1 rfl (by decide +kernel) ?_ | refine WC.draw 2 rfl (by decide +kernel) ?_ | refine WC.draw 3 rfl (by decide +kernel) ?_ | refine WC.draw 4 rfl (by decide +kernel) ?_ | refine WC.draw 5 rfl (by decide +kernel) ?_ | refine WC.draw 6 rfl (by decide +kernel) ?_ | refine WC.draw 7 rfl (by decide +kernel) ?_ | refine WC.draw 8 rfl (by decide +kernel) ?_ | refine WC.draw 9 rfl (by decide +kernel) ?_ | refine WC.draw 10 rfl (by decide +kernel) ?_ | refine WC.draw 11 rfl (by decide +kernel) ?_ | refine WC.draw 12 rfl (by decide +kernel) ?_ | refine WC.draw 13 rfl (by decide +kernel) ?_ | refine WC.draw 14 rfl (by decide +kernel) ?_ | refine WC.draw 15 rfl (by decide +kernel) ?_ | refine WC.draw 16 rfl (by decide +kernel) ?_ | refine WC.draw 17 rfl (by decide +kernel) ?_ | refine WC.draw 18 rfl (by decide +kernel) ?_ | refine WC.draw 19 rfl (by decide +kernel) ?_ | refine WC.draw 20 rfl (by decide +kernel) ?_ | refine WC.draw 21 rfl (by decide +kernel) ?_ | refine WC.draw 22 rfl (by decide +kernel) ?_ | refine WC.draw 23 rfl (by decide +kernel) ?_ | refine WC.draw 24 rfl (by decide +kernel) ?_)); (repeat (refine WD.cons rfl (fun c h => by cases h) sq_R14_1 ?_)); refine WD.nil ?_)); (try (refine st ?_; (repeat intro zzc))))); (repeat revert zzc); exact zzn.out) : G := h ⟨next⟩
theorem parts_same {a b : Option Addr} {ca cb : Nat} {es : List (List Value)} {w0 : World} {m : Mem} {H : SHeap} (hl : es.length ≤ 5000000000000) (hes : ∃ xs : List Pt, es = xs.map Pt.cs) (ha : RowR w0 m H 3 a es) (hb : RowR w0 m H 3 b es) :
    Does Try.prog 26 #[.slice a es.length ca, .slice b es.length cb] w0 m H (Gives (.bool true) m H) := by
  obtain ⟨xs, rfl⟩ := hes
  refine Does.of_body (args := [.slice a (xs.map Pt.cs).length ca, .slice b (xs.map Pt.cs).length cb]) Try.func26 rfl Try.ntmps26 rfl ?_
  have hln : (xs.map Pt.cs).length = xs.length := by simp
  (try (refine st_R14_1 ?_; intros))
  refine WC.loopH [(13, .int .i64 ((0) : Int)), (12, .int .i64 ((xs.map Pt.cs).length : Int)), (0, .slice a (xs.map Pt.cs).length ca), (1, .slice b (xs.map Pt.cs).length cb)] ?_ ?_ (fun j r ds m' H' => ∃ i, j = xs.length - i ∧ r = [(13, .int .i64 (i : Int)), (12, .int .i64 ((xs.map Pt.cs).length : Int)), (0, .slice a (xs.map Pt.cs).length ca), (1, .slice b (xs.map Pt.cs).length cb)] ∧ ds = [] ∧ m = m' ∧ H' = H ∧ (i ≤ xs.length)) (xs.length - (0)) ⟨0, rfl, rfl, rfl, rfl, rfl, by omega⟩ ?_
  · (repeat (first | exact Env.Sub.nil | refine Env.Sub.cons rfl ?_))
  · exact (fun w h => Pick.sat (by iterate 60 (try (first | exact Pick.all | (apply Pick.take; (· (repeat (first | exact Out.here | apply Out.there)))) | apply Pick.drop))) h)
  rintro j r ds m' H' ⟨i, rfl, rfl, rfl, rfl, rfl, hi⟩
  by_cases hlt : i < xs.length
  · obtain ⟨x, hx, hget, htk, hmem, hdr⟩ := at_idx (f := Pt.cs) hlt
    have hpos : 0 < (xs.map Pt.cs).length := by simp; omega
    refine WC.rSome ha hpos ?_
    rintro a0 rfl
    refine WC.rSome hb hpos ?_
    rintro b0 rfl
    (try (refine st_R14_1 ?_; intros))
    refine WQ.next (xs.length - (i + 1)) ⟨i + 1, rfl, rfl, rfl, rfl, rfl, ?_⟩ (by omega) (by (repeat (first | exact Env.Sub.nil | refine Env.Sub.cons rfl ?_))) (fun w h => Pick.sat (by iterate 60 (try (first | exact Pick.all | (apply Pick.take; (· (repeat (first | exact Out.here | apply Out.there)))) | apply Pick.drop))) h)
    omega
  · (try (refine st_R14_1 ?_; intros))
    (refine q_fin0 ?_)
    exact Gives.mk rfl
theorem sq_R14_2 {G : Prop} (h : G := by (repeat (first | (refine sp ?_; (repeat intro zzc)) | (refine iB_eql rfl ?_; refine w_eqlV ?_ (he := eq_piece_same _)) | (refine iB_neq rfl ?_; refine w_neqV ?_ (he := eq_piece_same _)))); exact WQ.q1 rfl) : G := h
theorem st_R14_2 {G G' : Prop} (next : G') (h : Bx G' → G := by intro zzn; (first | ((refine st ?_; (repeat intro zzc)); (try ((first | (refine iB_eql rfl ?_; refine w_eqlV ?_ (he := eq_piece_same _)) | (refine iB_neq rfl ?_; refine w_neqV ?_ (he := eq_piece_same _)) | ((refine iDraw ?_; (first | refine WC.drawAll rfl (by decide +kernel) ?_ | refine WC.draw 1 rfl (by decide +kernel) ?_ | refine WC.draw 2 rfl (by decide +kernel) ?_ | refine WC.draw 3 rfl (by decide +kernel) ?_ | refine WC.draw 4 rfl (by decide +kernel) ?_ | refine WC.draw 5 rfl (by decide +kernel) ?_ | refine WC.draw 6 rfl (by decide +kernel) ?_ | refine WC.draw 7 rfl (by decide +kernel) ?_ | refine WC.draw 8 rfl (by decide +kernel) ?_ | refine WC.draw 9 rfl (by decide +kernel) ?_ | refine WC.draw 10 rfl (by decide +kernel) ?_ | refine WC.draw 11 rfl (by decide +kernel) ?_ | refine WC.draw 12 rfl (by decide +kernel) ?_ | refine WC.draw 13 rfl (by decide +kernel) ?_ | refine WC.draw 14 rfl (by decide +kernel) ?_ | refine WC.draw 15 rfl (by decide +kernel) ?_ | refine WC.draw 16 rfl (by decide +kernel) ?_ | refine WC.draw 17 rfl (by decide +kernel) ?_ | refine WC.draw 18 rfl (by decide +kernel) ?_ | refine WC.draw 19 rfl (by decide +kernel) ?_ | refine WC.draw 20 rfl (by decide +kernel) ?_ | refine WC.draw 21 rfl (by decide +kernel) ?_ | refine WC.draw 22 rfl (by decide +kernel) ?_ | refine WC.draw 23 rfl (by decide +kernel) ?_ | refine WC.draw 24 rfl (by decide +kernel) ?_)); (repeat (refine WD.cons rfl (fun c h => by cases h) sq_R14_2 ?_)); refine WD.nil ?_)); (try (refine st ?_; (repeat intro zzc)))))) | ((first | (refine iB_eql rfl ?_; refine w_eqlV ?_ (he := eq_piece_same _)) | (refine iB_neq rfl ?_; refine w_neqV ?_ (he := eq_piece_same _)) | ((refine iDraw ?_; (first | refine WC.drawAll rfl (by decide +kernel) ?_ | refine WC.draw 1 rfl (by decide +kernel) ?_ | refine WC.draw 2 rfl (by decide +kernel) ?_ | refine WC.draw 3 rfl (by decide +kernel) ?_ | refine WC.draw 4 rfl (by decide +kernel) ?_ | refine WC.draw 5 rfl (by decide +kernel) ?_ | refine WC.draw 6 rfl (by decide +kernel) ?_ | refine WC.draw 7 rfl (by decide +kernel) ?_ | refine WC.draw 8 rfl (by decide +kernel) ?_ | refine WC.draw 9 rfl (by decide +kernel) ?_ | refine WC.draw 10 rfl (by decide +kernel) ?_ | refine WC.draw 11 rfl (by decide +kernel) ?_ | refine WC.draw 12 rfl (by decide +kernel) ?_ | refine WC.draw 13 rfl (by decide +kernel) ?_ | refine WC.draw 14 rfl (by decide +kernel) ?_ | refine WC.draw 15 rfl (by decide +kernel) ?_ | refine WC.draw 16 rfl (by decide +kernel) ?_ | refine WC.draw 17 rfl (by decide +kernel) ?_ | refine WC.draw 18 rfl (by decide +kernel) ?_ | refine WC.draw 19 rfl (by decide +kernel) ?_ | refine WC.draw 20 rfl (by decide +kernel) ?_ | refine WC.draw 21 rfl (by decide +kernel) ?_ | refine WC.draw 22 rfl (by decide +kernel) ?_ | refine WC.draw 23 rfl (by decide +kernel) ?_ | refine WC.draw 24 rfl (by decide +kernel) ?_)); (repeat (refine WD.cons rfl (fun c h => by cases h) sq_R14_2 ?_)); refine WD.nil ?_)); (try (refine st ?_; (repeat intro zzc))))); (repeat ((first | (refine iB_eql rfl ?_; refine w_eqlV ?_ (he := eq_piece_same _)) | (refine iB_neq rfl ?_; refine w_neqV ?_ (he := eq_piece_same _)) | ((refine iDraw ?_; (first | refine WC.drawAll rfl (by decide +kernel) ?_ | refine WC.draw 1 rfl (by decide +kernel) ?_ | refine WC.draw 2 rfl (by decide +kernel) ?_ | refine WC.draw 3 rfl (by decide +kernel) ?_ | refine WC.draw 4 rfl (by decide +kernel) ?_ | refine WC.draw 5 rfl (by decide +kernel) ?_ | refine WC.draw 6 rfl (by decide +kernel) ?_ | refine WC.draw 7 rfl (by decide +kernel) ?_ | refine WC.draw 8 rfl (by decide +kernel) ?_ | refine WC.draw 9 rfl (by decide +kernel) ?_ | refine WC.draw 10 rfl (by decide +kernel) ?_ | refine WC.draw 11 rfl (by decide +kernel) ?_ | refine WC.draw 12 rfl (by decide +kernel) ?_ | refine WC.draw 13 rfl (by decide +kernel) ?_ | refine WC.draw 14 rfl (by decide +kernel) ?_ | refine WC.draw 15 rfl (by decide +kernel) ?_ | refine WC.draw 16 rfl (by decide +kernel) ?_ | refine WC.draw 17 rfl (by decide +kernel) ?_ | refine WC.draw 18 rfl (by decide +kernel) ?_ | refine WC.draw 19 rfl (by decide +kernel) ?_ | refine WC.draw 20 rfl (by decide +kernel) ?_ | refine WC.draw 21 rfl (by decide +kernel) ?_ | refine WC.draw 22 rfl (by decide +kernel) ?_ | refine WC.draw 23 rfl (by decide +kernel) ?_ | refine WC.draw 24 rfl (by decide +kernel) ?_)); (repeat (refine WD.cons rfl (fun c h => by cases h) sq_R14_2 ?_)); refine WD.nil ?_)); (try (refine st ?_; (repeat intro zzc))))); (repeat revert zzc); exact zzn.out) : G := h ⟨next⟩
theorem pieces_same {a b : Option Addr} {ca cb : Nat} {es : List (List Value)} {w0 : World} {m : Mem} {H : SHeap} (hl : es.length ≤ 5000000000000) (hes : ∃ xs : List Pc, es = xs.map Pc.cs) (ha : RowR w0 m H 4 a es) (hb : RowR w0 m H 4 b es) :
    Does Try.prog 64 #[.slice a es.length ca, .slice b es.length cb] w0 m H (Gives (.bool true) m H) := by
  obtain ⟨xs, rfl⟩ := hes
  refine Does.of_body (args := [.slice a (xs.map Pc.cs).length ca, .slice b (xs.map Pc.cs).length cb]) Try.func64 rfl Try.ntmps64 rfl ?_
  have hln : (xs.map Pc.cs).length = xs.length := by simp
  (try (refine st_R14_2 ?_; intros))
  refine WC.loopH [(13, .int .i64 ((0) : Int)), (12, .int .i64 ((xs.map Pc.cs).length : Int)), (0, .slice a (xs.map Pc.cs).length ca), (1, .slice b (xs.map Pc.cs).length cb)] ?_ ?_ (fun j r ds m' H' => ∃ i, j = xs.length - i ∧ r = [(13, .int .i64 (i : Int)), (12, .int .i64 ((xs.map Pc.cs).length : Int)), (0, .slice a (xs.map Pc.cs).length ca), (1, .slice b (xs.map Pc.cs).length cb)] ∧ ds = [] ∧ m = m' ∧ H' = H ∧ (i ≤ xs.length)) (xs.length - (0)) ⟨0, rfl, rfl, rfl, rfl, rfl, by omega⟩ ?_
  · (repeat (first | exact Env.Sub.nil | refine Env.Sub.cons rfl ?_))
  · exact (fun w h => Pick.sat (by iterate 60 (try (first | exact Pick.all | (apply Pick.take; (· (repeat (first | exact Out.here | apply Out.there)))) | apply Pick.drop))) h)
  rintro j r ds m' H' ⟨i, rfl, rfl, rfl, rfl, rfl, hi⟩
  by_cases hlt : i < xs.length
  · obtain ⟨x, hx, hget, htk, hmem, hdr⟩ := at_idx (f := Pc.cs) hlt
    have hpos : 0 < (xs.map Pc.cs).length := by simp; omega
    refine WC.rSome ha hpos ?_
    rintro a0 rfl
    refine WC.rSome hb hpos ?_
    rintro b0 rfl
    (try (refine st_R14_2 ?_; intros))
    refine WQ.next (xs.length - (i + 1)) ⟨i + 1, rfl, rfl, rfl, rfl, rfl, ?_⟩ (by omega) (by (repeat (first | exact Env.Sub.nil | refine Env.Sub.cons rfl ?_))) (fun w h => Pick.sat (by iterate 60 (try (first | exact Pick.all | (apply Pick.take; (· (repeat (first | exact Out.here | apply Out.there)))) | apply Pick.drop))) h)
    omega
  · (try (refine st_R14_2 ?_; intros))
    (refine q_fin0 ?_)
    exact Gives.mk rfl
theorem sq_R14_3 {G : Prop} (h : G := by (repeat (first | (refine sp ?_; (repeat intro zzc)))); exact WQ.q1 rfl) : G := h
theorem st_R14_3 {G G' : Prop} (next : G') (h : Bx G' → G := by intro zzn; (first | ((refine st ?_; (repeat intro zzc)); (try ((first | ((refine iDraw ?_; (first | refine WC.drawAll rfl (by decide +kernel) ?_ | refine WC.draw 1 rfl (by decide +kernel) ?_ | refine WC.draw 2 rfl (by decide +kernel) ?_ | refine WC.draw 3 rfl (by decide +kernel) ?_ | refine WC.draw 4 rfl (by decide +kernel) ?_ | refine WC.draw 5 rfl (by decide +kernel) ?_ | refine WC.draw 6 rfl (by decide +kernel) ?_ | refine WC.draw 7 rfl (by decide +kernel) ?_ | refine WC.draw 8 rfl (by decide +kernel) ?_ | refine WC.draw 9 rfl (by decide +kernel) ?_ | refine WC.draw 10 rfl (by decide +kernel) ?_ | refine WC.draw 11 rfl (by decide +kernel) ?_ | refine WC.draw 12 rfl (by decide +kernel) ?_ | refine WC.draw 13 rfl (by decide +kernel) ?_ | refine WC.draw 14 rfl (by decide +kernel) ?_ | refine WC.draw 15 rfl (by decide +kernel) ?_ | refine WC.draw 16 rfl (by decide +kernel) ?_ | refine WC.draw 17 rfl (by decide +kernel) ?_ | refine WC.draw 18 rfl (by decide +kernel) ?_ | refine WC.draw 19 rfl (by decide +kernel) ?_ | refine WC.draw 20 rfl (by decide +kernel) ?_ | refine WC.draw 21 rfl (by decide +kernel) ?_ | refine WC.draw 22 rfl (by decide +kernel) ?_ | refine WC.draw 23 rfl (by decide +kernel) ?_ | refine WC.draw 24 rfl (by decide +kernel) ?_)); (repeat (refine WD.cons rfl (fun c h => by cases h) sq_R14_3 ?_)); refine WD.nil ?_)); (try (refine st ?_; (repeat intro zzc)))))) | ((first | ((refine iDraw ?_; (first | refine WC.drawAll rfl (by decide +kernel) ?_ | refine WC.draw 1 rfl (by decide +kernel) ?_ | refine WC.draw 2 rfl (by decide +kernel) ?_ | refine WC.draw 3 rfl (by decide +kernel) ?_ | refine WC.draw 4 rfl (by decide +kernel) ?_ | refine WC.draw 5 rfl (by decide +kernel) ?_ | refine WC.draw 6 rfl (by decide +kernel) ?_ | refine WC.draw 7 rfl (by decide +kernel) ?_ | refine WC.draw 8 rfl (by decide +kernel) ?_ | refine WC.draw 9 rfl (by decide +kernel) ?_ | refine WC.draw 10 rfl (by decide +kernel) ?_ | refine WC.draw 11 rfl (by decide +kernel) ?_ | refine WC.draw 12 rfl (by decide +kernel) ?_ | refine WC.draw 13 rfl (by decide +kernel) ?_ | refine WC.draw 14 rfl (by decide +kernel) ?_ | refine WC.draw 15 rfl (by decide +kernel) ?_ | refine WC.draw 16 rfl (by decide +kernel) ?_ | refine WC.draw 17 rfl (by decide +kernel) ?_ | refine WC.draw 18 rfl (by decide +kernel) ?_ | refine WC.draw 19 rfl (by decide +kernel) ?_ | refine WC.draw 20 rfl (by decide +kernel) ?_ | refine WC.draw 21 rfl (by decide +kernel) ?_ | refine WC.draw 22 rfl (by decide +kernel) ?_ | refine WC.draw 23 rfl (by decide +kernel) ?_ | refine WC.draw 24 rfl (by decide +kernel) ?_)); (repeat (refine WD.cons rfl (fun c h => by cases h) sq_R14_3 ?_)); refine WD.nil ?_)); (try (refine st ?_; (repeat intro zzc))))); (repeat ((first | ((refine iDraw ?_; (first | refine WC.drawAll rfl (by decide +kernel) ?_ | refine WC.draw 1 rfl (by decide +kernel) ?_ | refine WC.draw 2 rfl (by decide +kernel) ?_ | refine WC.draw 3 rfl (by decide +kernel) ?_ | refine WC.draw 4 rfl (by decide +kernel) ?_ | refine WC.draw 5 rfl (by decide +kernel) ?_ | refine WC.draw 6 rfl (by decide +kernel) ?_ | refine WC.draw 7 rfl (by decide +kernel) ?_ | refine WC.draw 8 rfl (by decide +kernel) ?_ | refine WC.draw 9 rfl (by decide +kernel) ?_ | refine WC.draw 10 rfl (by decide +kernel) ?_ | refine WC.draw 11 rfl (by decide +kernel) ?_ | refine WC.draw 12 rfl (by decide +kernel) ?_ | refine WC.draw 13 rfl (by decide +kernel) ?_ | refine WC.draw 14 rfl (by decide +kernel) ?_ | refine WC.draw 15 rfl (by decide +kernel) ?_ | refine WC.draw 16 rfl (by decide +kernel) ?_ | refine WC.draw 17 rfl (by decide +kernel) ?_ | refine WC.draw 18 rfl (by decide +kernel) ?_ | refine WC.draw 19 rfl (by decide +kernel) ?_ | refine WC.draw 20 rfl (by decide +kernel) ?_ | refine WC.draw 21 rfl (by decide +kernel) ?_ | refine WC.draw 22 rfl (by decide +kernel) ?_ | refine WC.draw 23 rfl (by decide +kernel) ?_ | refine WC.draw 24 rfl (by decide +kernel) ?_)); (repeat (refine WD.cons rfl (fun c h => by cases h) sq_R14_3 ?_)); refine WD.nil ?_)); (try (refine st ?_; (repeat intro zzc))))); (repeat revert zzc); exact zzn.out) : G := h ⟨next⟩
theorem refBroken_any (l : List UInt8) (hl : l.length ≤ 5000000000000) (w0 : World) (m : Mem) (H : SHeap) :
    Does Try.prog 20 #[str l] w0 m H (MakesRow 3 1 ((brokenOf (pieces l)).map iV) m H) := by
  refine Does.of_body (args := [str l]) Try.func20 rfl Try.ntmps20 rfl ?_
  have hpl := pieces_length l
  (try (refine st_R14_3 ?_; intros))
  refine w_callF Try.func19 ?_ (hs := refPieces_any _ hl _ _ _)
  rintro _ m H1 ⟨a, cap, rfl, rfl, rfl⟩
  have hpm : ((pieces l).map Pc.cs).length = (pieces l).length := by simp
  (try (refine st_R14_3 ?_; intros))
  refine WC.newRow (T := 3) (sz := 1) ?_
  refine WC.loopH [(9, .int .i64 ((0) : Int)), (8, .int .i64 (((pieces l).map Pc.cs).length : Int)), (7, .slice a ((pieces l).map Pc.cs).length cap), (3, .slice (none) (0) (0))] ?_ ?_ (fun j r ds m' H' => ∃ i a3 cap3 k es, j = (pieces l).length - i ∧ r = [(9, .int .i64 (i : Int)), (8, .int .i64 (((pieces l).map Pc.cs).length : Int)), (7, .slice a ((pieces l).map Pc.cs).length cap), (3, .slice a3 k cap3)] ∧ ds = [] ∧ m = m' ∧ H' = .row a3 cap3 3 1 es :: .row a cap 24 4 ((pieces l).map Pc.cs) :: H ∧ (i ≤ (pieces l).length) ∧ (k = es.length) ∧ (es = (brokenOf ((pieces l).take i)).map iV)) ((pieces l).length - (0)) ⟨0, none, 0, 0, [], rfl, rfl, rfl, rfl, rfl, by omega, rfl, rfl⟩ ?_
  · (repeat (first | exact Env.Sub.nil | refine Env.Sub.cons rfl ?_))
  · exact (fun w h => Pick.sat (by iterate 60 (try (first | exact Pick.all | (apply Pick.take; (· (repeat (first | exact Out.here | apply Out.there)))) | apply Pick.drop))) h)
  rintro j r ds m' H' ⟨i, a3, cap3, k, es, rfl, rfl, rfl, rfl, rfl, hi, rfl, hes⟩
  have hbl := brokenOf_length ((pieces l).take i)
  have hbm : es.length = (brokenOf ((pieces l).take i)).length := by simp [hes]
  have htl : ((pieces l).take i).length ≤ i := by simp; omega
  by_cases hlt : i < (pieces l).length
  · obtain ⟨x, hx, hget, htk, hmem, hdr⟩ := at_idx (f := Pc.cs) hlt
    have hsn := brokenOf_snoc ((pieces l).take i) x
    rw [← htk] at hsn
    refine WC.rowSome (a := a) (by (repeat (first | exact List.Mem.head _ | apply List.Mem.tail))) (by omega) ?_
    rintro a0 rfl
    cases hb : x.b with
    | true =>
      (refine st_R14_3 ?_; intros; rename_i ak ck)
      refine WQ.next ((pieces l).length - (i + 1)) ⟨i + 1, ak, ck, _, _, rfl, rfl, rfl, rfl, rfl, ?_, ?_, ?_⟩ (by omega) (by (repeat (first | exact Env.Sub.nil | refine Env.Sub.cons rfl ?_))) (fun w h => Pick.sat (by iterate 60 (try (first | exact Pick.all | (apply Pick.take; (· (repeat (first | exact Out.here | apply Out.there)))) | apply Pick.drop))) h)
      · omega
      · simp
      · simp [hsn, hb, hes, iV]
    | false =>
      (try (refine st_R14_3 ?_; intros))
      refine WQ.next ((pieces l).length - (i + 1)) ⟨i + 1, a3, cap3, _, _, rfl, rfl, rfl, rfl, rfl, ?_, ?_, ?_⟩ (by omega) (by (repeat (first | exact Env.Sub.nil | refine Env.Sub.cons rfl ?_))) (fun w h => Pick.sat (by iterate 60 (try (first | exact Pick.all | (apply Pick.take; (· (repeat (first | exact Out.here | apply Out.there)))) | apply Pick.drop))) h)
      · omega
      · rfl
      · simp [hsn, hb, hes]
  · obtain rfl : i = (pieces l).length := by omega
    rw [List.take_length] at *
    (try (refine st_R14_3 ?_; intros))
    refine q_fin0 (H0 := .row a3 cap3 3 1 _ :: H) ⟨a3, cap3, ?_, rfl, ?_⟩ (hd := (fun w h => h.sublist (by repeat (first | exact List.Sublist.refl _ | apply List.Sublist.cons_cons | apply List.Sublist.cons))))
    · rw [hes]
    · rw [hes]
theorem refParts_any (l : List UInt8) (hl : l.length ≤ 5000000000000) (w0 : World) (m : Mem) (H : SHeap) :
    Does Try.prog 27 #[str l] w0 m H (MakesRow 44 3 ((partsOf (pieces l)).map Pt.cs) m H) := by
  refine Does.of_body (args := [str l]) Try.func27 rfl Try.ntmps27 rfl ?_
  have hpl := pieces_length l
  (try (refine st_R14_3 ?_; intros))
  refine w_callF Try.func19 ?_ (hs := refPieces_any _ hl _ _ _)
  rintro _ m H1 ⟨a, cap, rfl, rfl, rfl⟩
  have hpm : ((pieces l).map Pc.cs).length = (pieces l).length := by simp
  (try (refine st_R14_3 ?_; intros))
  refine WC.newRow (T := 44) (sz := 3) ?_
  refine WC.loopH [(10, .int .i64 ((0) : Int)), (9, .int .i64 (((pieces l).map Pc.cs).length : Int)), (8, .slice a ((pieces l).map Pc.cs).length cap), (3, .slice (none) (0) (0))] ?_ ?_ (fun j r ds m' H' => ∃ i a3 cap3 k es, j = (pieces l).length - i ∧ r = [(10, .int .i64 (i : Int)), (9, .int .i64 (((pieces l).map Pc.cs).length : Int)), (8, .slice a ((pieces l).map Pc.cs).length cap), (3, .slice a3 k cap3)] ∧ ds = [] ∧ m = m' ∧ H' = .row a3 cap3 44 3 es :: .row a cap 24 4 ((pieces l).map Pc.cs) :: H ∧ (i ≤ (pieces l).length) ∧ (k = es.length) ∧ (es = (partsOf ((pieces l).take i)).map Pt.cs)) ((pieces l).length - (0)) ⟨0, none, 0, 0, [], rfl, rfl, rfl, rfl, rfl, by omega, rfl, rfl⟩ ?_
  · (repeat (first | exact Env.Sub.nil | refine Env.Sub.cons rfl ?_))
  · exact (fun w h => Pick.sat (by iterate 60 (try (first | exact Pick.all | (apply Pick.take; (· (repeat (first | exact Out.here | apply Out.there)))) | apply Pick.drop))) h)
  rintro j r ds m' H' ⟨i, a3, cap3, k, es, rfl, rfl, rfl, rfl, rfl, hi, rfl, hes⟩
  have hbl := partsOf_length ((pieces l).take i)
  have htl : ((pieces l).take i).length ≤ i := by simp; omega
  by_cases hlt : i < (pieces l).length
  · obtain ⟨x, hx, hget, htk, hmem, hdr⟩ := at_idx (f := Pc.cs) hlt
    obtain ⟨hx1, hx2, hx3⟩ : x.at_ < l.length ∧ x.w ≤ 4 ∧ 1 ≤ x.w := by
      have := pieces_split (l := l) (pre := (pieces l).take i) (p := x) (post := (pieces l).drop (i + 1)) (by rw [← hdr, List.take_append_drop])
      have h2 := readP_w this.1
      rw [← this.2.1] at h2
      omega
    have hsn := partsOf_snoc ((pieces l).take i) x
    rw [← htk] at hsn
    generalize partsOf ((pieces l).take i) = acc at hbl hsn hes
    subst hes
    refine WC.rowSome (a := a) (by (repeat (first | exact List.Mem.head _ | apply List.Mem.tail))) (by omega) ?_
    rintro a0 rfl
    rcases nil_or_snoc acc with rfl | ⟨ys, q, rfl⟩
    · rw [addPart_nil] at hsn
      have h0 : (([] : List Pt).map Pt.cs).length = 0 := rfl
      (refine st_R14_3 ?_; intros; rename_i ak ck)
      refine WQ.next ((pieces l).length - (i + 1)) ⟨i + 1, ak, ck, _, _, rfl, rfl, rfl, rfl, rfl, ?_, ?_, ?_⟩ (by omega) (by (repeat (first | exact Env.Sub.nil | refine Env.Sub.cons rfl ?_))) (fun w h => Pick.sat (by iterate 60 (try (first | exact Pick.all | (apply Pick.take; (· (repeat (first | exact Out.here | apply Out.there)))) | apply Pick.drop))) h)
      · omega
      · simp
      · simp [hsn, Pt.cs]
    · have h1 : (ys ++ [q]).length = ys.length + 1 := by simp
      have h2 : ((ys ++ [q]).map Pt.cs).length = ys.length + 1 := by simp
      have hg : ((ys ++ [q]).map Pt.cs)[((ys ++ [q]).map Pt.cs).length - 1]? = some q.cs := by simp
      refine WC.rowSome (a := a3) (by (repeat (first | exact List.Mem.head _ | apply List.Mem.tail))) (by omega) ?_
      rintro a4 rfl
      cases hq : (q.b == x.b) with
      | true =>
        rw [addPart_eq (by simpa using hq)] at hsn
        (try (refine st_R14_3 ?_; intros))
        refine WQ.next ((pieces l).length - (i + 1)) ⟨i + 1, some a4, cap3, _, _, rfl, rfl, rfl, rfl, rfl, ?_, ?_, ?_⟩ (by omega) (by (repeat (first | exact Env.Sub.nil | refine Env.Sub.cons rfl ?_))) (fun w h => Pick.sat (by iterate 60 (try (first | exact Pick.all | (apply Pick.take; (· (repeat (first | exact Out.here | apply Out.there)))) | apply Pick.drop))) h)
        · omega
        · simp
        · rw [hsn]; simp [Pt.cs]
      | false =>
        rw [addPart_ne (by simpa using hq)] at hsn
        (refine st_R14_3 ?_; intros; rename_i ak ck)
        refine WQ.next ((pieces l).length - (i + 1)) ⟨i + 1, ak, ck, _, _, rfl, rfl, rfl, rfl, rfl, ?_, ?_, ?_⟩ (by omega) (by (repeat (first | exact Env.Sub.nil | refine Env.Sub.cons rfl ?_))) (fun w h => Pick.sat (by iterate 60 (try (first | exact Pick.all | (apply Pick.take; (· (repeat (first | exact Out.here | apply Out.there)))) | apply Pick.drop))) h)
        · omega
        · simp
        · simp [hsn, Pt.cs]
  · obtain rfl : i = (pieces l).length := by omega
    rw [List.take_length] at *
    (try (refine st_R14_3 ?_; intros))
    refine q_fin0 (H0 := .row a3 cap3 44 3 _ :: H) ⟨a3, cap3, ?_, rfl, ?_⟩ (hd := (fun w h => h.sublist (by repeat (first | exact List.Sublist.refl _ | apply List.Sublist.cons_cons | apply List.Sublist.cons))))
    · rw [hes]
    · rw [hes]
end Go.Proofs.Ytdmdabjaboigcaa
