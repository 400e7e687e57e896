/-
  The walks of runes.Mend, Reverse, and of the reference's. No condition.
-/
import Derived.Test.YtdmdabjaboigcaaR24
namespace Go.Proofs.Ytdmdabjaboigcaa
open Go Go.Eng
set_option maxRecDepth 100000
set_option maxHeartbeats 4000000
set_option linter.all false
attribute [local irreducible] WL WC WQ QFun QLoop Does Q1 QRound QAssign Go.Addr.add
theorem bV_eq (w : List UInt8) : w.map bV = w.map (fun b => [Value.int .u8 (b.toNat : Int)]) := rfl
theorem mendOf_len {l w : List UInt8} (hw : w.length ≤ 64) : ∀ ps : List Pc, (∀ p ∈ ps, p.w ≤ 4) → (mendOf l w ps).length ≤ 64 * ps.length
  | [], _ => by simp [mendOf]
  | p :: ps, h => by
    have h1 := mendOf_len (l := l) hw ps (fun q hq => h q (List.mem_cons_of_mem _ hq))
    have h2 := h p List.mem_cons_self
    have h3 := txt_len l p
    have e : mendOf l w (p :: ps) = (if p.b then w else txt l p) ++ mendOf l w ps := by simp [mendOf]
    rw [e, List.length_append, List.length_cons]
    split <;> omega
theorem textsOf_len {l : List UInt8} : ∀ ps : List Pc, (∀ p ∈ ps, p.w ≤ 4) → (textsOf l ps).length ≤ 4 * ps.length
  | [], _ => by simp [textsOf]
  | p :: ps, h => by
    have h1 := textsOf_len (l := l) ps (fun q hq => h q (List.mem_cons_of_mem _ hq))
    have h2 := h p List.mem_cons_self
    have h3 := txt_len l p
    have e : textsOf l (p :: ps) = txt l p ++ textsOf l ps := by simp [textsOf]
    rw [e, List.length_append, List.length_cons]
    omega
theorem text_any (l : List UInt8) (p : Pc) (hp : p.at_ < l.length ∧ 1 ≤ p.w ∧ p.w ≤ 4 ∧ p.at_ + p.w ≤ l.length) (hl : l.length ≤ 1000000000) (w0 : World) (m : Mem) (H : SHeap) :
    Does Try.prog 78 #[str l, p.v] w0 m H (Gives (str (txt l p)) m H) := by
  refine Does.of_body (args := [str l, p.v]) Try.func78 rfl Try.ntmps78 rfl ?_
  (try (refine st ?_; intros))
  (refine q_fin0 ?_)
  exact Gives.mk rfl
theorem mend_any (l w : List UInt8) (hl : l.length ≤ 1048576) (hw : w.length ≤ 64) (w0 : World) (m : Mem) (H : SHeap) :
    Does Try.prog 49 #[str l, str w] w0 m H (Gives (str (mendOf l w (pieces l))) m H) := by
  refine Does.of_body (args := [str l, str w]) Try.func49 rfl Try.ntmps49 rfl ?_
  have hpl := pieces_length l
  (refine st ?_; intros; rename_i b2 b3 b5)
  refine w_callF Try.func38 ?_ (hs := pieces_any _ _ _ _)
  rintro _ m0 H0 ⟨b, rfl, rfl, rfl⟩
  (try (refine st ?_; intros))
  refine WC.newRow (T := 5) (sz := 1) ?_
  refine WC.persist (by (repeat (first | exact Out.here | apply Out.there))) ?_
  intro mp hle hb
  refine WC.rangeFunc (encs := fun p : Pc => [p.v]) (xs := pieces l) (Cap := TextAt b l) (lb := [.pointer (some ⟨b, 0, none⟩)]) (ps := [9]) (J := fun pre m' Hl => ∃ a cap, Hl = [.row a cap 5 1 ((mendOf l w pre).map bV), .blk b5 (.cells [.slice a (mendOf l w pre).length cap].toArray 90 (0, 0)), .blk b3 (.cells [str w].toArray 9 (0, 0)), .blk b2 (.cells [str l].toArray 9 (0, 0))]) (Jx := fun c pre m' Hl => False) rfl Try.func74 rfl rfl (pieces_seq l (by omega) b) hb (fun _ => rfl) rfl (.cons (.cons (.cons (.cons .nil)))) ?_ ?_ ?_ ?_
  · exact ⟨none, 0, rfl⟩
  · rintro lp pre x post hxs m1 Hl ⟨a, cap, rfl⟩ hm1 Hfr hfr
    have hpre : pre.length ≤ (pieces l).length := by rw [hxs]; simp
    have hmw := mem_w (l := l) (p := x) (by rw [hxs]; simp)
    have hln := mendOf_len (l := l) hw pre (fun p hp => (mem_w (l := l) (by rw [hxs]; exact List.mem_append_left _ hp)).2.2.1)
    have hml : ((mendOf l w pre).map bV).length = (mendOf l w pre).length := by simp
    have hsn := mendOf_snoc l w pre x
    have htx := txt_len l x
    have htd : txt l x = (l.take (x.at_ + x.w)).drop x.at_ := rfl
    have htl : ((l.take (x.at_ + x.w)).drop x.at_).length ≤ x.w := htx
    (try (refine st ?_; intros))
    refine WQ.assigned (.cons (.cons (.cons (.cons (.cons .nil))))) (Mem.le.refl _) ?_
    intro Hfr2
    cases hx : x.b with
    | true =>
      rw [hx, if_pos rfl] at hsn
      (refine st ?_; intros; rename_i a2 c2)
      refine WQ.roundOn (Hl := [.row a2 c2 5 1 _, .blk b5 _, .blk b3 _, .blk b2 _]) (fun w h => Pick.sat (by iterate 60 (try (first | exact Pick.all | (apply Pick.take; (· (repeat (first | exact Out.here | apply Out.there)))) | apply Pick.drop))) h) (Mem.le.refl _) ⟨a2, c2, ?_⟩
      rw [hsn, bV_append]; simp
    | false =>
      rw [hx] at hsn
      simp only [Bool.false_eq_true, if_false] at hsn
      (refine st ?_; intros; rename_i a2 c2)
      refine WQ.roundOn (Hl := [.row a2 c2 5 1 _, .blk b5 _, .blk b3 _, .blk b2 _]) (fun w h => Pick.sat (by iterate 60 (try (first | exact Pick.all | (apply Pick.take; (· (repeat (first | exact Out.here | apply Out.there)))) | apply Pick.drop))) h) (Mem.le.refl _) ⟨a2, c2, ?_⟩
      rw [hsn, bV_append, htd]; simp
  · rintro D m' Hl ⟨a, cap, rfl⟩ hm1
    (try (refine st ?_; intros))
    refine WL.rowStr (s := mendOf l w (pieces l)) rfl rfl (by (repeat (first | exact List.Mem.head _ | apply List.Mem.tail))) rfl rfl rfl rfl rfl ?_
    (try (refine st ?_; intros))
    refine WQ.mark (List.perm_middle (l₁ := [_, _, _, _])) ?_
    refine q_fin1 (H0 := H) (hle.trans hm1) (Gives.mk rfl) (hd := (fun w h => Pick.sat (by iterate 60 (try (first | exact Pick.all | (apply Pick.take; (· (repeat (first | exact Out.here | apply Out.there)))) | apply Pick.drop))) h))
  · rintro D c pre m' Hl _ h _
    exact h.elim
theorem sq_R25_1 {G : Prop} (h : G := by (repeat (first | (refine sp ?_; (repeat intro zzc)) | (refine iF 78 rfl ?_; refine w_callG Try.func78 ?_ (hs := text_any _ _ (by assumption) (by omega) _ _ _)))); exact WQ.q1 rfl) : G := h
theorem st_R25_1 {G G' : Prop} (next : G') (h : Bx G' → G := by intro zzn; (first | ((refine st ?_; (repeat intro zzc)); (try ((first | (refine iF 78 rfl ?_; refine w_callG Try.func78 ?_ (hs := text_any _ _ (by assumption) (by omega) _ _ _)) | ((refine iDraw ?_; (first | refine WC.drawAll rfl (by decide +kernel) ?_ | refine WC.draw 1 rfl (by decide +kernel) ?_ | refine WC.draw 2 rfl (by decide +kernel) ?_ | refine WC.draw 3 rfl (by decide +kernel) ?_ | refine WC.draw 4 rfl (by decide +kernel) ?_ | refine WC.draw 5 rfl (by decide +kernel) ?_ | refine WC.draw 6 rfl (by decide +kernel) ?_ | refine WC.draw 7 rfl (by decide +kernel) ?_ | refine WC.draw 8 rfl (by decide +kernel) ?_ | refine WC.draw 9 rfl (by decide +kernel) ?_ | refine WC.draw 10 rfl (by decide +kernel) ?_ | refine WC.draw 11 rfl (by decide +kernel) ?_ | refine WC.draw 12 rfl (by decide +kernel) ?_ | refine WC.draw 13 rfl (by decide +kernel) ?_ | refine WC.draw 14 rfl (by decide +kernel) ?_ | refine WC.draw 15 rfl (by decide +kernel) ?_ | refine WC.draw 16 rfl (by decide +kernel) ?_ | refine WC.draw 17 rfl (by decide +kernel) ?_ | refine WC.draw 18 rfl (by decide +kernel) ?_ | refine WC.draw 19 rfl (by decide +kernel) ?_ | refine WC.draw 20 rfl (by decide +kernel) ?_ | refine WC.draw 21 rfl (by decide +kernel) ?_ | refine WC.draw 22 rfl (by decide +kernel) ?_ | refine WC.draw 23 rfl (by decide +kernel) ?_ | refine WC.draw 24 rfl (by decide +kernel) ?_)); (repeat (refine WD.cons rfl (fun c h => by cases h) sq_R25_1 ?_)); refine WD.nil ?_)); (try (refine st ?_; (repeat intro zzc)))))) | ((first | (refine iF 78 rfl ?_; refine w_callG Try.func78 ?_ (hs := text_any _ _ (by assumption) (by omega) _ _ _)) | ((refine iDraw ?_; (first | refine WC.drawAll rfl (by decide +kernel) ?_ | refine WC.draw 1 rfl (by decide +kernel) ?_ | refine WC.draw 2 rfl (by decide +kernel) ?_ | refine WC.draw 3 rfl (by decide +kernel) ?_ | refine WC.draw 4 rfl (by decide +kernel) ?_ | refine WC.draw 5 rfl (by decide +kernel) ?_ | refine WC.draw 6 rfl (by decide +kernel) ?_ | refine WC.draw 7 rfl (by decide +kernel) ?_ | refine WC.draw 8 rfl (by decide +kernel) ?_ | refine WC.draw 9 rfl (by decide +kernel) ?_ | refine WC.draw 10 rfl (by decide +kernel) ?_ | refine WC.draw 11 rfl (by decide +kernel) ?_ | refine WC.draw 12 rfl (by decide +kernel) ?_ | refine WC.draw 13 rfl (by decide +kernel) ?_ | refine WC.draw 14 rfl (by decide +kernel) ?_ | refine WC.draw 15 rfl (by decide +kernel) ?_ | refine WC.draw 16 rfl (by decide +kernel) ?_ | refine WC.draw 17 rfl (by decide +kernel) ?_ | refine WC.draw 18 rfl (by decide +kernel) ?_ | refine WC.draw 19 rfl (by decide +kernel) ?_ | refine WC.draw 20 rfl (by decide +kernel) ?_ | refine WC.draw 21 rfl (by decide +kernel) ?_ | refine WC.draw 22 rfl (by decide +kernel) ?_ | refine WC.draw 23 rfl (by decide +kernel) ?_ | refine WC.draw 24 rfl (by decide +kernel) ?_)); (repeat (refine WD.cons rfl (fun c h => by cases h) sq_R25_1 ?_)); refine WD.nil ?_)); (try (refine st ?_; (repeat intro zzc))))); (repeat ((first | (refine iF 78 rfl ?_; refine w_callG Try.func78 ?_ (hs := text_any _ _ (by assumption) (by omega) _ _ _)) | ((refine iDraw ?_; (first | refine WC.drawAll rfl (by decide +kernel) ?_ | refine WC.draw 1 rfl (by decide +kernel) ?_ | refine WC.draw 2 rfl (by decide +kernel) ?_ | refine WC.draw 3 rfl (by decide +kernel) ?_ | refine WC.draw 4 rfl (by decide +kernel) ?_ | refine WC.draw 5 rfl (by decide +kernel) ?_ | refine WC.draw 6 rfl (by decide +kernel) ?_ | refine WC.draw 7 rfl (by decide +kernel) ?_ | refine WC.draw 8 rfl (by decide +kernel) ?_ | refine WC.draw 9 rfl (by decide +kernel) ?_ | refine WC.draw 10 rfl (by decide +kernel) ?_ | refine WC.draw 11 rfl (by decide +kernel) ?_ | refine WC.draw 12 rfl (by decide +kernel) ?_ | refine WC.draw 13 rfl (by decide +kernel) ?_ | refine WC.draw 14 rfl (by decide +kernel) ?_ | refine WC.draw 15 rfl (by decide +kernel) ?_ | refine WC.draw 16 rfl (by decide +kernel) ?_ | refine WC.draw 17 rfl (by decide +kernel) ?_ | refine WC.draw 18 rfl (by decide +kernel) ?_ | refine WC.draw 19 rfl (by decide +kernel) ?_ | refine WC.draw 20 rfl (by decide +kernel) ?_ | refine WC.draw 21 rfl (by decide +kernel) ?_ | refine WC.draw 22 rfl (by decide +kernel) ?_ | refine WC.draw 23 rfl (by decide +kernel) ?_ | refine WC.draw 24 rfl (by decide +kernel) ?_)); (repeat (refine WD.cons rfl (fun c h => by cases h) sq_R25_1 ?_)); refine WD.nil ?_)); (try (refine st ?_; (repeat intro zzc))))); (repeat revert zzc); exact zzn.out) : G := h ⟨next⟩
theorem refMend_any (l w : List UInt8) (hl : l.length ≤ 1048576) (hw : w.length ≤ 64) (w0 : World) (m : Mem) (H : SHeap) :
    Does Try.prog 52 #[str l, str w] w0 m H (Gives (str (mendOf l w (pieces l))) m H) := by
  refine Does.of_body (args := [str l, str w]) Try.func52 rfl Try.ntmps52 rfl ?_
  have hpl := pieces_length l
  have hpm : ((pieces l).map Pc.cs).length = (pieces l).length := by simp
  (try (refine st_R25_1 ?_; intros))
  refine w_callF Try.func19 ?_ (hs := refPieces_any _ (by omega) _ _ _)
  rintro _ m _ ⟨a, cap, rfl, rfl, rfl⟩
  (try (refine st_R25_1 ?_; intros))
  refine WC.newRow (T := 5) (sz := 1) ?_
  refine WC.loopH [(11, .int .i64 ((0) : Int)), (10, .int .i64 (((pieces l).map Pc.cs).length : Int)), (9, .slice a ((pieces l).map Pc.cs).length cap), (5, .slice (none) (0) (0)), (0, str l), (1, str w)] ?_ ?_ (fun j r ds m' H' => ∃ i b cb k S, j = (pieces l).length - i ∧ r = [(11, .int .i64 (i : Int)), (10, .int .i64 (((pieces l).map Pc.cs).length : Int)), (9, .slice a ((pieces l).map Pc.cs).length cap), (5, .slice b k cb), (0, str l), (1, str w)] ∧ ds = [] ∧ m = m' ∧ H' = .row b cb 5 1 (S.map bV) :: .row a cap 24 4 ((pieces l).map Pc.cs) :: H ∧ (i ≤ (pieces l).length) ∧ (k = (S.map bV).length) ∧ (S = mendOf l w ((pieces l).take i))) ((pieces l).length - (0)) ⟨0, none, 0, 0, [], rfl, rfl, rfl, rfl, rfl, by omega, rfl, rfl⟩ ?_
  · (repeat (first | exact Env.Sub.nil | refine Env.Sub.cons rfl ?_))
  · exact (fun w h => Pick.sat (by iterate 60 (try (first | exact Pick.all | (apply Pick.take; (· (repeat (first | exact Out.here | apply Out.there)))) | apply Pick.drop))) h)
  rintro j r ds m' H' ⟨i, b, cb, k, S, rfl, rfl, rfl, rfl, rfl, hi, rfl, hS⟩
  have hml : (S.map bV).length = S.length := by simp
  have hln := mendOf_len (l := l) hw ((pieces l).take i) (fun p hp => (mem_w (l := l) (List.mem_of_mem_take hp)).2.2.1)
  have htl : ((pieces l).take i).length ≤ i := by simp; omega
  rw [← hS] at hln
  by_cases hlt : i < (pieces l).length
  · obtain ⟨x, hx, hget, htk, hmem, hdr⟩ := at_idx (f := Pc.cs) hlt
    have hmw := mem_w hmem
    have htx := txt_len l x
    have hsn := mendOf_snoc l w ((pieces l).take i) x
    rw [← htk, ← hS] at hsn
    refine WC.rowSome (a := a) (by (repeat (first | exact List.Mem.head _ | apply List.Mem.tail))) (by omega) ?_
    rintro a0 rfl
    cases hb : x.b with
    | true =>
      rw [hb, if_pos rfl] at hsn
      (refine st_R25_1 ?_; intros; rename_i b2 cb2)
      rw [← bV_append]
      refine WQ.next ((pieces l).length - (i + 1)) ⟨i + 1, b2, cb2, _, S ++ w, rfl, rfl, rfl, rfl, rfl, ?_, ?_, ?_⟩ (by omega) (by (repeat (first | exact Env.Sub.nil | refine Env.Sub.cons rfl ?_))) (fun w h => Pick.sat (by iterate 60 (try (first | exact Pick.all | (apply Pick.take; (· (repeat (first | exact Out.here | apply Out.there)))) | apply Pick.drop))) h)
      · omega
      · simp
      · exact hsn.symm
    | false =>
      rw [hb] at hsn
      simp only [Bool.false_eq_true, if_false] at hsn
      (refine st_R25_1 ?_; intros; rename_i b2 cb2)
      rw [← bV_append]
      refine WQ.next ((pieces l).length - (i + 1)) ⟨i + 1, b2, cb2, _, S ++ txt l x, rfl, rfl, rfl, rfl, rfl, ?_, ?_, ?_⟩ (by omega) (by (repeat (first | exact Env.Sub.nil | refine Env.Sub.cons rfl ?_))) (fun w h => Pick.sat (by iterate 60 (try (first | exact Pick.all | (apply Pick.take; (· (repeat (first | exact Out.here | apply Out.there)))) | apply Pick.drop))) h)
      · omega
      · simp
      · exact hsn.symm
  · obtain rfl : i = (pieces l).length := by omega
    rw [List.take_length] at hS
    subst hS
    (try (refine st_R25_1 ?_; intros))
    refine WL.rowStr (s := mendOf l w (pieces l)) rfl hml (by (repeat (first | exact List.Mem.head _ | apply List.Mem.tail))) rfl rfl rfl rfl rfl ?_
    (try (refine st_R25_1 ?_; intros))
    (refine q_fin0 ?_)
    exact Gives.mk rfl
theorem reverse_any (l : List UInt8) (hl : l.length ≤ 1048576) (w0 : World) (m : Mem) (H : SHeap) :
    Does Try.prog 53 #[str l] w0 m H (Gives (str (textsOf l (pieces l).reverse)) m H) := by
  refine Does.of_body (args := [str l]) Try.func53 rfl Try.ntmps53 rfl ?_
  have hpl := pieces_length l
  (refine st_R25_1 ?_; intros; rename_i b1 b3)
  refine w_callF Try.func39 ?_ (hs := back_any _ _ _ _)
  rintro _ m0 H0 ⟨b, rfl, rfl, rfl⟩
  (try (refine st_R25_1 ?_; intros))
  refine WC.newRow (T := 5) (sz := 1) ?_
  refine WC.persist (by (repeat (first | exact Out.here | apply Out.there))) ?_
  intro mp hle hb
  refine WC.rangeFunc (encs := fun p : Pc => [p.v]) (xs := (pieces l).reverse) (Cap := TextAt b l) (lb := [.pointer (some ⟨b, 0, none⟩)]) (ps := [7]) (J := fun pre m' Hl => ∃ a cap, Hl = [.row a cap 5 1 ((textsOf l pre).map bV), .blk b3 (.cells [.slice a (textsOf l pre).length cap].toArray 90 (0, 0)), .blk b1 (.cells [str l].toArray 9 (0, 0))]) (Jx := fun c pre m' Hl => False) rfl Try.func75 rfl rfl (back_seq l (by omega) b) hb (fun _ => rfl) rfl (.cons (.cons (.cons .nil))) ?_ ?_ ?_ ?_
  · exact ⟨none, 0, rfl⟩
  · rintro lp pre x post hxs m1 Hl ⟨a, cap, rfl⟩ hm1 Hfr hfr
    have hin : ∀ p ∈ pre ++ [x], p ∈ pieces l := fun p hp => by
      have : p ∈ (pieces l).reverse := by rw [hxs]; rcases List.mem_append.1 hp with h | h; exact List.mem_append_left _ h; rw [List.mem_singleton.1 h]; simp
      exact List.mem_reverse.1 this
    have hpre : pre.length ≤ (pieces l).length := by have := congrArg List.length hxs; simp at this; omega
    have hmw := mem_w (l := l) (p := x) (hin x (by simp))
    have hln := textsOf_len (l := l) pre (fun p hp => (mem_w (l := l) (hin p (List.mem_append_left _ hp))).2.2.1)
    have hml : ((textsOf l pre).map bV).length = (textsOf l pre).length := by simp
    have hsn := textsOf_snoc l pre x
    have htx := txt_len l x
    have htd : txt l x = (l.take (x.at_ + x.w)).drop x.at_ := rfl
    have htl : ((l.take (x.at_ + x.w)).drop x.at_).length ≤ x.w := htx
    (try (refine st_R25_1 ?_; intros))
    refine WQ.assigned (.cons (.cons (.cons (.cons .nil)))) (Mem.le.refl _) ?_
    intro Hfr2
    (refine st_R25_1 ?_; intros; rename_i a2 c2)
    refine WQ.roundOn (Hl := [.row a2 c2 5 1 _, .blk b3 _, .blk b1 _]) (fun w h => Pick.sat (by iterate 60 (try (first | exact Pick.all | (apply Pick.take; (· (repeat (first | exact Out.here | apply Out.there)))) | apply Pick.drop))) h) (Mem.le.refl _) ⟨a2, c2, ?_⟩
    rw [hsn, bV_append, htd]; simp
  · rintro D m' Hl ⟨a, cap, rfl⟩ hm1
    (try (refine st_R25_1 ?_; intros))
    refine WL.rowStr (s := textsOf l (pieces l).reverse) rfl rfl (by (repeat (first | exact List.Mem.head _ | apply List.Mem.tail))) rfl rfl rfl rfl rfl ?_
    (try (refine st_R25_1 ?_; intros))
    refine WQ.mark (List.perm_middle (l₁ := [_, _, _])) ?_
    refine q_fin1 (H0 := H) (hle.trans hm1) (Gives.mk rfl) (hd := (fun w h => Pick.sat (by iterate 60 (try (first | exact Pick.all | (apply Pick.take; (· (repeat (first | exact Out.here | apply Out.there)))) | apply Pick.drop))) h))
  · rintro D c pre m' Hl _ h _
    exact h.elim
def sV (l : List UInt8) : List Value := [str l]
theorem refTexts_any (l : List UInt8) (hl : l.length ≤ 1048576) (w0 : World) (m : Mem) (H : SHeap) :
    Does Try.prog 79 #[str l] w0 m H (MakesRow 9 1 ((pieces l).map fun p => sV (txt l p)) m H) := by
  refine Does.of_body (args := [str l]) Try.func79 rfl Try.ntmps79 rfl ?_
  have hpl := pieces_length l
  have hpm : ((pieces l).map Pc.cs).length = (pieces l).length := by simp
  (try (refine st_R25_1 ?_; intros))
  refine w_callF Try.func19 ?_ (hs := refPieces_any _ (by omega) _ _ _)
  rintro _ m _ ⟨a, cap, rfl, rfl, rfl⟩
  (try (refine st_R25_1 ?_; intros))
  refine WC.newRow (T := 9) (sz := 1) ?_
  refine WC.loopH [(9, .int .i64 ((0) : Int)), (8, .int .i64 (((pieces l).map Pc.cs).length : Int)), (7, .slice a ((pieces l).map Pc.cs).length cap), (3, .slice (none) (0) (0)), (0, str l)] ?_ ?_ (fun j r ds m' H' => ∃ i b cb k es, j = (pieces l).length - i ∧ r = [(9, .int .i64 (i : Int)), (8, .int .i64 (((pieces l).map Pc.cs).length : Int)), (7, .slice a ((pieces l).map Pc.cs).length cap), (3, .slice b k cb), (0, str l)] ∧ ds = [] ∧ m = m' ∧ H' = .row b cb 9 1 es :: .row a cap 24 4 ((pieces l).map Pc.cs) :: H ∧ (i ≤ (pieces l).length) ∧ (k = es.length) ∧ (es = ((pieces l).take i).map fun p => sV (txt l p))) ((pieces l).length - (0)) ⟨0, none, 0, 0, [], rfl, rfl, rfl, rfl, rfl, by omega, rfl, rfl⟩ ?_
  · (repeat (first | exact Env.Sub.nil | refine Env.Sub.cons rfl ?_))
  · exact (fun w h => Pick.sat (by iterate 60 (try (first | exact Pick.all | (apply Pick.take; (· (repeat (first | exact Out.here | apply Out.there)))) | apply Pick.drop))) h)
  rintro j r ds m' H' ⟨i, b, cb, k, es, rfl, rfl, rfl, rfl, rfl, hi, rfl, hes⟩
  have hel : es.length ≤ i := by simp [hes]; omega
  by_cases hlt : i < (pieces l).length
  · obtain ⟨x, hx, hget, htk, hmem, hdr⟩ := at_idx (f := Pc.cs) hlt
    have hmw := mem_w hmem
    refine WC.rowSome (a := a) (by (repeat (first | exact List.Mem.head _ | apply List.Mem.tail))) (by omega) ?_
    rintro a0 rfl
    (refine st_R25_1 ?_; intros; rename_i b2 cb2)
    refine WQ.next ((pieces l).length - (i + 1)) ⟨i + 1, b2, cb2, _, _, rfl, rfl, rfl, rfl, rfl, ?_, ?_, ?_⟩ (by omega) (by (repeat (first | exact Env.Sub.nil | refine Env.Sub.cons rfl ?_))) (fun w h => Pick.sat (by iterate 60 (try (first | exact Pick.all | (apply Pick.take; (· (repeat (first | exact Out.here | apply Out.there)))) | apply Pick.drop))) h)
    · omega
    · simp
    · rw [htk, hes]; simp [sV]
  · obtain rfl : i = (pieces l).length := by omega
    rw [List.take_length] at hes
    (try (refine st_R25_1 ?_; intros))
    refine q_fin0 (H0 := .row b cb 9 1 _ :: H) ⟨b, cb, ?_, rfl, ?_⟩ (hd := (fun w h => Pick.sat (by iterate 60 (try (first | exact Pick.all | (apply Pick.take; (· (repeat (first | exact Out.here | apply Out.there)))) | apply Pick.drop))) h))
    · rw [← hes]
    · rw [← hes]
theorem texts_back (l : List UInt8) (ps : List Pc) : textsOf l ps = ps.flatMap (txt l) := rfl
theorem refReverse_any (l : List UInt8) (hl : l.length ≤ 1048576) (w0 : World) (m : Mem) (H : SHeap) :
    Does Try.prog 54 #[str l] w0 m H (Gives (str (textsOf l (pieces l).reverse)) m H) := by
  refine Does.of_body (args := [str l]) Try.func54 rfl Try.ntmps54 rfl ?_
  have hpl := pieces_length l
  have hpm : ((pieces l).map fun p => sV (txt l p)).length = (pieces l).length := by simp
  (try (refine st_R25_1 ?_; intros))
  refine w_callF Try.func79 ?_ (hs := refTexts_any _ (by omega) _ _ _)
  rintro _ m _ ⟨a, cap, rfl, rfl, rfl⟩
  (try (refine st_R25_1 ?_; intros))
  refine WC.newRow (T := 5) (sz := 1) ?_
  refine WC.loopH [(5, .int .i64 (((((pieces l).map fun p => sV (txt l p)).length : Int) - 1))), (4, .slice a ((pieces l).map fun p => sV (txt l p)).length cap), (3, .slice (none) (0) (0))] ?_ ?_ (fun j r ds m' H' => ∃ (q : Nat) (z : Int) (b : _) (cb : _) (k : _) (S : _), j = 2 * q ∧ r = [(5, .int .i64 z), (4, .slice a ((pieces l).map fun p => sV (txt l p)).length cap), (3, .slice b k cb)] ∧ ds = [] ∧ m = m' ∧ H' = .row b cb 5 1 (S.map bV) :: .row a cap 9 1 ((pieces l).map fun p => sV (txt l p)) :: H ∧ (q ≤ (pieces l).length) ∧ (z = (q : Int) - 1) ∧ (k = (S.map bV).length) ∧ (S = textsOf l ((pieces l).drop q).reverse)) (2 * ((pieces l).length)) ⟨(pieces l).length, ((((pieces l).map fun p => sV (txt l p)).length : Int) - 1), none, 0, 0, [], rfl, rfl, rfl, rfl, rfl, by omega, by rw [hpm], rfl, by rw [List.drop_length]; rfl⟩ ?_
  · (repeat (first | exact Env.Sub.nil | refine Env.Sub.cons rfl ?_))
  · exact (fun w h => Pick.sat (by iterate 60 (try (first | exact Pick.all | (apply Pick.take; (· (repeat (first | exact Out.here | apply Out.there)))) | apply Pick.drop))) h)
  rintro j r ds m' H' ⟨q, z, b, cb, k, S, rfl, rfl, rfl, rfl, rfl, hj, hz, rfl, hS⟩
  have hml : (S.map bV).length = S.length := by simp
  have hln := textsOf_len (l := l) ((pieces l).drop q).reverse (fun p hp => (mem_w (l := l) (List.mem_of_mem_drop (List.mem_reverse.1 hp))).2.2.1)
  rw [← hS] at hln
  simp only [List.length_reverse, List.length_drop] at hln
  by_cases h0 : 0 < q
  · obtain ⟨i, rfl⟩ : ∃ i, q = i + 1 := ⟨q - 1, by omega⟩
    obtain ⟨x, hx, hget, htk, hmem, hdr⟩ := at_idx (xs := pieces l) (f := fun p => sV (txt l p)) (i := i) (by omega)
    have hmw := mem_w hmem
    have htx := txt_len l x
    have hzi : z = (i : Int) := by omega
    subst hzi
    refine WC.rowSome (a := a) (by (repeat (first | exact List.Mem.head _ | apply List.Mem.tail))) (by omega) ?_
    rintro a0 rfl
    (refine st_R25_1 ?_; intros; rename_i b2 cb2)
    rw [← bV_append]
    refine WQ.next (2 * (i)) ⟨i, _, b2, cb2, _, S ++ txt l x, rfl, rfl, rfl, rfl, rfl, ?_, ?_, ?_, ?_⟩ (by omega) (by (repeat (first | exact Env.Sub.nil | refine Env.Sub.cons rfl ?_))) (fun w h => Pick.sat (by iterate 60 (try (first | exact Pick.all | (apply Pick.take; (· (repeat (first | exact Out.here | apply Out.there)))) | apply Pick.drop))) h)
    · omega
    · rfl
    · simp
    · rw [hdr, List.reverse_cons, textsOf_snoc, ← hS]
  · obtain rfl : q = 0 := by omega
    rw [List.drop_zero] at hS
    subst hS
    (try (refine st_R25_1 ?_; intros))
    refine WL.rowStr (s := textsOf l (pieces l).reverse) rfl hml (by (repeat (first | exact List.Mem.head _ | apply List.Mem.tail))) rfl rfl rfl rfl rfl ?_
    (try (refine st_R25_1 ?_; intros))
    (refine q_fin0 ?_)
    exact Gives.mk rfl
end Go.Proofs.Ytdmdabjaboigcaa
