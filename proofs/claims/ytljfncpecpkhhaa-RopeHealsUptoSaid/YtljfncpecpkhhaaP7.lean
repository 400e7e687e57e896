/-
  Parts of a walk, joined: O10 O11 O12. No condition.
-/
import Derived.Test.YtljfncpecpkhhaaP6
set_option linter.all false
/-
  The walks of ropes' Count and of the laws' works. No condition.
-/
namespace Go.Eng
def nBrk (ps : List Pc) : Nat := (ps.filter fun p => p.b).length
theorem nBrk_snoc (pre : List Pc) (x : Pc) : nBrk (pre ++ [x]) = nBrk pre + (if x.b then 1 else 0) := by
  unfold nBrk; rw [List.filter_append, List.length_append]; cases hx : x.b <;> simp [hx]
theorem nBrk_le (pre : List Pc) : nBrk pre ≤ pre.length := List.length_filter_le _ _
def tee : List UInt8 := [97, 195, 169, 10, 240, 159, 152, 128]
theorem tee_a : (pieces [97, 195]).length = 2 ∧ nBrk (pieces [97, 195]) = 1 := by decide
theorem tee_b : (pieces tee).length = 4 ∧ nBrk (pieces tee) = 0 := by decide
end Go.Eng
namespace Go.Proofs.Ytljfncpecpkhhaa
open Go Go.Eng
set_option maxRecDepth 100000
set_option maxHeartbeats 4000000
set_option linter.all false
attribute [local irreducible] WL WC WQ QFun QLoop Does Q1 QRound QAssign Go.Addr.add
attribute [local irreducible] nBrk
theorem count_any {p : Value} {s : List UInt8} (w0 : World) (m : Mem) (H : SHeap) (hp : RopeAt m p s) :
    Does Try.prog 25 #[p] w0 m H (fun v m' H' => m.le m' ∧ H' = H ∧ v = .tuple #[.int .i64 ((pieces s).length : Int), .int .i64 (nBrk (pieces s) : Int)]) := by
  obtain ⟨b, rfl⟩ := ropes_ptr hp
  obtain ⟨o, hT, ho⟩ := hp.node
  have hl := hp.len
  refine Does.of_body (args := [.pointer (some ⟨b, 0, none⟩)]) Try.func25 rfl Try.ntmps25 rfl ?_
  have hpl := pieces_length s
  (refine st ?_; intros; rename_i b4 b5)
  refine w_callF Try.func23 ?_ (hs := piecesIt_any _ _ _)
  rintro v0 m H0 ⟨bi, rfl, rfl, rfl⟩
  refine WL.persist (b := bi) (by (repeat (first | exact Out.here | apply Out.there))) ?_
  intro m1 hle1 hbi
  (try (refine st ?_; intros))
  have hin : RopeIn bi (.pointer (some ⟨b, 0, none⟩)) o m1 := ⟨hbi, hT.le hle1⟩
  have hseq := ropePieces_seq (b := bi) (p := .pointer (some ⟨b, 0, none⟩)) (o := o)
  rw [ho] at hseq
  refine WC.rangeFuncM (Hc := H) (encs := fun p : Pc => [p.v]) (xs := pieces s) (Cap := RopeIn bi (.pointer (some ⟨b, 0, none⟩)) o) (lb := [.pointer (some ⟨bi, 0, none⟩)]) (ps := [9])
    (J := fun pre _ Hl => Hl = [.blk b5 (.cells [.int .i64 (nBrk pre : Int)].toArray 3 (0, 0)), .blk b4 (.cells [.int .i64 (pre.length : Int)].toArray 3 (0, 0))]) (Jx := fun _ _ _ _ => False)
    rfl Try.func45 rfl rfl hseq hin (fun _ => rfl) rfl (fun _ _ _ _ h _ => h) (fun _ _ _ _ _ h _ => h) (.cons (.cons .nil)) ?_ ?_ ?_ ?_
  · rw [show nBrk [] = 0 from by unfold nBrk; rfl]; rfl
  · rintro lp pre x post hxs m2 Hl rfl hm2 Hfr hfr
    have hpre : pre.length ≤ (pieces s).length := by rw [hxs]; simp
    have hsn := nBrk_snoc pre x
    have hle3 := nBrk_le pre
    simp only [List.cons_append, List.nil_append]
    (try (refine st ?_; intros))
    refine WQ.assigned (.cons (.cons (.cons .nil))) (Mem.le.refl _) ?_
    intro Hfr2
    simp only [List.cons_append, List.nil_append]
    cases hx : x.b with
    | true =>
      rw [hx] at hsn
      (try (refine st ?_; intros))
      exact WQ.roundOn (Hl := [_, _]) (fun w h => h.drop) (Mem.le.refl _) (by rw [hsn, List.length_append]; rfl)
    | false =>
      rw [hx] at hsn
      (try (refine st ?_; intros))
      exact WQ.roundOn (Hl := [_, _]) (fun w h => h.drop) (Mem.le.refl _) (by rw [hsn, List.length_append]; rfl)
  · rintro D m2 Hl rfl hm2
    simp only [List.cons_append, List.nil_append]
    (try (refine st ?_; intros))
    refine WQ.mark (List.perm_middle (l₁ := [_, _])) ?_
    exact q_fin0 (H0 := H) ⟨hle1.trans hm2, rfl, rfl⟩ (hd := zpk)
  · rintro D c pre m' Hl _ h _
    exact h.elim
theorem sq_O10_1 {G : Prop} (h : G := by (repeat (first | (refine sp ?_; (repeat intro zzc)) | (refine iF 15 rfl ?_; refine w_callG Try.func15 ?_ (hs := text_any _ _ _ (by assumption))) | (refine iF 14 rfl ?_; refine w_callG Try.func14 ?_ (hs := same_any _ _ _ (by assumption) (by assumption))))); exact WQ.q1 rfl) : G := h
theorem st_O10_1 {G G' : Prop} (next : G') (h : Bx G' → G := by intro zzn; (first | ((refine st ?_; (repeat intro zzc)); (try ((first | (refine iF 15 rfl ?_; refine w_callG Try.func15 ?_ (hs := text_any _ _ _ (by assumption))) | (refine iF 14 rfl ?_; refine w_callG Try.func14 ?_ (hs := same_any _ _ _ (by assumption) (by assumption))) | ((refine iDraw ?_; (first | refine WC.drawAll rfl (by decide +kernel) ?_ | refine WC.draw 1 rfl (by decide +kernel) ?_ | refine WC.draw 2 rfl (by decide +kernel) ?_ | refine WC.draw 3 rfl (by decide +kernel) ?_ | refine WC.draw 4 rfl (by decide +kernel) ?_ | refine WC.draw 5 rfl (by decide +kernel) ?_ | refine WC.draw 6 rfl (by decide +kernel) ?_ | refine WC.draw 7 rfl (by decide +kernel) ?_ | refine WC.draw 8 rfl (by decide +kernel) ?_ | refine WC.draw 9 rfl (by decide +kernel) ?_ | refine WC.draw 10 rfl (by decide +kernel) ?_ | refine WC.draw 11 rfl (by decide +kernel) ?_ | refine WC.draw 12 rfl (by decide +kernel) ?_ | refine WC.draw 13 rfl (by decide +kernel) ?_ | refine WC.draw 14 rfl (by decide +kernel) ?_ | refine WC.draw 15 rfl (by decide +kernel) ?_ | refine WC.draw 16 rfl (by decide +kernel) ?_ | refine WC.draw 17 rfl (by decide +kernel) ?_ | refine WC.draw 18 rfl (by decide +kernel) ?_ | refine WC.draw 19 rfl (by decide +kernel) ?_ | refine WC.draw 20 rfl (by decide +kernel) ?_ | refine WC.draw 21 rfl (by decide +kernel) ?_ | refine WC.draw 22 rfl (by decide +kernel) ?_ | refine WC.draw 23 rfl (by decide +kernel) ?_ | refine WC.draw 24 rfl (by decide +kernel) ?_)); (repeat (refine WD.cons rfl (fun c h => by cases h) sq_O10_1 ?_)); refine WD.nil ?_)); (try (refine st ?_; (repeat intro zzc)))))) | ((first | (refine iF 15 rfl ?_; refine w_callG Try.func15 ?_ (hs := text_any _ _ _ (by assumption))) | (refine iF 14 rfl ?_; refine w_callG Try.func14 ?_ (hs := same_any _ _ _ (by assumption) (by assumption))) | ((refine iDraw ?_; (first | refine WC.drawAll rfl (by decide +kernel) ?_ | refine WC.draw 1 rfl (by decide +kernel) ?_ | refine WC.draw 2 rfl (by decide +kernel) ?_ | refine WC.draw 3 rfl (by decide +kernel) ?_ | refine WC.draw 4 rfl (by decide +kernel) ?_ | refine WC.draw 5 rfl (by decide +kernel) ?_ | refine WC.draw 6 rfl (by decide +kernel) ?_ | refine WC.draw 7 rfl (by decide +kernel) ?_ | refine WC.draw 8 rfl (by decide +kernel) ?_ | refine WC.draw 9 rfl (by decide +kernel) ?_ | refine WC.draw 10 rfl (by decide +kernel) ?_ | refine WC.draw 11 rfl (by decide +kernel) ?_ | refine WC.draw 12 rfl (by decide +kernel) ?_ | refine WC.draw 13 rfl (by decide +kernel) ?_ | refine WC.draw 14 rfl (by decide +kernel) ?_ | refine WC.draw 15 rfl (by decide +kernel) ?_ | refine WC.draw 16 rfl (by decide +kernel) ?_ | refine WC.draw 17 rfl (by decide +kernel) ?_ | refine WC.draw 18 rfl (by decide +kernel) ?_ | refine WC.draw 19 rfl (by decide +kernel) ?_ | refine WC.draw 20 rfl (by decide +kernel) ?_ | refine WC.draw 21 rfl (by decide +kernel) ?_ | refine WC.draw 22 rfl (by decide +kernel) ?_ | refine WC.draw 23 rfl (by decide +kernel) ?_ | refine WC.draw 24 rfl (by decide +kernel) ?_)); (repeat (refine WD.cons rfl (fun c h => by cases h) sq_O10_1 ?_)); refine WD.nil ?_)); (try (refine st ?_; (repeat intro zzc))))); (repeat ((first | (refine iF 15 rfl ?_; refine w_callG Try.func15 ?_ (hs := text_any _ _ _ (by assumption))) | (refine iF 14 rfl ?_; refine w_callG Try.func14 ?_ (hs := same_any _ _ _ (by assumption) (by assumption))) | ((refine iDraw ?_; (first | refine WC.drawAll rfl (by decide +kernel) ?_ | refine WC.draw 1 rfl (by decide +kernel) ?_ | refine WC.draw 2 rfl (by decide +kernel) ?_ | refine WC.draw 3 rfl (by decide +kernel) ?_ | refine WC.draw 4 rfl (by decide +kernel) ?_ | refine WC.draw 5 rfl (by decide +kernel) ?_ | refine WC.draw 6 rfl (by decide +kernel) ?_ | refine WC.draw 7 rfl (by decide +kernel) ?_ | refine WC.draw 8 rfl (by decide +kernel) ?_ | refine WC.draw 9 rfl (by decide +kernel) ?_ | refine WC.draw 10 rfl (by decide +kernel) ?_ | refine WC.draw 11 rfl (by decide +kernel) ?_ | refine WC.draw 12 rfl (by decide +kernel) ?_ | refine WC.draw 13 rfl (by decide +kernel) ?_ | refine WC.draw 14 rfl (by decide +kernel) ?_ | refine WC.draw 15 rfl (by decide +kernel) ?_ | refine WC.draw 16 rfl (by decide +kernel) ?_ | refine WC.draw 17 rfl (by decide +kernel) ?_ | refine WC.draw 18 rfl (by decide +kernel) ?_ | refine WC.draw 19 rfl (by decide +kernel) ?_ | refine WC.draw 20 rfl (by decide +kernel) ?_ | refine WC.draw 21 rfl (by decide +kernel) ?_ | refine WC.draw 22 rfl (by decide +kernel) ?_ | refine WC.draw 23 rfl (by decide +kernel) ?_ | refine WC.draw 24 rfl (by decide +kernel) ?_)); (repeat (refine WD.cons rfl (fun c h => by cases h) sq_O10_1 ?_)); refine WD.nil ?_)); (try (refine st ?_; (repeat intro zzc))))); (repeat revert zzc); exact zzn.out) : G := h ⟨next⟩
theorem works_any (w0 : World) (m : Mem) (H : SHeap) : Does Try.prog 11 #[] w0 m H (fun v m' H' => m.le m' ∧ H' = H ∧ v = .bool true) := by
  refine Does.of_body (args := []) Try.func11 rfl Try.ntmps11 rfl ?_
  (try (refine st_O10_1 ?_; intros))
  refine w_callF Try.func12 ?_ (hs := new_any tee (by decide) _ _ _)
  rintro v m1 H ⟨hle1, rfl, hv⟩
  obtain ⟨p, rfl, hp⟩ := hv
  (try (refine st_O10_1 ?_; intros))
  refine w_callF Try.func16 ?_ (hs := slice_any _ _ _ hp)
  rintro v m2 H ⟨hle2, rfl, pa, rfl, ha⟩
  replace hp := hp.le hle2
  (try (refine st_O10_1 ?_; intros))
  refine w_callF Try.func16 ?_ (hs := slice_any _ _ _ hp)
  rintro v m3 H ⟨hle3, rfl, pb, rfl, hb⟩
  replace hp := hp.le hle3
  replace ha := ha.le hle3
  have e1 : tee = [97, 195, 169, 10, 240, 159, 152, 128] := rfl
  have e2 : ([97, 195] : List UInt8) = [97, 195] := rfl
  have ha : RopeAt m3 pa [97, 195] := ha
  have hb : RopeAt m3 pb [169, 10, 240, 159, 152, 128] := hb
  (try (refine st_O10_1 ?_; intros))
  refine w_callF Try.func25 ?_ (hs := count_any _ _ _ ha)
  rintro v m4 H ⟨hle4, rfl, rfl⟩
  rw [tee_a.1, tee_a.2]
  replace hp := hp.le hle4
  replace ha := ha.le hle4
  replace hb := hb.le hle4
  (try (refine st_O10_1 ?_; intros))
  refine w_callF Try.func13 ?_ (hs := join_any _ _ _ ha hb)
  rintro v m5 H ⟨hle5, rfl, pq, rfl, hq⟩
  have hq : RopeAt m5 pq tee := hq
  replace hp := hp.le hle5
  replace ha := ha.le hle5
  (try (refine st_O10_1 ?_; intros))
  refine w_callF Try.func25 ?_ (hs := count_any _ _ _ hq)
  rintro v m6 H ⟨hle6, rfl, rfl⟩
  rw [tee_b.1, tee_b.2]
  replace hp := hp.le hle6
  replace ha := ha.le hle6
  replace hq := hq.le hle6
  have e3 : tee = tee := rfl
  have e4 : ¬ ([97, 195] : List UInt8) = tee := by decide
  (try (refine st_O10_1 ?_; intros))
  refine q_fin0 (H0 := H) ⟨hle1.trans (hle2.trans (hle3.trans (hle4.trans (hle5.trans hle6)))), rfl, ?_⟩ (hd := zpk)
  rw [dcd_false e4]; rfl
end Go.Proofs.Ytljfncpecpkhhaa

/-
  The walks of the laws RopeJoined and RopeHeals. No condition.
-/
namespace Go.Eng
end Go.Eng
namespace Go.Proofs.Ytljfncpecpkhhaa
open Go Go.Eng
set_option maxRecDepth 100000
set_option maxHeartbeats 4000000
set_option linter.all false
attribute [local irreducible] WL WC WQ QFun QLoop Does Q1 QRound QAssign Go.Addr.add
theorem works_true {w0 : World} {m0 m : Mem} {H : SHeap} (hle : m0.le m) : Does Try.prog 11 #[] w0 m H (fun v m' H' => m0.le m' ∧ H' = H ∧ v = .bool true) :=
  (works_any w0 m H).mono fun v m' H' ⟨h1, h2, h3⟩ => ⟨hle.trans h1, h2, h3⟩
end Go.Proofs.Ytljfncpecpkhhaa

/-
  The walk of the law RopeHeals. No condition.
-/
namespace Go.Eng
theorem heals_slices {s : List UInt8} {a : Int} (h : 0 ≤ a ∧ a ≤ s.length) : sliceR s 0 a = .ok (s.take a.toNat) ∧ sliceR s a (s.length : Int) = .ok (s.drop a.toNat) := by
  constructor
  · unfold sliceR; rw [if_neg (by omega)]; simp
  · unfold sliceR; rw [if_neg (by omega)]; simp
theorem heals_put {s t : List UInt8} {a : Int} (h : 0 ≤ a ∧ a ≤ s.length) (hl : s.length + t.length ≤ 16777216) : insertR s a t = .ok (s.take a.toNat ++ t ++ s.drop a.toNat) ∧ deleteR (s.take a.toNat ++ t ++ s.drop a.toNat) a (a + (t.length : Int)) = .ok s ∧
    (s.take a.toNat ++ t ++ s.drop a.toNat).length = s.length + t.length := by
  have l1 : (s.take a.toNat).length = a.toNat := by simp; omega
  have l2 : (s.take a.toNat ++ t ++ s.drop a.toNat).length = s.length + t.length := by simp; omega
  refine ⟨?_, ?_, l2⟩
  · unfold insertR; rw [if_neg (by omega), if_neg (by omega)]
  · unfold deleteR
    rw [if_neg (by omega)]
    congr 1
    have l3 : (s.take a.toNat ++ t).length = (a + (t.length : Int)).toNat := by rw [List.length_append, l1]; omega
    rw [List.append_assoc, List.take_append_of_le_length (by omega), List.take_of_length_le (by omega), ← List.append_assoc, List.drop_append_of_le_length (by omega), List.drop_of_length_le (by omega), List.nil_append, List.take_append_drop]
theorem heals_same {s t : List UInt8} {k : Nat} : (s.take k ++ t ++ s.drop k = s) ↔ t = [] := by
  constructor
  · intro h
    have := congrArg List.length h
    simp at this
    exact List.eq_nil_of_length_eq_zero (by omega)
  · rintro rfl; simp
end Go.Eng
namespace Go.Proofs.Ytljfncpecpkhhaa
open Go Go.Eng
set_option maxRecDepth 100000
set_option maxHeartbeats 4000000
set_option linter.all false
attribute [local irreducible] WL WC WQ QFun QLoop Does Q1 QRound QAssign Go.Addr.add
theorem sq_O12_1 {G : Prop} (h : G := by (repeat (first | (refine sp ?_; (repeat intro zzc)) | (refine iF 15 rfl ?_; refine w_callG Try.func15 ?_ (hs := text_any _ _ _ (by assumption))) | (refine iF 19 rfl ?_; refine w_callG Try.func19 ?_ (hs := len_any _ _ _ (by assumption))) | (refine iF 14 rfl ?_; refine w_callG Try.func14 ?_ (hs := same_any _ _ _ (by assumption) (by assumption))))); exact WQ.q1 rfl) : G := h
theorem st_O12_1 {G G' : Prop} (next : G') (h : Bx G' → G := by intro zzn; (first | ((refine st ?_; (repeat intro zzc)); (try ((first | (refine iF 15 rfl ?_; refine w_callG Try.func15 ?_ (hs := text_any _ _ _ (by assumption))) | (refine iF 19 rfl ?_; refine w_callG Try.func19 ?_ (hs := len_any _ _ _ (by assumption))) | (refine iF 14 rfl ?_; refine w_callG Try.func14 ?_ (hs := same_any _ _ _ (by assumption) (by assumption))) | ((refine iDraw ?_; (first | refine WC.drawAll rfl (by decide +kernel) ?_ | refine WC.draw 1 rfl (by decide +kernel) ?_ | refine WC.draw 2 rfl (by decide +kernel) ?_ | refine WC.draw 3 rfl (by decide +kernel) ?_ | refine WC.draw 4 rfl (by decide +kernel) ?_ | refine WC.draw 5 rfl (by decide +kernel) ?_ | refine WC.draw 6 rfl (by decide +kernel) ?_ | refine WC.draw 7 rfl (by decide +kernel) ?_ | refine WC.draw 8 rfl (by decide +kernel) ?_ | refine WC.draw 9 rfl (by decide +kernel) ?_ | refine WC.draw 10 rfl (by decide +kernel) ?_ | refine WC.draw 11 rfl (by decide +kernel) ?_ | refine WC.draw 12 rfl (by decide +kernel) ?_ | refine WC.draw 13 rfl (by decide +kernel) ?_ | refine WC.draw 14 rfl (by decide +kernel) ?_ | refine WC.draw 15 rfl (by decide +kernel) ?_ | refine WC.draw 16 rfl (by decide +kernel) ?_ | refine WC.draw 17 rfl (by decide +kernel) ?_ | refine WC.draw 18 rfl (by decide +kernel) ?_ | refine WC.draw 19 rfl (by decide +kernel) ?_ | refine WC.draw 20 rfl (by decide +kernel) ?_ | refine WC.draw 21 rfl (by decide +kernel) ?_ | refine WC.draw 22 rfl (by decide +kernel) ?_ | refine WC.draw 23 rfl (by decide +kernel) ?_ | refine WC.draw 24 rfl (by decide +kernel) ?_)); (repeat (refine WD.cons rfl (fun c h => by cases h) sq_O12_1 ?_)); refine WD.nil ?_)); (try (refine st ?_; (repeat intro zzc)))))) | ((first | (refine iF 15 rfl ?_; refine w_callG Try.func15 ?_ (hs := text_any _ _ _ (by assumption))) | (refine iF 19 rfl ?_; refine w_callG Try.func19 ?_ (hs := len_any _ _ _ (by assumption))) | (refine iF 14 rfl ?_; refine w_callG Try.func14 ?_ (hs := same_any _ _ _ (by assumption) (by assumption))) | ((refine iDraw ?_; (first | refine WC.drawAll rfl (by decide +kernel) ?_ | refine WC.draw 1 rfl (by decide +kernel) ?_ | refine WC.draw 2 rfl (by decide +kernel) ?_ | refine WC.draw 3 rfl (by decide +kernel) ?_ | refine WC.draw 4 rfl (by decide +kernel) ?_ | refine WC.draw 5 rfl (by decide +kernel) ?_ | refine WC.draw 6 rfl (by decide +kernel) ?_ | refine WC.draw 7 rfl (by decide +kernel) ?_ | refine WC.draw 8 rfl (by decide +kernel) ?_ | refine WC.draw 9 rfl (by decide +kernel) ?_ | refine WC.draw 10 rfl (by decide +kernel) ?_ | refine WC.draw 11 rfl (by decide +kernel) ?_ | refine WC.draw 12 rfl (by decide +kernel) ?_ | refine WC.draw 13 rfl (by decide +kernel) ?_ | refine WC.draw 14 rfl (by decide +kernel) ?_ | refine WC.draw 15 rfl (by decide +kernel) ?_ | refine WC.draw 16 rfl (by decide +kernel) ?_ | refine WC.draw 17 rfl (by decide +kernel) ?_ | refine WC.draw 18 rfl (by decide +kernel) ?_ | refine WC.draw 19 rfl (by decide +kernel) ?_ | refine WC.draw 20 rfl (by decide +kernel) ?_ | refine WC.draw 21 rfl (by decide +kernel) ?_ | refine WC.draw 22 rfl (by decide +kernel) ?_ | refine WC.draw 23 rfl (by decide +kernel) ?_ | refine WC.draw 24 rfl (by decide +kernel) ?_)); (repeat (refine WD.cons rfl (fun c h => by cases h) sq_O12_1 ?_)); refine WD.nil ?_)); (try (refine st ?_; (repeat intro zzc))))); (repeat ((first | (refine iF 15 rfl ?_; refine w_callG Try.func15 ?_ (hs := text_any _ _ _ (by assumption))) | (refine iF 19 rfl ?_; refine w_callG Try.func19 ?_ (hs := len_any _ _ _ (by assumption))) | (refine iF 14 rfl ?_; refine w_callG Try.func14 ?_ (hs := same_any _ _ _ (by assumption) (by assumption))) | ((refine iDraw ?_; (first | refine WC.drawAll rfl (by decide +kernel) ?_ | refine WC.draw 1 rfl (by decide +kernel) ?_ | refine WC.draw 2 rfl (by decide +kernel) ?_ | refine WC.draw 3 rfl (by decide +kernel) ?_ | refine WC.draw 4 rfl (by decide +kernel) ?_ | refine WC.draw 5 rfl (by decide +kernel) ?_ | refine WC.draw 6 rfl (by decide +kernel) ?_ | refine WC.draw 7 rfl (by decide +kernel) ?_ | refine WC.draw 8 rfl (by decide +kernel) ?_ | refine WC.draw 9 rfl (by decide +kernel) ?_ | refine WC.draw 10 rfl (by decide +kernel) ?_ | refine WC.draw 11 rfl (by decide +kernel) ?_ | refine WC.draw 12 rfl (by decide +kernel) ?_ | refine WC.draw 13 rfl (by decide +kernel) ?_ | refine WC.draw 14 rfl (by decide +kernel) ?_ | refine WC.draw 15 rfl (by decide +kernel) ?_ | refine WC.draw 16 rfl (by decide +kernel) ?_ | refine WC.draw 17 rfl (by decide +kernel) ?_ | refine WC.draw 18 rfl (by decide +kernel) ?_ | refine WC.draw 19 rfl (by decide +kernel) ?_ | refine WC.draw 20 rfl (by decide +kernel) ?_ | refine WC.draw 21 rfl (by decide +kernel) ?_ | refine WC.draw 22 rfl (by decide +kernel) ?_ | refine WC.draw 23 rfl (by decide +kernel) ?_ | refine WC.draw 24 rfl (by decide +kernel) ?_)); (repeat (refine WD.cons rfl (fun c h => by cases h) sq_O12_1 ?_)); refine WD.nil ?_)); (try (refine st ?_; (repeat intro zzc))))); (repeat revert zzc); exact zzn.out) : G := h ⟨next⟩
theorem ropeHeals_any (s t : List UInt8) (a : Int) (hs : s.length ≤ 1048576) (ht : t.length ≤ 1048576) (w0 : World) (m : Mem) (H : SHeap) :
    Does Try.prog 4 #[str s, str t, .int .i64 a] w0 m H (fun v m' _ => v = .bool true ∧ m.le m') := by
  refine Does.of_body (args := [str s, str t, .int .i64 a]) Try.func4 rfl Try.ntmps4 rfl ?_
  (try (refine st_O12_1 ?_; intros))
  refine w_callF Try.func11 ?_ (hs := works_any _ _ _)
  rintro v m0 H ⟨hle0, rfl, rfl⟩
  (try (refine st_O12_1 ?_; intros))
  refine w_callF Try.func12 ?_ (hs := new_any s (by omega) _ _ _)
  rintro v m1 H ⟨hle1, rfl, hv⟩
  unfold newV at hv
  rw [if_neg (by omega)] at hv
  obtain ⟨x, rfl, hx⟩ := hv
  have hm : m.le m1 := hle0.trans hle1
  by_cases hout : a < 0 ∨ (s.length : Int) < a
  · rcases hout with h | h
    · (try (refine st_O12_1 ?_; intros))
      refine w_callF Try.func11 ?_ (hs := works_true hm)
      rintro v m9 H ⟨hle9, rfl, rfl⟩
      (try (refine st_O12_1 ?_; intros))
      exact q_fin0 (H0 := H) ⟨rfl, hle9⟩ (hd := zpk)
    · (try (refine st_O12_1 ?_; intros))
      refine w_callF Try.func11 ?_ (hs := works_true hm)
      rintro v m9 H ⟨hle9, rfl, rfl⟩
      (try (refine st_O12_1 ?_; intros))
      exact q_fin0 (H0 := H) ⟨rfl, hle9⟩ (hd := zpk)
  have hin : 0 ≤ a ∧ a ≤ s.length := by omega
  obtain ⟨e1, e2⟩ := heals_slices hin
  obtain ⟨e3, e4, e5⟩ := heals_put (t := t) hin (by omega)
  (try (refine st_O12_1 ?_; intros))
  refine w_callF Try.func16 ?_ (hs := slice_any _ _ _ hx)
  rintro v m2 H ⟨hle2, rfl, hv⟩
  rw [e1] at hv
  obtain ⟨pa, rfl, ha⟩ := hv
  replace hx := hx.le hle2
  (try (refine st_O12_1 ?_; intros))
  refine w_callF Try.func16 ?_ (hs := slice_any _ _ _ hx)
  rintro v m3 H ⟨hle3, rfl, hv⟩
  rw [e2] at hv
  obtain ⟨pb, rfl, hb⟩ := hv
  replace hx := hx.le hle3
  replace ha := ha.le hle3
  have hjl : (s.take a.toNat).length + (s.drop a.toNat).length = s.length := by rw [← List.length_append, List.take_append_drop]
  (try (refine st_O12_1 ?_; intros))
  refine w_callF Try.func13 ?_ (hs := join_any _ _ _ ha hb)
  rintro v m4 H ⟨hle4, rfl, hv⟩
  unfold joinRR at hv
  rw [if_neg (by omega), List.take_append_drop] at hv
  obtain ⟨q, rfl, hq⟩ := hv
  replace hx := hx.le hle4
  replace ha := ha.le hle4
  replace hb := hb.le hle4
  have hm4 : m.le m4 := hm.trans (hle2.trans (hle3.trans hle4))
  have he : s = s := rfl
  (try (refine st_O12_1 ?_; intros))
  refine w_callF Try.func17 ?_ (hs := insert_any (by omega) _ _ _ hx)
  rintro v m5 H ⟨hle5, rfl, hv⟩
  rw [e3] at hv
  obtain ⟨px, rfl, hpx⟩ := hv
  replace hx := hx.le hle5
  replace ha := ha.le hle5
  replace hb := hb.le hle5
  (try (refine st_O12_1 ?_; intros))
  refine w_callF Try.func18 ?_ (hs := delete_any _ _ _ hpx)
  rintro v m6 H ⟨hle6, rfl, hv⟩
  rw [e4] at hv
  obtain ⟨py, rfl, hpy⟩ := hv
  replace hx := hx.le hle6
  replace ha := ha.le hle6
  replace hb := hb.le hle6
  replace hpx := hpx.le hle6
  have hsame := heals_same (s := s) (t := t) (k := a.toNat)
  have htd : s.take a.toNat ++ s.drop a.toNat = s := List.take_append_drop _ _
  have hlx := hpx.len
  have hd : (dcd (s.take a.toNat ++ t ++ s.drop a.toNat = s) == dcd (t = [])) = true := by rw [dcd_eq, dcd_eq, decide_eq_decide.2 hsame]; exact beq_self_eq_true _
  (try (refine st_O12_1 ?_; intros))
  refine WC.rename 131 (u := .bool false) rfl (congrArg _ (by rw [hd]; rfl)) ?_
  (try (refine st_O12_1 ?_; intros))
  refine w_callF Try.func11 ?_ (hs := works_true (hm4.trans (hle5.trans hle6)))
  rintro v m9 H ⟨hle9, rfl, rfl⟩
  (try (refine st_O12_1 ?_; intros))
  exact q_fin0 (H0 := H) ⟨rfl, hle9⟩ (hd := zpk)
end Go.Proofs.Ytljfncpecpkhhaa

