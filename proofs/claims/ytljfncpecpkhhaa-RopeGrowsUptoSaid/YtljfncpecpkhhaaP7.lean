/-
  Parts of a walk, joined: O10 O11 O12 O13. No condition.
-/
import Derived.Test.YtljfncpecpkhhaaP6
set_option linter.all false
/-
  The walks of ropes' Count and of the laws' works. No condition.
-/
namespace Go.Eng
def nBrk (ps : List Pc) : Nat := (ps.filter fun p => p.b).length
theorem nBrk_snoc (pre : List Pc) (x : Pc) : nBrk (pre ++ [x]) = nBrk pre + (if x.b then 1 else 0) := by
  unfold nBrk; rw [List.filter_append, List.length_append]; cases hx : x.b <;> simp [hx]
theorem nBrk_le (pre : List Pc) : nBrk pre ≤ pre.length := List.length_filter_le _ _
def tee : List UInt8 := [97, 195, 169, 10, 240, 159, 152, 128]
theorem tee_a : (pieces [97, 195]).length = 2 ∧ nBrk (pieces [97, 195]) = 1 := by decide
theorem tee_b : (pieces tee).length = 4 ∧ nBrk (pieces tee) = 0 := by decide
end Go.Eng
namespace Go.Proofs.Ytljfncpecpkhhaa
open Go Go.Eng
set_option maxRecDepth 100000
set_option maxHeartbeats 4000000
set_option linter.all false
attribute [local irreducible] WL WC WQ QFun QLoop Does Q1 QRound QAssign Go.Addr.add
attribute [local irreducible] nBrk
theorem count_any {p : Value} {s : List UInt8} (w0 : World) (m : Mem) (H : SHeap) (hp : RopeAt m p s) :
    Does Try.prog 25 #[p] w0 m H (fun v m' H' => m.le m' ∧ H' = H ∧ v = .tuple #[.int .i64 ((pieces s).length : Int), .int .i64 (nBrk (pieces s) : Int)]) := by
  obtain ⟨b, rfl⟩ := ropes_ptr hp
  obtain ⟨o, hT, ho⟩ := hp.node
  have hl := hp.len
  refine Does.of_body (args := [.pointer (some ⟨b, 0, none⟩)]) Try.func25 rfl Try.ntmps25 rfl ?_
  have hpl := pieces_length s
  (refine st ?_; intros; rename_i b4 b5)
  refine w_callF Try.func23 ?_ (hs := piecesIt_any _ _ _)
  rintro v0 m H0 ⟨bi, rfl, rfl, rfl⟩
  refine WL.persist (b := bi) (by (repeat (first | exact Out.here | apply Out.there))) ?_
  intro m1 hle1 hbi
  (try (refine st ?_; intros))
  have hin : RopeIn bi (.pointer (some ⟨b, 0, none⟩)) o m1 := ⟨hbi, hT.le hle1⟩
  have hseq := ropePieces_seq (b := bi) (p := .pointer (some ⟨b, 0, none⟩)) (o := o)
  rw [ho] at hseq
  refine WC.rangeFuncM (Hc := H) (encs := fun p : Pc => [p.v]) (xs := pieces s) (Cap := RopeIn bi (.pointer (some ⟨b, 0, none⟩)) o) (lb := [.pointer (some ⟨bi, 0, none⟩)]) (ps := [9])
    (J := fun pre _ Hl => Hl = [.blk b5 (.cells [.int .i64 (nBrk pre : Int)].toArray 3 (0, 0)), .blk b4 (.cells [.int .i64 (pre.length : Int)].toArray 3 (0, 0))]) (Jx := fun _ _ _ _ => False)
    rfl Try.func45 rfl rfl hseq hin (fun _ => rfl) rfl (fun _ _ _ _ h _ => h) (fun _ _ _ _ _ h _ => h) (.cons (.cons .nil)) ?_ ?_ ?_ ?_
  · rw [show nBrk [] = 0 from by unfold nBrk; rfl]; rfl
  · rintro lp pre x post hxs m2 Hl rfl hm2 Hfr hfr
    have hpre : pre.length ≤ (pieces s).length := by rw [hxs]; simp
    have hsn := nBrk_snoc pre x
    have hle3 := nBrk_le pre
    simp only [List.cons_append, List.nil_append]
    (try (refine st ?_; intros))
    refine WQ.assigned (.cons (.cons (.cons .nil))) (Mem.le.refl _) ?_
    intro Hfr2
    simp only [List.cons_append, List.nil_append]
    cases hx : x.b with
    | true =>
      rw [hx] at hsn
      (try (refine st ?_; intros))
      exact WQ.roundOn (Hl := [_, _]) (fun w h => h.drop) (Mem.le.refl _) (by rw [hsn, List.length_append]; rfl)
    | false =>
      rw [hx] at hsn
      (try (refine st ?_; intros))
      exact WQ.roundOn (Hl := [_, _]) (fun w h => h.drop) (Mem.le.refl _) (by rw [hsn, List.length_append]; rfl)
  · rintro D m2 Hl rfl hm2
    simp only [List.cons_append, List.nil_append]
    (try (refine st ?_; intros))
    refine WQ.mark (List.perm_middle (l₁ := [_, _])) ?_
    exact q_fin0 (H0 := H) ⟨hle1.trans hm2, rfl, rfl⟩ (hd := zpk)
  · rintro D c pre m' Hl _ h _
    exact h.elim
theorem sq_O10_1 {G : Prop} (h : G := by (repeat (first | (refine sp ?_; (repeat intro zzc)) | (refine iF 15 rfl ?_; refine w_callG Try.func15 ?_ (hs := text_any _ _ _ (by assumption))) | (refine iF 14 rfl ?_; refine w_callG Try.func14 ?_ (hs := same_any _ _ _ (by assumption) (by assumption))))); exact WQ.q1 rfl) : G := h
theorem st_O10_1 {G G' : Prop} (next : G') (h : Bx G' → G := by intro zzn; (first | ((refine st ?_; (repeat intro zzc)); (try ((first | (refine iF 15 rfl ?_; refine w_callG Try.func15 ?_ (hs := text_any _ _ _ (by assumption))) | (refine iF 14 rfl ?_; refine w_callG Try.func14 ?_ (hs := same_any _ _ _ (by assumption) (by assumption))) | ((refine iDraw ?_; (first | refine WC.drawAll rfl (by decide +kernel) ?_ | refine WC.draw 1 rfl (by decide +kernel) ?_ | refine WC.draw 2 rfl (by decide +kernel) ?_ | refine WC.draw 3 rfl (by decide +kernel) ?_ | refine WC.draw 4 rfl (by decide +kernel) ?_ | refine WC.draw 5 rfl (by decide +kernel) ?_ | refine WC.draw 6 rfl (by decide +kernel) ?_ | refine WC.draw 7 rfl (by decide +kernel) ?_ | refine WC.draw 8 rfl (by decide +kernel) ?_ | refine WC.draw 9 rfl (by decide +kernel) ?_ | refine WC.draw 10 rfl (by decide +kernel) ?_ | refine WC.draw 11 rfl (by decide +kernel) ?_ | refine WC.draw 12 rfl (by decide +kernel) ?_ | refine WC.draw 13 rfl (by decide +kernel) ?_ | refine WC.draw 14 rfl (by decide +kernel) ?_ | refine WC.draw 15 rfl (by decide +kernel) ?_ | refine WC.draw 16 rfl (by decide +kernel) ?_ | refine WC.draw 17 rfl (by decide +kernel) ?_ | refine WC.draw 18 rfl (by decide +kernel) ?_ | refine WC.draw 19 rfl (by decide +kernel) ?_ | refine WC.draw 20 rfl (by decide +kernel) ?_ | refine WC.draw 21 rfl (by decide +kernel) ?_ | refine WC.draw 22 rfl (by decide +kernel) ?_ | refine WC.draw 23 rfl (by decide +kernel) ?_ | refine WC.draw 24 rfl (by decide +kernel) ?_)); (repeat (refine WD.cons rfl (fun c h => by cases h) sq_O10_1 ?_)); refine WD.nil ?_)); (try (refine st ?_; (repeat intro zzc)))))) | ((first | (refine iF 15 rfl ?_; refine w_callG Try.func15 ?_ (hs := text_any _ _ _ (by assumption))) | (refine iF 14 rfl ?_; refine w_callG Try.func14 ?_ (hs := same_any _ _ _ (by assumption) (by assumption))) | ((refine iDraw ?_; (first | refine WC.drawAll rfl (by decide +kernel) ?_ | refine WC.draw 1 rfl (by decide +kernel) ?_ | refine WC.draw 2 rfl (by decide +kernel) ?_ | refine WC.draw 3 rfl (by decide +kernel) ?_ | refine WC.draw 4 rfl (by decide +kernel) ?_ | refine WC.draw 5 rfl (by decide +kernel) ?_ | refine WC.draw 6 rfl (by decide +kernel) ?_ | refine WC.draw 7 rfl (by decide +kernel) ?_ | refine WC.draw 8 rfl (by decide +kernel) ?_ | refine WC.draw 9 rfl (by decide +kernel) ?_ | refine WC.draw 10 rfl (by decide +kernel) ?_ | refine WC.draw 11 rfl (by decide +kernel) ?_ | refine WC.draw 12 rfl (by decide +kernel) ?_ | refine WC.draw 13 rfl (by decide +kernel) ?_ | refine WC.draw 14 rfl (by decide +kernel) ?_ | refine WC.draw 15 rfl (by decide +kernel) ?_ | refine WC.draw 16 rfl (by decide +kernel) ?_ | refine WC.draw 17 rfl (by decide +kernel) ?_ | refine WC.draw 18 rfl (by decide +kernel) ?_ | refine WC.draw 19 rfl (by decide +kernel) ?_ | refine WC.draw 20 rfl (by decide +kernel) ?_ | refine WC.draw 21 rfl (by decide +kernel) ?_ | refine WC.draw 22 rfl (by decide +kernel) ?_ | refine WC.draw 23 rfl (by decide +kernel) ?_ | refine WC.draw 24 rfl (by decide +kernel) ?_)); (repeat (refine WD.cons rfl (fun c h => by cases h) sq_O10_1 ?_)); refine WD.nil ?_)); (try (refine st ?_; (repeat intro zzc))))); (repeat ((first | (refine iF 15 rfl ?_; refine w_callG Try.func15 ?_ (hs := text_any _ _ _ (by assumption))) | (refine iF 14 rfl ?_; refine w_callG Try.func14 ?_ (hs := same_any _ _ _ (by assumption) (by assumption))) | ((refine iDraw ?_; (first | refine WC.drawAll rfl (by decide +kernel) ?_ | refine WC.draw 1 rfl (by decide +kernel) ?_ | refine WC.draw 2 rfl (by decide +kernel) ?_ | refine WC.draw 3 rfl (by decide +kernel) ?_ | refine WC.draw 4 rfl (by decide +kernel) ?_ | refine WC.draw 5 rfl (by decide +kernel) ?_ | refine WC.draw 6 rfl (by decide +kernel) ?_ | refine WC.draw 7 rfl (by decide +kernel) ?_ | refine WC.draw 8 rfl (by decide +kernel) ?_ | refine WC.draw 9 rfl (by decide +kernel) ?_ | refine WC.draw 10 rfl (by decide +kernel) ?_ | refine WC.draw 11 rfl (by decide +kernel) ?_ | refine WC.draw 12 rfl (by decide +kernel) ?_ | refine WC.draw 13 rfl (by decide +kernel) ?_ | refine WC.draw 14 rfl (by decide +kernel) ?_ | refine WC.draw 15 rfl (by decide +kernel) ?_ | refine WC.draw 16 rfl (by decide +kernel) ?_ | refine WC.draw 17 rfl (by decide +kernel) ?_ | refine WC.draw 18 rfl (by decide +kernel) ?_ | refine WC.draw 19 rfl (by decide +kernel) ?_ | refine WC.draw 20 rfl (by decide +kernel) ?_ | refine WC.draw 21 rfl (by decide +kernel) ?_ | refine WC.draw 22 rfl (by decide +kernel) ?_ | refine WC.draw 23 rfl (by decide +kernel) ?_ | refine WC.draw 24 rfl (by decide +kernel) ?_)); (repeat (refine WD.cons rfl (fun c h => by cases h) sq_O10_1 ?_)); refine WD.nil ?_)); (try (refine st ?_; (repeat intro zzc))))); (repeat revert zzc); exact zzn.out) : G := h ⟨next⟩
theorem works_any (w0 : World) (m : Mem) (H : SHeap) : Does Try.prog 11 #[] w0 m H (fun v m' H' => m.le m' ∧ H' = H ∧ v = .bool true) := by
  refine Does.of_body (args := []) Try.func11 rfl Try.ntmps11 rfl ?_
  (try (refine st_O10_1 ?_; intros))
  refine w_callF Try.func12 ?_ (hs := new_any tee (by decide) _ _ _)
  rintro v m1 H ⟨hle1, rfl, hv⟩
  obtain ⟨p, rfl, hp⟩ := hv
  (try (refine st_O10_1 ?_; intros))
  refine w_callF Try.func16 ?_ (hs := slice_any _ _ _ hp)
  rintro v m2 H ⟨hle2, rfl, pa, rfl, ha⟩
  replace hp := hp.le hle2
  (try (refine st_O10_1 ?_; intros))
  refine w_callF Try.func16 ?_ (hs := slice_any _ _ _ hp)
  rintro v m3 H ⟨hle3, rfl, pb, rfl, hb⟩
  replace hp := hp.le hle3
  replace ha := ha.le hle3
  have e1 : tee = [97, 195, 169, 10, 240, 159, 152, 128] := rfl
  have e2 : ([97, 195] : List UInt8) = [97, 195] := rfl
  have ha : RopeAt m3 pa [97, 195] := ha
  have hb : RopeAt m3 pb [169, 10, 240, 159, 152, 128] := hb
  (try (refine st_O10_1 ?_; intros))
  refine w_callF Try.func25 ?_ (hs := count_any _ _ _ ha)
  rintro v m4 H ⟨hle4, rfl, rfl⟩
  rw [tee_a.1, tee_a.2]
  replace hp := hp.le hle4
  replace ha := ha.le hle4
  replace hb := hb.le hle4
  (try (refine st_O10_1 ?_; intros))
  refine w_callF Try.func13 ?_ (hs := join_any _ _ _ ha hb)
  rintro v m5 H ⟨hle5, rfl, pq, rfl, hq⟩
  have hq : RopeAt m5 pq tee := hq
  replace hp := hp.le hle5
  replace ha := ha.le hle5
  (try (refine st_O10_1 ?_; intros))
  refine w_callF Try.func25 ?_ (hs := count_any _ _ _ hq)
  rintro v m6 H ⟨hle6, rfl, rfl⟩
  rw [tee_b.1, tee_b.2]
  replace hp := hp.le hle6
  replace ha := ha.le hle6
  replace hq := hq.le hle6
  have e3 : tee = tee := rfl
  have e4 : ¬ ([97, 195] : List UInt8) = tee := by decide
  (try (refine st_O10_1 ?_; intros))
  refine q_fin0 (H0 := H) ⟨hle1.trans (hle2.trans (hle3.trans (hle4.trans (hle5.trans hle6)))), rfl, ?_⟩ (hd := zpk)
  rw [dcd_false e4]; rfl
end Go.Proofs.Ytljfncpecpkhhaa

/-
  The walks of the laws RopeJoined and RopeHeals. No condition.
-/
namespace Go.Eng
end Go.Eng
namespace Go.Proofs.Ytljfncpecpkhhaa
open Go Go.Eng
set_option maxRecDepth 100000
set_option maxHeartbeats 4000000
set_option linter.all false
attribute [local irreducible] WL WC WQ QFun QLoop Does Q1 QRound QAssign Go.Addr.add
theorem works_true {w0 : World} {m0 m : Mem} {H : SHeap} (hle : m0.le m) : Does Try.prog 11 #[] w0 m H (fun v m' H' => m0.le m' ∧ H' = H ∧ v = .bool true) :=
  (works_any w0 m H).mono fun v m' H' ⟨h1, h2, h3⟩ => ⟨hle.trans h1, h2, h3⟩
end Go.Proofs.Ytljfncpecpkhhaa

/-
  The walk of the law RopeHeals. No condition.
-/
namespace Go.Eng
end Go.Eng
namespace Go.Proofs.Ytljfncpecpkhhaa
open Go Go.Eng
set_option maxRecDepth 100000
set_option maxHeartbeats 4000000
set_option linter.all false
attribute [local irreducible] WL WC WQ QFun QLoop Does Q1 QRound QAssign Go.Addr.add
end Go.Proofs.Ytljfncpecpkhhaa

/-
  The walk of the law RopeGrows. No condition.
-/
namespace Go.Eng
theorem insert_ok {s t : List UInt8} {A : Nat} (h : A ≤ s.length) (hl : s.length + t.length ≤ 16777216) : insertR s (A : Int) t = .ok (s.take A ++ t ++ s.drop A) := by
  unfold insertR; rw [if_neg (by omega), if_neg (by omega), Int.toNat_natCast]
theorem delete_ok {s : List UInt8} {A B : Nat} (h : A ≤ B) (hl : B ≤ s.length) : deleteR s (A : Int) (B : Int) = .ok (s.take A ++ s.drop B) := by
  unfold deleteR; rw [if_neg (by omega), Int.toNat_natCast, Int.toNat_natCast]
theorem sum_mem : ∀ {l : List (List UInt8)} {x : List UInt8}, x ∈ l → x.length ≤ (l.map List.length).sum
  | _ :: l, x, h => by
    rw [List.map_cons, List.sum_cons]
    rcases List.mem_cons.1 h with rfl | h
    · omega
    · have := sum_mem h; omega
end Go.Eng
namespace Go.Proofs.Ytljfncpecpkhhaa
open Go Go.Eng
set_option maxRecDepth 100000
set_option maxHeartbeats 4000000
set_option linter.all false
attribute [local irreducible] WL WC WQ QFun QLoop Does Q1 QRound QAssign Go.Addr.add
theorem most_any {n : Nat} (hn : n ≤ 100000000) (w0 : World) (m : Mem) (H : SHeap) : Does Try.prog 21 #[.int .i64 (n : Int)] w0 m H (Gives (.int .i64 ((2 * bitsN n : Nat) : Int)) m H) := by
  refine Does.of_body (args := [.int .i64 (n : Int)]) Try.func21 rfl Try.ntmps21 rfl ?_
  have hbl := bitsN_le n
  (try (refine st ?_; intros))
  refine WC.loopH [(0, .int .i64 ((n) : Int)), (3, .int .i64 ((0) : Int))] ?_ ?_ (fun j r ds m' H' => ∃ (k : Nat) (c : Nat), j = 2 * k ∧ r = [(0, .int .i64 (k : Int)), (3, .int .i64 (c : Int))] ∧ ds = [] ∧ m = m' ∧ H' = H ∧ (c + bitsN k = bitsN n) ∧ (k ≤ n)) (2 * (n)) ⟨n, 0, rfl, rfl, rfl, rfl, rfl, by omega, Nat.le_refl _⟩ ?_
  · (repeat (first | exact Env.Sub.nil | refine Env.Sub.cons rfl ?_))
  · exact zpk
  rintro j r ds m' H' ⟨k, c, rfl, rfl, rfl, rfl, rfl, hc, hkn⟩
  generalize H' = H
  by_cases hk : 0 < k
  · have hbk := bitsN_pos hk
    (try (refine st ?_; intros))
    rw [show (k : Int) / 2 = ((k / 2 : Nat) : Int) from rfl]
    refine WQ.next (2 * (k / 2)) ⟨k / 2, c + 1, rfl, rfl, rfl, rfl, rfl, ?_, ?_⟩ (by omega) zsb zpk
    · omega
    · omega
  · obtain rfl : k = 0 := by omega
    rw [bitsN_zero] at hc
    (try (refine st ?_; intros))
    refine q_fin0 (H0 := H) (Gives.mk (congrArg _ ?_)) (hd := zpk)
    omega
theorem sq_O13_1 {G : Prop} (h : G := by (repeat (first | (refine sp ?_; (repeat intro zzc)) | (refine iF 15 rfl ?_; refine w_callG Try.func15 ?_ (hs := text_any _ _ _ (by assumption))) | (refine iF 19 rfl ?_; refine w_callG Try.func19 ?_ (hs := len_any _ _ _ (by assumption))) | (refine iF 21 rfl ?_; refine w_callG Try.func21 ?_ (hs := most_any (by omega) _ _ _)))); exact WQ.q1 rfl) : G := h
theorem st_O13_1 {G G' : Prop} (next : G') (h : Bx G' → G := by intro zzn; (first | ((refine st ?_; (repeat intro zzc)); (try ((first | (refine iF 15 rfl ?_; refine w_callG Try.func15 ?_ (hs := text_any _ _ _ (by assumption))) | (refine iF 19 rfl ?_; refine w_callG Try.func19 ?_ (hs := len_any _ _ _ (by assumption))) | (refine iF 21 rfl ?_; refine w_callG Try.func21 ?_ (hs := most_any (by omega) _ _ _)) | ((refine iDraw ?_; (first | refine WC.drawAll rfl (by decide +kernel) ?_ | refine WC.draw 1 rfl (by decide +kernel) ?_ | refine WC.draw 2 rfl (by decide +kernel) ?_ | refine WC.draw 3 rfl (by decide +kernel) ?_ | refine WC.draw 4 rfl (by decide +kernel) ?_ | refine WC.draw 5 rfl (by decide +kernel) ?_ | refine WC.draw 6 rfl (by decide +kernel) ?_ | refine WC.draw 7 rfl (by decide +kernel) ?_ | refine WC.draw 8 rfl (by decide +kernel) ?_ | refine WC.draw 9 rfl (by decide +kernel) ?_ | refine WC.draw 10 rfl (by decide +kernel) ?_ | refine WC.draw 11 rfl (by decide +kernel) ?_ | refine WC.draw 12 rfl (by decide +kernel) ?_ | refine WC.draw 13 rfl (by decide +kernel) ?_ | refine WC.draw 14 rfl (by decide +kernel) ?_ | refine WC.draw 15 rfl (by decide +kernel) ?_ | refine WC.draw 16 rfl (by decide +kernel) ?_ | refine WC.draw 17 rfl (by decide +kernel) ?_ | refine WC.draw 18 rfl (by decide +kernel) ?_ | refine WC.draw 19 rfl (by decide +kernel) ?_ | refine WC.draw 20 rfl (by decide +kernel) ?_ | refine WC.draw 21 rfl (by decide +kernel) ?_ | refine WC.draw 22 rfl (by decide +kernel) ?_ | refine WC.draw 23 rfl (by decide +kernel) ?_ | refine WC.draw 24 rfl (by decide +kernel) ?_)); (repeat (refine WD.cons rfl (fun c h => by cases h) sq_O13_1 ?_)); refine WD.nil ?_)); (try (refine st ?_; (repeat intro zzc)))))) | ((first | (refine iF 15 rfl ?_; refine w_callG Try.func15 ?_ (hs := text_any _ _ _ (by assumption))) | (refine iF 19 rfl ?_; refine w_callG Try.func19 ?_ (hs := len_any _ _ _ (by assumption))) | (refine iF 21 rfl ?_; refine w_callG Try.func21 ?_ (hs := most_any (by omega) _ _ _)) | ((refine iDraw ?_; (first | refine WC.drawAll rfl (by decide +kernel) ?_ | refine WC.draw 1 rfl (by decide +kernel) ?_ | refine WC.draw 2 rfl (by decide +kernel) ?_ | refine WC.draw 3 rfl (by decide +kernel) ?_ | refine WC.draw 4 rfl (by decide +kernel) ?_ | refine WC.draw 5 rfl (by decide +kernel) ?_ | refine WC.draw 6 rfl (by decide +kernel) ?_ | refine WC.draw 7 rfl (by decide +kernel) ?_ | refine WC.draw 8 rfl (by decide +kernel) ?_ | refine WC.draw 9 rfl (by decide +kernel) ?_ | refine WC.draw 10 rfl (by decide +kernel) ?_ | refine WC.draw 11 rfl (by decide +kernel) ?_ | refine WC.draw 12 rfl (by decide +kernel) ?_ | refine WC.draw 13 rfl (by decide +kernel) ?_ | refine WC.draw 14 rfl (by decide +kernel) ?_ | refine WC.draw 15 rfl (by decide +kernel) ?_ | refine WC.draw 16 rfl (by decide +kernel) ?_ | refine WC.draw 17 rfl (by decide +kernel) ?_ | refine WC.draw 18 rfl (by decide +kernel) ?_ | refine WC.draw 19 rfl (by decide +kernel) ?_ | refine WC.draw 20 rfl (by decide +kernel) ?_ | refine WC.draw 21 rfl (by decide +kernel) ?_ | refine WC.draw 22 rfl (by decide +kernel) ?_ | refine WC.draw 23 rfl (by decide +kernel) ?_ | refine WC.draw 24 rfl (by decide +kernel) ?_)); (repeat (refine WD.cons rfl (fun c h => by cases h) sq_O13_1 ?_)); refine WD.nil ?_)); (try (refine st ?_; (repeat intro zzc))))); (repeat ((first | (refine iF 15 rfl ?_; refine w_callG Try.func15 ?_ (hs := text_any _ _ _ (by assumption))) | (refine iF 19 rfl ?_; refine w_callG Try.func19 ?_ (hs := len_any _ _ _ (by assumption))) | (refine iF 21 rfl ?_; refine w_callG Try.func21 ?_ (hs := most_any (by omega) _ _ _)) | ((refine iDraw ?_; (first | refine WC.drawAll rfl (by decide +kernel) ?_ | refine WC.draw 1 rfl (by decide +kernel) ?_ | refine WC.draw 2 rfl (by decide +kernel) ?_ | refine WC.draw 3 rfl (by decide +kernel) ?_ | refine WC.draw 4 rfl (by decide +kernel) ?_ | refine WC.draw 5 rfl (by decide +kernel) ?_ | refine WC.draw 6 rfl (by decide +kernel) ?_ | refine WC.draw 7 rfl (by decide +kernel) ?_ | refine WC.draw 8 rfl (by decide +kernel) ?_ | refine WC.draw 9 rfl (by decide +kernel) ?_ | refine WC.draw 10 rfl (by decide +kernel) ?_ | refine WC.draw 11 rfl (by decide +kernel) ?_ | refine WC.draw 12 rfl (by decide +kernel) ?_ | refine WC.draw 13 rfl (by decide +kernel) ?_ | refine WC.draw 14 rfl (by decide +kernel) ?_ | refine WC.draw 15 rfl (by decide +kernel) ?_ | refine WC.draw 16 rfl (by decide +kernel) ?_ | refine WC.draw 17 rfl (by decide +kernel) ?_ | refine WC.draw 18 rfl (by decide +kernel) ?_ | refine WC.draw 19 rfl (by decide +kernel) ?_ | refine WC.draw 20 rfl (by decide +kernel) ?_ | refine WC.draw 21 rfl (by decide +kernel) ?_ | refine WC.draw 22 rfl (by decide +kernel) ?_ | refine WC.draw 23 rfl (by decide +kernel) ?_ | refine WC.draw 24 rfl (by decide +kernel) ?_)); (repeat (refine WD.cons rfl (fun c h => by cases h) sq_O13_1 ?_)); refine WD.nil ?_)); (try (refine st ?_; (repeat intro zzc))))); (repeat revert zzc); exact zzn.out) : G := h ⟨next⟩
theorem ropeGrows_any {a : Option Addr} {cap : Nat} {bits : List (List UInt8)} (hc : bits.length ≤ cap) (hl : (bits.map List.length).sum + bits.length ≤ 1048576) (ah : Bool) (times : Int) (w0 : World) (m : Mem) (H : SHeap) (hr : ∀ Hp, RowR w0 m Hp 1 a (bits.map fun x => [str x])) :
    Does Try.prog 5 #[.slice a bits.length cap, .bool ah, .int .i64 times] w0 m H (fun v m' _ => v = .bool true ∧ m.le m') := by
  refine Does.of_body (args := [.slice a bits.length cap, .bool ah, .int .i64 times]) Try.func5 rfl Try.ntmps5 rfl ?_
  have hml : (bits.map fun x => [str x]).length = bits.length := by simp
  (try (refine st_O13_1 ?_; intros))
  refine w_callF Try.func11 ?_ (hs := works_any _ _ _)
  rintro v m0 H ⟨hle0, rfl, rfl⟩
  (try (refine st_O13_1 ?_; intros))
  refine w_callF Try.func12 ?_ (hs := new_any [] (by simp) _ _ _)
  rintro v m1 H ⟨hle1, rfl, hv⟩
  unfold newV at hv
  rw [if_neg (by simp)] at hv
  obtain ⟨x, rfl, hx⟩ := hv
  have hm : m.le m1 := hle0.trans hle1
  obtain ⟨K, hK⟩ : ∃ K : Nat, min (max times 0) 40 = (K : Int) := ⟨(min (max times 0) 40).toNat, by omega⟩
  have hK40 : K ≤ 40 := by omega
  (try (refine st_O13_1 ?_; intros))
  rw [hK]
  refine WC.loopH [(26, .int .i64 ((0) : Int)), (25, .int .i64 (K : Int)), (7, (x)), (9, str ([])), (0, .slice a bits.length cap), (1, .bool ah)] ?_ ?_ (fun j r ds m' H' => ∃ (i : Nat) (p : Value) (s : List UInt8) (mm : Mem), j = 2 * (K - i) ∧ r = [(26, .int .i64 (i : Int)), (25, .int .i64 (K : Int)), (7, p), (9, str s), (0, .slice a bits.length cap), (1, .bool ah)] ∧ ds = [] ∧ mm = m' ∧ H' = H ∧ (RopeAt mm p s) ∧ (m.le mm) ∧ (i ≤ K) ∧ (s.length ≤ 65536)) (2 * (K - (0))) ⟨0, x, [], m1, rfl, rfl, rfl, rfl, rfl, hx, hm, Nat.zero_le _, by simp⟩ ?_
  · (repeat (first | exact Env.Sub.nil | refine Env.Sub.cons rfl ?_))
  · exact zpk
  rintro j r ds m' H' ⟨i, p, s, mm, rfl, rfl, rfl, rfl, rfl, hp, hle, hi, hs⟩
  generalize H' = H
  by_cases hiK : i < K
  · (try (refine st_O13_1 ?_; intros))
    refine WC.loopH [(31, .int .i64 ((0) : Int)), (30, .int .i64 (bits.length : Int)), (29, .slice a bits.length cap), (10, .int .i64 (i : Int)), (26, .int .i64 (i : Int)), (25, .int .i64 (K : Int)), (7, (p)), (9, str (s)), (0, .slice a bits.length cap), (1, .bool ah)] ?_ ?_ (fun j r ds m' H' => ∃ (u : Nat) (p : Value) (s : List UInt8) (m2 : Mem), j = 2 * (bits.length - u) ∧ r = [(31, .int .i64 (u : Int)), (30, .int .i64 (bits.length : Int)), (29, .slice a bits.length cap), (10, .int .i64 (i : Int)), (26, .int .i64 (i : Int)), (25, .int .i64 (K : Int)), (7, p), (9, str s), (0, .slice a bits.length cap), (1, .bool ah)] ∧ ds = [] ∧ m2 = m' ∧ H' = H ∧ (RopeAt m2 p s) ∧ (m.le m2) ∧ (u ≤ bits.length) ∧ (s.length ≤ 65536)) (2 * (bits.length - (0))) ⟨0, p, s, mm, rfl, rfl, rfl, rfl, rfl, hp, hle, Nat.zero_le _, hs⟩ ?_
    · (repeat (first | exact Env.Sub.nil | refine Env.Sub.cons rfl ?_))
    · exact zpk
    rintro j r ds m' H' ⟨u, p, s, m2, rfl, rfl, rfl, rfl, rfl, hp, hle, hj, hs⟩
    generalize H' = H
    by_cases hjl : u < bits.length
    · obtain ⟨b, hb, hget, htk, hmem, hdr⟩ := at_idx (f := fun x : List UInt8 => [str x]) hjl
      have hbl := sum_mem hmem
      have hr2 : RowR w0 m2 H 1 a (bits.map fun x => [str x]) := (hr H).le hle
      refine WC.rSome hr2 (by omega) ?_
      rintro a0 rfl
      by_cases hbig : 65536 < s.length + b.length
      · (try (refine st_O13_1 ?_; intros))
        refine w_callF Try.func11 ?_ (hs := works_true hle)
        rintro v m9 H ⟨hle9, rfl, rfl⟩
        (try (refine st_O13_1 ?_; intros))
        exact q_fin0 (H0 := H) ⟨rfl, hle9⟩ (hd := zpk)
      (try (refine st_O13_1 ?_; intros))
      refine WC.join (fun r' ds' m' H' => ∃ A : Nat, A ≤ s.length ∧ r' = [(13, .int .i64 (A : Int)), (12, str b), (31, .int .i64 (u : Int)), (30, .int .i64 (bits.length : Int)), (29, .slice (some a0) bits.length cap), (10, .int .i64 (i : Int)), (26, .int .i64 (i : Int)), (25, .int .i64 (K : Int)), (7, p), (9, str s), (0, .slice (some a0) bits.length cap), (1, .bool ah)] ∧ ds' = [] ∧ m2 = m' ∧ H' = H) ?_ ?_
      · cases ah
        · (try (refine st_O13_1 ?_; intros))
          exact WQ.join ⟨s.length, Nat.le_refl _, rfl, rfl, rfl, rfl⟩ zsb zpk
        · (try (refine st_O13_1 ?_; intros))
          exact WQ.join ⟨0, Nat.zero_le _, rfl, rfl, rfl, rfl⟩ zsb zpk
      rintro r' ds' m' H ⟨A, hA, rfl, rfl, rfl, rfl⟩
      (try (refine st_O13_1 ?_; intros))
      refine WC.join (fun r' ds' m' H' => ∃ A : Nat, A ≤ s.length ∧ r' = [(13, .int .i64 (A : Int)), (12, str b), (31, .int .i64 (u : Int)), (30, .int .i64 (bits.length : Int)), (29, .slice (some a0) bits.length cap), (10, .int .i64 (i : Int)), (26, .int .i64 (i : Int)), (25, .int .i64 (K : Int)), (7, p), (9, str s), (0, .slice (some a0) bits.length cap), (1, .bool ah)] ∧ ds' = [] ∧ m2 = m' ∧ H' = H) ?_ ?_
      · by_cases h3 : (i : Int) % 3 = 2
        · (try (refine st_O13_1 ?_; intros))
          exact WQ.join (r' := (13, .int .i64 ((s.length / 2 : Nat) : Int)) :: _) ⟨s.length / 2, by omega, rfl, rfl, rfl, rfl⟩ zsb zpk
        · (try (refine st_O13_1 ?_; intros))
          exact WQ.join ⟨A, hA, rfl, rfl, rfl, rfl⟩ zsb zpk
      clear hA
      rintro r' ds' m' H ⟨A, hA, rfl, rfl, rfl, rfl⟩
      (try (refine st_O13_1 ?_; intros))
      refine w_callF Try.func17 ?_ (hs := insert_any (by omega) _ _ _ hp)
      rintro v m5 H ⟨hle5, rfl, hv⟩
      rw [insert_ok hA (by omega)] at hv
      obtain ⟨q, rfl, hq⟩ := hv
      have hta : (s.take A).length = A := by simp; omega
      have hl2 : (s.take A ++ b).length = A + b.length := by rw [List.length_append, hta]
      have hl1 : (s.take A ++ b ++ s.drop A).length = s.length + b.length := by rw [List.length_append, hl2, List.length_drop]; omega
      have hdl : (s.drop A).length = s.length - A := List.length_drop
      (try (refine st_O13_1 ?_; intros))
      refine w_callF Try.func20 ?_ (hs := depth_any _ _ _ hq)
      rintro v m6 H ⟨rfl, rfl, kd, rfl, hkd⟩
      (try (refine st_O13_1 ?_; intros))
      refine WQ.next (2 * (bits.length - (u + 1))) ⟨u + 1, q, s.take A ++ b ++ s.drop A, m6, rfl, rfl, rfl, rfl, rfl, ?_, ?_, ?_, ?_⟩ (by omega) zsb zpk
      · exact hq
      · exact hle.trans hle5
      · omega
      · omega
    · obtain rfl : u = bits.length := by omega
      (try (refine st_O13_1 ?_; intros))
      refine WQ.next (2 * (K - (i + 1))) ⟨i + 1, p, s, m2, rfl, rfl, rfl, rfl, rfl, ?_, ?_, ?_, ?_⟩ (by omega) zsb zpk
      · exact hp
      · exact hle
      · omega
      · exact hs
  · obtain rfl : i = K := by omega
    clear hiK hi hK40 hK
    (try (refine st_O13_1 ?_; intros))
    refine WC.loopH [(7, (p)), (9, str (s))] ?_ ?_ (fun j r ds m' H' => ∃ (p : Value) (s : List UInt8) (m2 : Mem), j = 2 * s.length ∧ r = [(7, p), (9, str s)] ∧ ds = [] ∧ m2 = m' ∧ H' = H ∧ (RopeAt m2 p s) ∧ (m.le m2) ∧ (s.length ≤ 65536)) (2 * (s).length) ⟨p, s, mm, rfl, rfl, rfl, rfl, rfl, hp, hle, hs⟩ ?_
    · (repeat (first | exact Env.Sub.nil | refine Env.Sub.cons rfl ?_))
    · exact zpk
    rintro j r ds m' H' ⟨p, s, m2, rfl, rfl, rfl, rfl, rfl, hp, hle, hs⟩
    generalize H' = H
    by_cases h8 : 8 < s.length
    · obtain ⟨A, hA⟩ : ∃ A, s.length / 3 = A := ⟨_, rfl⟩
      have hA3 : (s.length : Int) / 3 = (A : Int) := by omega
      have hA1 : 1 ≤ A ∧ 2 * A ≤ s.length := by omega
      (try (refine st_O13_1 ?_; intros))
      rw [hA3]
      refine w_callF Try.func18 ?_ (hs := delete_any (f := (A : Int)) (t := 2 * (A : Int)) _ _ _ hp)
      rintro v m5 H ⟨hle5, rfl, hv⟩
      rw [show 2 * (A : Int) = ((2 * A : Nat) : Int) by omega, delete_ok (by omega) hA1.2] at hv
      obtain ⟨q, rfl, hq⟩ := hv
      have hta : (s.take A).length = A := by simp; omega
      have hdl : (s.drop (2 * A)).length = s.length - 2 * A := List.length_drop
      have hl1 : (s.take A ++ s.drop (2 * A)).length = s.length - A := by rw [List.length_append, hta, hdl]; omega
      (try (refine st_O13_1 ?_; intros))
      refine w_callF Try.func20 ?_ (hs := depth_any _ _ _ hq)
      rintro v m6 H ⟨rfl, rfl, kd, rfl, hkd⟩
      have ez : (2 * (A : Int)).toNat = 2 * A := by omega
      have hdz : (s.drop (2 * (A : Int)).toNat).length = s.length - 2 * A := by rw [ez, hdl]
      (try (refine st_O13_1 ?_; intros))
      rw [ez]
      refine WQ.next (2 * (s.take A ++ s.drop (2 * A)).length) ⟨q, s.take A ++ s.drop (2 * A), m6, rfl, rfl, rfl, rfl, rfl, ?_, ?_, ?_⟩ (by omega) zsb zpk
      · exact hq
      · exact hle.trans hle5
      · omega
    · have he : s = s := rfl
      (try (refine st_O13_1 ?_; intros))
      refine w_callF Try.func11 ?_ (hs := works_true hle)
      rintro v m9 H ⟨hle9, rfl, rfl⟩
      (try (refine st_O13_1 ?_; intros))
      exact q_fin0 (H0 := H) ⟨rfl, hle9⟩ (hd := zpk)
end Go.Proofs.Ytljfncpecpkhhaa

