/-
  Parts of a walk, joined: C21 EngQ. No condition.
-/
import Derived.Test.YtpghpbknjdnkkaaP4
import Derived.Test.YtpghpbknjdnkkaaP5
import Derived.Test.YtpghpbknjdnkkaaP2
import Derived.ChangeMaps5
import Derived.ReadAgain
import Derived.ChangeBook
import Derived.Deep.Slices
import Derived.WalkKit
import Derived.ProofKit
import Derived.OpenShut
import Derived.JoinedCond
set_option linter.all false
/-
  The walk of the law ClusterWhole. No condition.
-/
namespace Go.Eng
open Go
def iI (x : Int) : List Value := [.int .i64 x]
end Go.Eng
namespace Go.Proofs.Ytpghpbknjdnkkaa
open Go Go.Eng
set_option maxRecDepth 100000
set_option maxHeartbeats 4000000
set_option linter.all false
attribute [local irreducible] WL WC WQ QFun QLoop Does Q1 QRound QAssign Go.Addr.add
attribute [local irreducible] clusters atR edgeR endOf clT readP from_ pieces dl
theorem eq_cs2 (c d : Cl) : eqB Try.prog 8 38 (.agg #[.int .i64 (c.a : Int), .int .i64 (c.z : Int), .int .i64 (c.c : Int)]) (.agg #[.int .i64 (d.a : Int), .int .i64 (d.z : Int), .int .i64 (d.c : Int)]) = some (dcd (c = d)) := eq_cl c d
theorem sq_C21_1 {G : Prop} (h : G := by (repeat (first | (refine sp ?_; (repeat intro zzc)) | (refine iB_eql rfl ?_; refine w_eqlV ?_ (he := eq_cs2 _ _)) | (refine iB_neq rfl ?_; refine w_neqV ?_ (he := eq_cs2 _ _)))); exact WQ.q1 rfl) : G := h
theorem cm_C21_1 {G G' : Prop} (next : G') (h : Bx G' → G := by intro zzn; (try (refine wcal 0 ?_ (hwl := by intro zm zF zle; exact sq_C21_1))); (try (refine wcal 1 ?_ (hwl := by intro zm zF zle; exact sq_C21_1))); (try (refine wcal 2 ?_ (hwl := by intro zm zF zle; exact sq_C21_1))); (try (refine wcal 3 ?_ (hwl := by intro zm zF zle; exact sq_C21_1))); (try (refine wcal 4 ?_ (hwl := by intro zm zF zle; exact sq_C21_1))); (try (refine wcal 5 ?_ (hwl := by intro zm zF zle; exact sq_C21_1))); (try (refine wcal 6 ?_ (hwl := by intro zm zF zle; exact sq_C21_1))); (try (refine wcal 7 ?_ (hwl := by intro zm zF zle; exact sq_C21_1))); (try (refine wcal 8 ?_ (hwl := by intro zm zF zle; exact sq_C21_1))); (try (refine wcal 9 ?_ (hwl := by intro zm zF zle; exact sq_C21_1))); (try (refine wcal 10 ?_ (hwl := by intro zm zF zle; exact sq_C21_1))); (try (refine wcal 11 ?_ (hwl := by intro zm zF zle; exact sq_C21_1))); (try (refine wcal 12 ?_ (hwl := by intro zm zF zle; exact sq_C21_1))); (try (refine wcal 13 ?_ (hwl := by intro zm zF zle; exact sq_C21_1))); (try (refine wcal 14 ?_ (hwl := by intro zm zF zle; exact sq_C21_1))); (try (refine wcal 15 ?_ (hwl := by intro zm zF zle; exact sq_C21_1))); (try (refine wcal 16 ?_ (hwl := by intro zm zF zle; exact sq_C21_1))); (try (refine wcal 17 ?_ (hwl := by intro zm zF zle; exact sq_C21_1))); (try (refine wcal 18 ?_ (hwl := by intro zm zF zle; exact sq_C21_1))); (try (refine wcal 19 ?_ (hwl := by intro zm zF zle; exact sq_C21_1))); (try (refine wcal 20 ?_ (hwl := by intro zm zF zle; exact sq_C21_1))); (try (refine wcal 21 ?_ (hwl := by intro zm zF zle; exact sq_C21_1))); (try (refine wcal 22 ?_ (hwl := by intro zm zF zle; exact sq_C21_1))); (try (refine wcal 23 ?_ (hwl := by intro zm zF zle; exact sq_C21_1))); (try (refine wcal 24 ?_ (hwl := by intro zm zF zle; exact sq_C21_1))); (try (refine wcal 25 ?_ (hwl := by intro zm zF zle; exact sq_C21_1))); (try (refine wcal 26 ?_ (hwl := by intro zm zF zle; exact sq_C21_1))); (try (refine wcal 27 ?_ (hwl := by intro zm zF zle; exact sq_C21_1))); (try (refine wcal 28 ?_ (hwl := by intro zm zF zle; exact sq_C21_1))); (try (refine wcal 29 ?_ (hwl := by intro zm zF zle; exact sq_C21_1))); (try (refine wcal 30 ?_ (hwl := by intro zm zF zle; exact sq_C21_1))); (try (refine wcal 31 ?_ (hwl := by intro zm zF zle; exact sq_C21_1))); (try (refine wcal 32 ?_ (hwl := by intro zm zF zle; exact sq_C21_1))); (try (refine wcal 33 ?_ (hwl := by intro zm zF zle; exact sq_C21_1))); (try (refine wcal 34 ?_ (hwl := by intro zm zF zle; exact sq_C21_1))); (try (refine wcal 35 ?_ (hwl := by intro zm zF zle; exact sq_C21_1))); (try (refine wcal 36 ?_ (hwl := by intro zm zF zle; exact sq_C21_1))); (try (refine wcal 37 ?_ (hwl := by intro zm zF zle; exact sq_C21_1))); (try (refine wcal 38 ?_ (hwl := by intro zm zF zle; exact sq_C21_1))); (try (refine wcal 39 ?_ (hwl := by intro zm zF zle; exact sq_C21_1))); (try (refine wcal 40 ?_ (hwl := by intro zm zF zle; exact sq_C21_1))); (try (refine wcal 41 ?_ (hwl := by intro zm zF zle; exact sq_C21_1))); exact zzn.out) : G := h ⟨next⟩
theorem st_C21_1 {G G' : Prop} (next : G') (h : Bx G' → G := by intro zzn; (first | ((refine st ?_; (repeat intro zzc)); (try ((first | (refine iB_eql rfl ?_; refine w_eqlV ?_ (he := eq_cs2 _ _)) | (refine iB_neq rfl ?_; refine w_neqV ?_ (he := eq_cs2 _ _)) | ((refine iDraw ?_; (first | refine WC.drawAll rfl (by decide +kernel) ?_ | refine WC.draw 1 rfl (by decide +kernel) ?_ | refine WC.draw 2 rfl (by decide +kernel) ?_ | refine WC.draw 3 rfl (by decide +kernel) ?_ | refine WC.draw 4 rfl (by decide +kernel) ?_ | refine WC.draw 5 rfl (by decide +kernel) ?_ | refine WC.draw 6 rfl (by decide +kernel) ?_ | refine WC.draw 7 rfl (by decide +kernel) ?_ | refine WC.draw 8 rfl (by decide +kernel) ?_ | refine WC.draw 9 rfl (by decide +kernel) ?_ | refine WC.draw 10 rfl (by decide +kernel) ?_ | refine WC.draw 11 rfl (by decide +kernel) ?_ | refine WC.draw 12 rfl (by decide +kernel) ?_ | refine WC.draw 13 rfl (by decide +kernel) ?_ | refine WC.draw 14 rfl (by decide +kernel) ?_ | refine WC.draw 15 rfl (by decide +kernel) ?_ | refine WC.draw 16 rfl (by decide +kernel) ?_ | refine WC.draw 17 rfl (by decide +kernel) ?_ | refine WC.draw 18 rfl (by decide +kernel) ?_ | refine WC.draw 19 rfl (by decide +kernel) ?_ | refine WC.draw 20 rfl (by decide +kernel) ?_ | refine WC.draw 21 rfl (by decide +kernel) ?_ | refine WC.draw 22 rfl (by decide +kernel) ?_ | refine WC.draw 23 rfl (by decide +kernel) ?_ | refine WC.draw 24 rfl (by decide +kernel) ?_)); (repeat (refine WD.cons rfl (fun c h => by cases h) sq_C21_1 ?_)); refine WD.nil ?_)); (try (refine st ?_; (repeat intro zzc)))))) | ((first | (refine iB_eql rfl ?_; refine w_eqlV ?_ (he := eq_cs2 _ _)) | (refine iB_neq rfl ?_; refine w_neqV ?_ (he := eq_cs2 _ _)) | ((refine iDraw ?_; (first | refine WC.drawAll rfl (by decide +kernel) ?_ | refine WC.draw 1 rfl (by decide +kernel) ?_ | refine WC.draw 2 rfl (by decide +kernel) ?_ | refine WC.draw 3 rfl (by decide +kernel) ?_ | refine WC.draw 4 rfl (by decide +kernel) ?_ | refine WC.draw 5 rfl (by decide +kernel) ?_ | refine WC.draw 6 rfl (by decide +kernel) ?_ | refine WC.draw 7 rfl (by decide +kernel) ?_ | refine WC.draw 8 rfl (by decide +kernel) ?_ | refine WC.draw 9 rfl (by decide +kernel) ?_ | refine WC.draw 10 rfl (by decide +kernel) ?_ | refine WC.draw 11 rfl (by decide +kernel) ?_ | refine WC.draw 12 rfl (by decide +kernel) ?_ | refine WC.draw 13 rfl (by decide +kernel) ?_ | refine WC.draw 14 rfl (by decide +kernel) ?_ | refine WC.draw 15 rfl (by decide +kernel) ?_ | refine WC.draw 16 rfl (by decide +kernel) ?_ | refine WC.draw 17 rfl (by decide +kernel) ?_ | refine WC.draw 18 rfl (by decide +kernel) ?_ | refine WC.draw 19 rfl (by decide +kernel) ?_ | refine WC.draw 20 rfl (by decide +kernel) ?_ | refine WC.draw 21 rfl (by decide +kernel) ?_ | refine WC.draw 22 rfl (by decide +kernel) ?_ | refine WC.draw 23 rfl (by decide +kernel) ?_ | refine WC.draw 24 rfl (by decide +kernel) ?_)); (repeat (refine WD.cons rfl (fun c h => by cases h) sq_C21_1 ?_)); refine WD.nil ?_)); (try (refine st ?_; (repeat intro zzc))))); (repeat ((first | (refine iB_eql rfl ?_; refine w_eqlV ?_ (he := eq_cs2 _ _)) | (refine iB_neq rfl ?_; refine w_neqV ?_ (he := eq_cs2 _ _)) | ((refine iDraw ?_; (first | refine WC.drawAll rfl (by decide +kernel) ?_ | refine WC.draw 1 rfl (by decide +kernel) ?_ | refine WC.draw 2 rfl (by decide +kernel) ?_ | refine WC.draw 3 rfl (by decide +kernel) ?_ | refine WC.draw 4 rfl (by decide +kernel) ?_ | refine WC.draw 5 rfl (by decide +kernel) ?_ | refine WC.draw 6 rfl (by decide +kernel) ?_ | refine WC.draw 7 rfl (by decide +kernel) ?_ | refine WC.draw 8 rfl (by decide +kernel) ?_ | refine WC.draw 9 rfl (by decide +kernel) ?_ | refine WC.draw 10 rfl (by decide +kernel) ?_ | refine WC.draw 11 rfl (by decide +kernel) ?_ | refine WC.draw 12 rfl (by decide +kernel) ?_ | refine WC.draw 13 rfl (by decide +kernel) ?_ | refine WC.draw 14 rfl (by decide +kernel) ?_ | refine WC.draw 15 rfl (by decide +kernel) ?_ | refine WC.draw 16 rfl (by decide +kernel) ?_ | refine WC.draw 17 rfl (by decide +kernel) ?_ | refine WC.draw 18 rfl (by decide +kernel) ?_ | refine WC.draw 19 rfl (by decide +kernel) ?_ | refine WC.draw 20 rfl (by decide +kernel) ?_ | refine WC.draw 21 rfl (by decide +kernel) ?_ | refine WC.draw 22 rfl (by decide +kernel) ?_ | refine WC.draw 23 rfl (by decide +kernel) ?_ | refine WC.draw 24 rfl (by decide +kernel) ?_)); (repeat (refine WD.cons rfl (fun c h => by cases h) sq_C21_1 ?_)); refine WD.nil ?_)); (try (refine st ?_; (repeat intro zzc))))); (repeat revert zzc); exact zzn.out) : G := h ⟨next⟩
theorem clusterWhole_any (l : List UInt8) (hl : l.length ≤ 1048576) (w0 : World) (m : Mem) (H : SHeap) :
    Does Try.prog 5 #[str l] w0 m H (fun v m' _ => v = .bool true ∧ m.le m') := by
  refine Does.of_body (args := [str l]) Try.func5 rfl Try.ntmps5 rfl ?_
  have hcl := clusters_len l
  have hp0 : pieces l = from_ l 0 := by unfold pieces; rfl
  (refine st_C21_1 ?_; intros; rename_i b1 b2)
  refine w_callF Try.func11 ?_ (hs := works_any _ _ _)
  rintro v m1 H1 ⟨hle1, rfl, rfl⟩
  (refine st_C21_1 ?_; intros; rename_i b3 b4 b5 bG b6 it)
  rw [show List.replicate (l.length + 1) [Value.int .i64 0] = (List.replicate (l.length + 1) (0 : Int)).map iI by rw [List.map_replicate]; rfl]
  refine WC.loopH [(20, .pointer (some ⟨it, 0, none⟩)), (6, .pointer (some ⟨b6, 0, none⟩)), (5, .pointer (some ⟨b5, 0, none⟩)), (4, .pointer (some ⟨b4, 0, none⟩)), (3, .pointer (some ⟨b3, 0, none⟩)), (2, .pointer (some ⟨b2, 0, none⟩)), (1, .pointer (some ⟨b1, 0, none⟩))] ?_ ?_ (fun j r ds m' H' => ∃ (k : Nat) (G : List Int) (pre : List Pc), j = l.length - k ∧ r = [(20, .pointer (some ⟨it, 0, none⟩)), (6, .pointer (some ⟨b6, 0, none⟩)), (5, .pointer (some ⟨b5, 0, none⟩)), (4, .pointer (some ⟨b4, 0, none⟩)), (3, .pointer (some ⟨b3, 0, none⟩)), (2, .pointer (some ⟨b2, 0, none⟩)), (1, .pointer (some ⟨b1, 0, none⟩))] ∧ ds = [] ∧ m1 = m' ∧ H' = .blk it (.stringIter ⟨l.toArray⟩ k) :: .blk b6 (.cells [.slice (some ⟨bG, 0, none⟩) (l.length + 1) (l.length + 1)].toArray 40 (0, 0)) :: .row (some ⟨bG, 0, none⟩) (l.length + 1) 3 1 (G.map iI) :: .blk b5 (.cells [.int .i64 0].toArray 3 (0, 0)) :: .blk b4 (.cells [.int .i64 0].toArray 3 (0, 0)) :: .blk b3 (.cells [.int .i64 0].toArray 3 (0, 0)) :: .blk b2 (.cells [.bool false].toArray 4 (0, 0)) :: .blk b1 (.cells [str l].toArray 9 (0, 0)) :: H ∧ (pieces l = pre ++ from_ l k) ∧ (∀ p ∈ pre, G[p.at_]? = some 1) ∧ (G.length = l.length + 1) ∧ (k ≤ l.length)) (l.length - (0)) ⟨0, List.replicate (l.length + 1) (0 : Int), ([] : List Pc), rfl, rfl, rfl, rfl, rfl, hp0, by simp, by simp, Nat.zero_le _⟩ ?_
  · (repeat (first | exact Env.Sub.nil | refine Env.Sub.cons rfl ?_))
  · exact zpk
  rintro j r ds m' H' ⟨k, G, pre, rfl, rfl, rfl, rfl, rfl, hp, hG, hGl, hk⟩
  have hGm : (G.map iI).length = l.length + 1 := by rw [List.length_map, hGl]
  by_cases hlt : k < l.length
  · have hw := readP_w hlt
    have hwe := readP_w_eq l k
    rw [from_cons hlt] at hp
    have hset : (G.map iI).set k [.int .i64 1] = (G.set k 1).map iI := by rw [List.map_set]; rfl
    (try (refine st_C21_1 ?_; intros))
    rw [hset]
    refine WQ.next (l.length - (k + (dl (l.drop k)).2)) ⟨k + (dl (l.drop k)).2, G.set k 1, pre ++ [readP l k], rfl, rfl, rfl, rfl, rfl, ?_, ?_, ?_, ?_⟩ (by omega) zsb zpk
    · rw [hp, hwe, List.append_assoc]; rfl
    · intro p hpm
      rcases List.mem_append.1 hpm with h | h
      · by_cases he : k = p.at_
        · subst he; rw [List.getElem?_set_self (by omega)]
        · rw [List.getElem?_set_ne he]; exact hG p h
      · rw [List.mem_singleton.1 h, readP_at, List.getElem?_set_self (by omega)]
    · rw [List.length_set]; exact hGl
    · omega
  · obtain rfl : k = l.length := by omega
    rw [from_nil (by omega), List.append_nil] at hp
    subst hp
    have hG0 : ∀ c ∈ clusters l, (G.set l.length 1)[c.a]? = some 1 := fun c hc => by
      obtain ⟨p, hpm, hpa⟩ := cl_piece hc
      have hcm := ch_mem (ch_all l) hc
      rw [List.getElem?_set_ne (by omega), ← hpa]; exact hG p hpm
    have hset : (G.map iI).set l.length [.int .i64 1] = (G.set l.length 1).map iI := by rw [List.map_set]; rfl
    (try (refine st_C21_1 ?_; intros))
    rw [hset]
    have hG1 : (G.set l.length 1).length = l.length + 1 := by rw [List.length_set]; exact hGl
    generalize G.set l.length 1 = G at *
    refine w_callF Try.func17 ?_ (hs := each_any _ _ _ _)
    rintro v m1 H7 ⟨bE, rfl, rfl, rfl⟩
    (try (refine st_C21_1 ?_; intros))
    refine WC.persist (b := bE) (by (repeat (first | exact Out.here | apply Out.there))) ?_
    intro m2 hle2 hbE
    have hm2 : m.le m2 := hle1.trans hle2
    have hGml : (G.map iI).length = l.length + 1 := by rw [List.length_map, hG1]
    refine WC.rangeFuncM (encs := fun c : Cl => [c.v]) (xs := clusters l) (Cap := TextAt bE l) (lb := [.pointer (some ⟨bE, 0, none⟩)]) (ps := [33]) (Hc := H)
      (J := fun pre m' Hl => m.le m' ∧ Hl = [.blk b6 (.cells [.slice (some ⟨bG, 0, none⟩) (l.length + 1) (l.length + 1)].toArray 40 (0, 0)), .row (some ⟨bG, 0, none⟩) (l.length + 1) 3 1 (G.map iI), .blk b5 (.cells [.int .i64 (sumC pre : Int)].toArray 3 (0, 0)), .blk b4 (.cells [.int .i64 (pre.length : Int)].toArray 3 (0, 0)), .blk b3 (.cells [.int .i64 (endOf pre : Int)].toArray 3 (0, 0)), .blk b2 (.cells [.bool false].toArray 4 (0, 0)), .blk b1 (.cells [str l].toArray 9 (0, 0))]) (Jx := fun _ _ _ _ => False)
      rfl Try.func43 rfl rfl (each_seq l (by omega) bE) hbE (fun _ => rfl) rfl (fun _ _ _ _ h hm => ⟨h.1.trans hm, h.2⟩) (fun _ _ _ _ _ h _ => h) (.cons (.cons (.cons (.cons (.cons (.cons (.cons .nil))))))) ⟨hm2, by unfold endOf; rfl⟩ ?_ ?_ ?_
    · rintro lp pre c post hx m3 Hl ⟨hle3, rfl⟩ hm3 Hfr hfr
      have hs := sum_pre hx
      have hcm := ch_mem (ch_all l) (c := c) (by rw [hx]; simp)
      have hend := endOf_pre hx
      have hget : (G.map iI)[endOf pre]? = some [.int .i64 1] := by rw [List.getElem?_map, hend, hG0 c (by rw [hx]; simp)]; rfl
      have hclt : (clT l c).length = c.z - c.a := clT_len hcm.2.2.1
      have halone := cl_alone hx
      have hown : (l.take c.z).drop c.a = clT l c := by unfold clT; rfl
      generalize hE : G.map iI = E at *
      (refine st_C21_1 ?_; intros; rename_i bp)
      refine WQ.assigned (.cons (.cons (.cons (.cons (.cons (.cons (.cons (.cons .nil)))))))) (Mem.le.refl _) ?_
      intro Hfr2
      simp only [List.cons_append, List.nil_append]
      (try (refine st_C21_1 ?_; intros))
      rw [hown]
      have hctl : (clT l c).length ≤ 4194304 := by omega
      have heq : ([⟨0, c.z - c.a, c.c⟩] : List Cl) = [⟨0, (clT l c).length, c.c⟩] := by rw [hclt]
      refine WC.join (fun r' ds' m' H' => ∃ m4, m' = m4 ∧ r' = [(89, .bool (!dcd (([⟨0, c.z - c.a, c.c⟩] : List Cl) = [⟨0, (clT l c).length, c.c⟩]))), (8, .pointer (some ⟨bp, 0, none⟩)), (6, .pointer (some ⟨b6, 0, none⟩)), (5, .pointer (some ⟨b5, 0, none⟩)), (4, .pointer (some ⟨b4, 0, none⟩)), (3, .pointer (some ⟨b3, 0, none⟩)), (2, .pointer (some ⟨b2, 0, none⟩)), (1, .pointer (some ⟨b1, 0, none⟩))] ∧ ds' = [] ∧ m3.le m4 ∧ H' = .blk bp (.cells [.int .i64 (c.a : Int), .int .i64 (c.z : Int), .int .i64 (c.c : Int)].toArray 38 (0, 0)) :: .blk b6 (.cells [.slice (some ⟨bG, 0, none⟩) (l.length + 1) (l.length + 1)].toArray 40 (0, 0)) :: .row (some ⟨bG, 0, none⟩) (l.length + 1) 3 1 E :: .blk b5 (.cells [.int .i64 (sumC pre : Int)].toArray 3 (0, 0)) :: .blk b4 (.cells [.int .i64 (pre.length : Int)].toArray 3 (0, 0)) :: .blk b3 (.cells [.int .i64 (endOf pre : Int)].toArray 3 (0, 0)) :: .blk b2 (.cells [.bool false].toArray 4 (0, 0)) :: .blk b1 (.cells [str l].toArray 9 (0, 0)) :: Hfr2) ?_ ?_
      · refine WC.drawE 11 ([.blk bp (.cells [.int .i64 (c.a : Int), .int .i64 (c.z : Int), .int .i64 (c.c : Int)].toArray 38 (0, 0))]) (.blk b6 (.cells [.slice (some ⟨bG, 0, none⟩) (l.length + 1) (l.length + 1)].toArray 40 (0, 0)) :: .row (some ⟨bG, 0, none⟩) (l.length + 1) 3 1 E :: .blk b5 (.cells [.int .i64 (sumC pre : Int)].toArray 3 (0, 0)) :: .blk b4 (.cells [.int .i64 (pre.length : Int)].toArray 3 (0, 0)) :: .blk b3 (.cells [.int .i64 (endOf pre : Int)].toArray 3 (0, 0)) :: .blk b2 (.cells [.bool false].toArray 4 (0, 0)) :: .blk b1 (.cells [str l].toArray 9 (0, 0)) :: Hfr2) rfl (by decide +kernel) zpk ?_
        (refine cm_C21_1 ?_)
        refine WE.act2 1 8 (by decide +kernel) rfl rfl (fun c h => by cases h) rfl rfl (fun c h => by cases h) ?_ ?_
        · (try (refine st_C21_1 ?_; intros))
          refine w_callF Try.func19 ?_ (hs := cells_any _ hctl _ _ _)
          rintro v m4 H4 ⟨hle4, a1, cp1, rfl, rfl⟩
          rw [halone]
          (try (refine st_C21_1 ?_; intros))
          refine WQ.acted (B := [.row a1 cp1 38 3 ([(⟨0, c.z - c.a, c.c⟩ : Cl)].map Cl.cs)]) (U := .blk b6 (.cells [.slice (some ⟨bG, 0, none⟩) (l.length + 1) (l.length + 1)].toArray 40 (0, 0)) :: .row (some ⟨bG, 0, none⟩) (l.length + 1) 3 1 E :: .blk b5 (.cells [.int .i64 (sumC pre : Int)].toArray 3 (0, 0)) :: .blk b4 (.cells [.int .i64 (pre.length : Int)].toArray 3 (0, 0)) :: .blk b3 (.cells [.int .i64 (endOf pre : Int)].toArray 3 (0, 0)) :: .blk b2 (.cells [.bool false].toArray 4 (0, 0)) :: .blk b1 (.cells [str l].toArray 9 (0, 0)) :: Hfr2) rfl hle4 zpk ?_
          (refine cm_C21_1 ?_)
          refine WE.act1 8 (by decide +kernel) rfl rfl (fun c h => by cases h) ?_
          (refine st_C21_1 ?_; intros; rename_i bs)
          refine WQ.acted (B := [.blk bs (.cells [.int .i64 0, .int .i64 ((clT l c).length : Int), .int .i64 (c.c : Int)].toArray 38 (0, 0))]) (U := .blk b6 (.cells [.slice (some ⟨bG, 0, none⟩) (l.length + 1) (l.length + 1)].toArray 40 (0, 0)) :: .row (some ⟨bG, 0, none⟩) (l.length + 1) 3 1 E :: .blk b5 (.cells [.int .i64 (sumC pre : Int)].toArray 3 (0, 0)) :: .blk b4 (.cells [.int .i64 (pre.length : Int)].toArray 3 (0, 0)) :: .blk b3 (.cells [.int .i64 (endOf pre : Int)].toArray 3 (0, 0)) :: .blk b2 (.cells [.bool false].toArray 4 (0, 0)) :: .blk b1 (.cells [str l].toArray 9 (0, 0)) :: Hfr2) rfl (Mem.le.refl _) zpk ?_
          (refine cm_C21_1 ?_)
          refine WE.act1 9 (by decide +kernel) rfl rfl (fun c h => by cases h) ?_
          (try (refine st_C21_1 ?_; intros))
          refine w_callF Try.func18 ?_ (hs := equal_any (L1 := [⟨0, c.z - c.a, c.c⟩]) (L2 := [⟨0, (clT l c).length, c.c⟩]) (by simp) (by simp) (RowR.row (T := 38) (cap := cp1) (by simp)) (rowR_blk (T := 38) (fz := (0, 0)) (L := [.int .i64 0, .int .i64 ((clT l c).length : Int), .int .i64 (c.c : Int)]) (by simp) rfl (by simp [Cl.cs])))
          rintro v m4 H5 ⟨rfl, rfl, rfl⟩
          (try (refine st_C21_1 ?_; intros))
          refine WQ.acted (B := []) (U := .blk b6 (.cells [.slice (some ⟨bG, 0, none⟩) (l.length + 1) (l.length + 1)].toArray 40 (0, 0)) :: .row (some ⟨bG, 0, none⟩) (l.length + 1) 3 1 E :: .blk b5 (.cells [.int .i64 (sumC pre : Int)].toArray 3 (0, 0)) :: .blk b4 (.cells [.int .i64 (pre.length : Int)].toArray 3 (0, 0)) :: .blk b3 (.cells [.int .i64 (endOf pre : Int)].toArray 3 (0, 0)) :: .blk b2 (.cells [.bool false].toArray 4 (0, 0)) :: .blk b1 (.cells [str l].toArray 9 (0, 0)) :: Hfr2) rfl (Mem.le.refl _) zpk ?_
          (refine cm_C21_1 ?_)
          refine WE.done (by decide +kernel) ?_
          (try (refine st_C21_1 ?_; intros))
          exact WQ.join ⟨m4, rfl, rfl, rfl, hle4, rfl⟩ zsb zpk
        · (refine st_C21_1 ?_; intros; rename_i bs)
          refine WQ.acted (B := [.blk bs (.cells [.int .i64 0, .int .i64 ((clT l c).length : Int), .int .i64 (c.c : Int)].toArray 38 (0, 0))]) (U := .blk b6 (.cells [.slice (some ⟨bG, 0, none⟩) (l.length + 1) (l.length + 1)].toArray 40 (0, 0)) :: .row (some ⟨bG, 0, none⟩) (l.length + 1) 3 1 E :: .blk b5 (.cells [.int .i64 (sumC pre : Int)].toArray 3 (0, 0)) :: .blk b4 (.cells [.int .i64 (pre.length : Int)].toArray 3 (0, 0)) :: .blk b3 (.cells [.int .i64 (endOf pre : Int)].toArray 3 (0, 0)) :: .blk b2 (.cells [.bool false].toArray 4 (0, 0)) :: .blk b1 (.cells [str l].toArray 9 (0, 0)) :: Hfr2) rfl (Mem.le.refl _) zpk ?_
          (refine cm_C21_1 ?_)
          refine WE.act1 1 (by decide +kernel) rfl rfl (fun c h => by cases h) ?_
          (try (refine st_C21_1 ?_; intros))
          refine w_callF Try.func19 ?_ (hs := cells_any _ hctl _ _ _)
          rintro v m4 H4 ⟨hle4, a1, cp1, rfl, rfl⟩
          rw [halone]
          (try (refine st_C21_1 ?_; intros))
          refine WQ.acted (B := [.row a1 cp1 38 3 ([(⟨0, c.z - c.a, c.c⟩ : Cl)].map Cl.cs)]) (U := .blk b6 (.cells [.slice (some ⟨bG, 0, none⟩) (l.length + 1) (l.length + 1)].toArray 40 (0, 0)) :: .row (some ⟨bG, 0, none⟩) (l.length + 1) 3 1 E :: .blk b5 (.cells [.int .i64 (sumC pre : Int)].toArray 3 (0, 0)) :: .blk b4 (.cells [.int .i64 (pre.length : Int)].toArray 3 (0, 0)) :: .blk b3 (.cells [.int .i64 (endOf pre : Int)].toArray 3 (0, 0)) :: .blk b2 (.cells [.bool false].toArray 4 (0, 0)) :: .blk b1 (.cells [str l].toArray 9 (0, 0)) :: Hfr2) rfl hle4 zpk ?_
          (refine cm_C21_1 ?_)
          refine WE.act1 9 (by decide +kernel) rfl rfl (fun c h => by cases h) ?_
          (try (refine st_C21_1 ?_; intros))
          refine w_callF Try.func18 ?_ (hs := equal_any (L1 := [⟨0, c.z - c.a, c.c⟩]) (L2 := [⟨0, (clT l c).length, c.c⟩]) (by simp) (by simp) (RowR.row (T := 38) (cap := cp1) (by simp)) (rowR_blk (T := 38) (fz := (0, 0)) (L := [.int .i64 0, .int .i64 ((clT l c).length : Int), .int .i64 (c.c : Int)]) (by simp) rfl (by simp [Cl.cs])))
          rintro v m4 H5 ⟨rfl, rfl, rfl⟩
          (try (refine st_C21_1 ?_; intros))
          refine WQ.acted (B := []) (U := .blk b6 (.cells [.slice (some ⟨bG, 0, none⟩) (l.length + 1) (l.length + 1)].toArray 40 (0, 0)) :: .row (some ⟨bG, 0, none⟩) (l.length + 1) 3 1 E :: .blk b5 (.cells [.int .i64 (sumC pre : Int)].toArray 3 (0, 0)) :: .blk b4 (.cells [.int .i64 (pre.length : Int)].toArray 3 (0, 0)) :: .blk b3 (.cells [.int .i64 (endOf pre : Int)].toArray 3 (0, 0)) :: .blk b2 (.cells [.bool false].toArray 4 (0, 0)) :: .blk b1 (.cells [str l].toArray 9 (0, 0)) :: Hfr2) rfl (Mem.le.refl _) zpk ?_
          (refine cm_C21_1 ?_)
          refine WE.done (by decide +kernel) ?_
          (try (refine st_C21_1 ?_; intros))
          exact WQ.join ⟨m4, rfl, rfl, rfl, hle4, rfl⟩ zsb zpk
      rintro r ds m9 H9 ⟨m4, rfl, rfl, rfl, hle4, rfl⟩
      (try (refine st_C21_1 ?_; intros))
      refine WC.loopH [(10, .int .i64 ((c.a) : Int)), (8, .pointer (some ⟨bp, 0, none⟩)), (6, .pointer (some ⟨b6, 0, none⟩)), (5, .pointer (some ⟨b5, 0, none⟩)), (4, .pointer (some ⟨b4, 0, none⟩)), (3, .pointer (some ⟨b3, 0, none⟩)), (2, .pointer (some ⟨b2, 0, none⟩)), (1, .pointer (some ⟨b1, 0, none⟩))] ?_ ?_ (fun j r ds m' H' => ∃ (i : Nat) (mm : Mem), j = c.z - i ∧ r = [(10, .int .i64 (i : Int)), (8, .pointer (some ⟨bp, 0, none⟩)), (6, .pointer (some ⟨b6, 0, none⟩)), (5, .pointer (some ⟨b5, 0, none⟩)), (4, .pointer (some ⟨b4, 0, none⟩)), (3, .pointer (some ⟨b3, 0, none⟩)), (2, .pointer (some ⟨b2, 0, none⟩)), (1, .pointer (some ⟨b1, 0, none⟩))] ∧ ds = [] ∧ mm = m' ∧ H' = .blk bp (.cells [.int .i64 (c.a : Int), .int .i64 (c.z : Int), .int .i64 (c.c : Int)].toArray 38 (0, 0)) :: .blk b6 (.cells [.slice (some ⟨bG, 0, none⟩) (l.length + 1) (l.length + 1)].toArray 40 (0, 0)) :: .row (some ⟨bG, 0, none⟩) (l.length + 1) 3 1 E :: .blk b5 (.cells [.int .i64 (sumC pre : Int)].toArray 3 (0, 0)) :: .blk b4 (.cells [.int .i64 (pre.length : Int)].toArray 3 (0, 0)) :: .blk b3 (.cells [.int .i64 (endOf pre : Int)].toArray 3 (0, 0)) :: .blk b2 (.cells [.bool false].toArray 4 (0, 0)) :: .blk b1 (.cells [str l].toArray 9 (0, 0)) :: Hfr2 ∧ (m3.le mm) ∧ (c.a ≤ i ∧ i ≤ c.z)) (c.z - (c.a)) ⟨c.a, m9, rfl, rfl, rfl, rfl, rfl, hle4, by omega⟩ ?_
      · (repeat (first | exact Env.Sub.nil | refine Env.Sub.cons rfl ?_))
      · exact zpk
      rintro j r ds m' H' ⟨i, mm, rfl, rfl, rfl, rfl, rfl, hle5, hi⟩
      by_cases hlt : i < c.z
      · have hat := at_whole hx (k := (i : Int)) (by omega) (by omega)
        have hed := edge_whole hx (k := (i : Int)) (by omega) (by omega)
        have hee : (!(dcd (edgeR (clusters l) (i : Int) l.length) == dcd ((i : Int) = (c.a : Int)))) = false := by rw [dcd_cong hed]; simp
        (try (refine st_C21_1 ?_; intros))
        refine w_callF Try.func20 ?_ (hs := at_any l (by omega) _ _ _ _)
        rintro v m5 H5 ⟨hle6, rfl, rfl⟩
        rw [hat]
        rw [show atV (some c) = .tuple #[c.v, .int .i64 0] from rfl]
        (refine st_C21_1 ?_; intros; rename_i b11)
        refine WC.drawE 18 ([.blk b11 (.cells [.int .i64 (c.a : Int), .int .i64 (c.z : Int), .int .i64 (c.c : Int)].toArray 38 (0, 0)), .blk bp (.cells [.int .i64 (c.a : Int), .int .i64 (c.z : Int), .int .i64 (c.c : Int)].toArray 38 (0, 0)), .blk b1 (.cells [str l].toArray 9 (0, 0))]) (.blk b6 (.cells [.slice (some ⟨bG, 0, none⟩) (l.length + 1) (l.length + 1)].toArray 40 (0, 0)) :: .row (some ⟨bG, 0, none⟩) (l.length + 1) 3 1 E :: .blk b5 (.cells [.int .i64 (sumC pre : Int)].toArray 3 (0, 0)) :: .blk b4 (.cells [.int .i64 (pre.length : Int)].toArray 3 (0, 0)) :: .blk b3 (.cells [.int .i64 (endOf pre : Int)].toArray 3 (0, 0)) :: .blk b2 (.cells [.bool false].toArray 4 (0, 0)) :: Hfr2) rfl (by decide +kernel) zpk ?_
        (refine cm_C21_1 ?_)
        refine WE.act1 10 (by decide +kernel) rfl rfl (fun c h => by cases h) ?_
        (try (refine st_C21_1 ?_; intros))
        refine w_callF Try.func21 ?_ (hs := edge_any l (by omega) _ _ _ _)
        rintro v m6 H6 ⟨hle7, rfl, rfl⟩
        (try (refine st_C21_1 ?_; intros))
        refine WQ.acted (B := []) (U := .blk b6 (.cells [.slice (some ⟨bG, 0, none⟩) (l.length + 1) (l.length + 1)].toArray 40 (0, 0)) :: .row (some ⟨bG, 0, none⟩) (l.length + 1) 3 1 E :: .blk b5 (.cells [.int .i64 (sumC pre : Int)].toArray 3 (0, 0)) :: .blk b4 (.cells [.int .i64 (pre.length : Int)].toArray 3 (0, 0)) :: .blk b3 (.cells [.int .i64 (endOf pre : Int)].toArray 3 (0, 0)) :: .blk b2 (.cells [.bool false].toArray 4 (0, 0)) :: Hfr2) rfl hle7 zpk ?_
        (refine cm_C21_1 ?_)
        refine WE.done (by decide +kernel) ?_
        (try (refine st_C21_1 ?_; intros))
        refine WQ.next (c.z - (i + 1)) ⟨i + 1, m6, rfl, rfl, rfl, rfl, rfl, ?_, ?_⟩ (by omega) zsb zpk
        · exact hle5.trans (hle6.trans hle7)
        · omega
      · obtain rfl : i = c.z := by omega
        have hsn := sumC_snoc pre c
        (try (refine st_C21_1 ?_; intros))
        rw [show (sumC pre : Int) + (c.c : Int) = (sumC (pre ++ [c]) : Int) by omega, show (pre.length : Int) + 1 = ((pre ++ [c]).length : Int) by rw [List.length_append, List.length_singleton]; omega, show (c.z : Int) = (endOf (pre ++ [c]) : Int) by rw [endOf_snoc]]
        exact WQ.roundOn (Hl := [_, _, _, _, _, _, _]) (fun w h => h.drop) hle5 ⟨hle3.trans hle5, rfl⟩
    · rintro D m3 Hl ⟨hle3, rfl⟩ hm3
      have hedge := edge_end l
      rw [endOf_all]
      (try (refine st_C21_1 ?_; intros))
      refine WC.drawE 25 ([.blk b5 (.cells [.int .i64 (sumC (clusters l) : Int)].toArray 3 (0, 0)), .blk b4 (.cells [.int .i64 ((clusters l).length : Int)].toArray 3 (0, 0)), .blk b3 (.cells [.int .i64 (l.length : Int)].toArray 3 (0, 0)), .blk b1 (.cells [str l].toArray 9 (0, 0))]) (.blk b2 (.cells [.bool false].toArray 4 (0, 0)) :: .blk D (.deferred (some [])) :: H) rfl (by decide +kernel) zpk ?_
      (refine cm_C21_1 ?_)
      refine WE.act1 7 (by decide +kernel) rfl rfl (fun c h => by cases h) ?_
      (try (refine st_C21_1 ?_; intros))
      refine w_callF Try.func22 ?_ (hs := count_any l (by omega) _ _ _)
      rintro v m4 H4 ⟨hle4, rfl, rfl⟩
      (try (refine st_C21_1 ?_; intros))
      refine WQ.acted (B := []) (U := .blk b2 (.cells [.bool false].toArray 4 (0, 0)) :: .blk D (.deferred (some [])) :: H) rfl hle4 zpk ?_
      (refine cm_C21_1 ?_)
      refine WE.act1 13 (by decide +kernel) rfl rfl (fun c h => by cases h) ?_
      (try (refine st_C21_1 ?_; intros))
      refine w_callF Try.func16 ?_ (hs := columnsT_any l (by omega) _ _ _)
      rintro v m5 H5 ⟨hle5, rfl, rfl⟩
      (try (refine st_C21_1 ?_; intros))
      refine WQ.acted (B := []) (U := .blk b2 (.cells [.bool false].toArray 4 (0, 0)) :: .blk D (.deferred (some [])) :: H) rfl hle5 zpk ?_
      (refine cm_C21_1 ?_)
      refine WE.act1 20 (by decide +kernel) rfl rfl (fun c h => by cases h) ?_
      (try (refine st_C21_1 ?_; intros))
      refine w_callF Try.func21 ?_ (hs := edge_any l (by omega) _ _ _ _)
      rintro v m6 H6 ⟨hle6, rfl, rfl⟩
      (try (refine st_C21_1 ?_; intros))
      refine WQ.acted (B := []) (U := .blk b2 (.cells [.bool false].toArray 4 (0, 0)) :: .blk D (.deferred (some [])) :: H) rfl hle6 zpk ?_
      (refine cm_C21_1 ?_)
      refine WE.act1 23 (by decide +kernel) rfl rfl (fun c h => by cases h) ?_
      (try (refine st_C21_1 ?_; intros))
      refine w_callF Try.func11 ?_ (hs := works_any _ _ _)
      rintro v m7 H8 ⟨hle7, rfl, rfl⟩
      (try (refine st_C21_1 ?_; intros))
      refine WQ.acted (B := []) (U := .blk b2 (.cells [.bool false].toArray 4 (0, 0)) :: .blk D (.deferred (some [])) :: H) rfl hle7 zpk ?_
      (refine cm_C21_1 ?_)
      refine WE.done (by decide +kernel) ?_
      have hm7 : m.le m7 := hle3.trans (hle4.trans (hle5.trans (hle6.trans hle7)))
      (try (refine st_C21_1 ?_; intros))
      refine WQ.mark (H1 := [_, _, _, _, _] ++ H) (List.perm_middle (l₁ := [_, _, _, _, _])) ?_
      exact q_fin0 (H0 := H) ⟨rfl, hm7⟩ (hd := zpk)
    · intro D cd pre m2 Hl _ h
      exact h.elim
end Go.Proofs.Ytpghpbknjdnkkaa

/-
  A walk's engine, sixteenth part: how a law's arguments are read, ahead of the call and behind it. No condition.
-/
set_option linter.all false
namespace Go.Eng
open Go Go.RowKit Go.ChangeShapes Go.WideShapes Go.ChangeMaps
section
variable {H : Type} {enc : TypeId × Value → H} {P : Program}
theorem same_below {W W' : World} (hb : Below W.heap.size W W') {p : MemPlace} (hp : p.block < W.heap.size) : W.sameAt W' p := by
  cases p with
  | cell b off =>
    have h := hb.block b hp
    show W'.cell? ⟨b, off, none⟩ = W.cell? ⟨b, off, none⟩
    simp only [World.cell?, h]
  | map b => exact hb.block b hp
theorem trod_again {W W' : World} {sp : Nat → Bool} {t : TypeId} {v : Value} {d : DataW H} {p : List MemPlace} (hl : laidOutB P = true) (ht : t < P.types.size) (hr : P.readableRec t = true)
    (h : DataW.Trod enc P W 0 (fun _ => true) true t v d p) (hlt : ∀ q ∈ p, q.block < W.heap.size) (hb : Below W.heap.size W W') (hs : ∀ q ∈ p, sp q.block = true) : DataW.Trod enc P W' 0 sp true t v d p := by
  obtain ⟨n, hn⟩ := h
  have h1 := DataW.trod_carry (w' := W') n _ _ _ hn (fun q hq => same_below hb (hlt q hq))
  exact ⟨n, DataW.trod_respare (kids_book hl hr) (fun t e hT hu => book_sized hr hT hu) n _ _ _ ⟨ht, book_self t⟩ h1 hs⟩
theorem args_again {W W' : World} {sp : Nat → Bool} (hl : laidOutB P = true) (hb : Below W.heap.size W W') : ∀ {ts : List TypeId} {vs : List Value} {ds : List (DataW H)} {p : List MemPlace},
    (∀ t ∈ ts, t < P.types.size ∧ P.readableRec t = true) → DataW.TrodAll enc P W 0 (fun _ => true) true ts vs ds p → (∀ q ∈ p, sp q.block = true) → DataW.TrodAll enc P W' 0 sp true ts vs ds p
  | [], [], [], _, _, h, _ => h
  | t :: ts, v :: vs, d :: ds, p, hts, h, hs => by
    have hlt := DataW.TrodAll.lt h
    obtain ⟨a, b, h1, h2, e⟩ := h
    subst e
    obtain ⟨g1, g2⟩ := hts t List.mem_cons_self
    exact ⟨a, b, trod_again hl g1 g2 h1 (fun q hq => hlt q (List.mem_append_left _ hq)) hb (fun q hq => hs q (List.mem_append_left _ hq)),
      args_again hl hb (fun t ht => hts t (List.mem_cons_of_mem _ ht)) h2 (fun q hq => hs q (List.mem_append_right _ hq)), rfl⟩
/-- a law that says true, and leaves all that it was handed -/
theorem post_true {f : Func} {s : ChangeSpec} {apart fresh handsOn again : Bool} {W W' : World} {args : Array Value} {ds gs : List (DataW H)} {before : List MemPlace} {tb : TypeId}
    (hW : DataW.Whole enc P f.params.toList s.vars apart W args.toList ds gs before) (hvars : s.vars = []) (hfn : s.fn H (ds ++ gs) = { results := [.lit (.bool true)], args := ds })
    (hres : f.resultTypes = #[tb]) (htb : P.underlying tb = some .bool) (hl : laidOutB P = true) (hts : (f.params.toList.all fun t => decide (t < P.types.size) && P.readableRec t) = true) (hb : Below W.heap.size W W') :
    s.post enc P f apart fresh handsOn again W args (.bool true) W' := by
  have hW2 := hW
  obtain ⟨p, q, hA, hV, e, _, _⟩ := hW
  rw [hvars] at hV
  obtain ⟨rfl, rfl⟩ := trodVars_none hV
  rw [List.append_nil] at e
  subst e
  have hts' : ∀ t ∈ f.params.toList, t < P.types.size ∧ P.readableRec t = true := fun t ht => by simpa using List.all_eq_true.1 hts t ht
  refine post_below (pa := before) (pv := []) hW2 (fun _ _ _ => ?_) (fun sp hs => ?_) (fun _ _ => ?_) (by simp) hb ?_
  · rw [hfn, hres]; exact trodAll_cons_mk (shut_bool htb _) trodAll_mk0
  · rw [hfn]; exact args_again hl hb hts' hA hs
  · rw [hfn, hvars]; rfl
  · intro j t r h1 h2
    rw [hres] at h1 h2
    match j, h1 with
    | 0, h1 =>
      simp at h1; subst h1
      simp [Value.resultList] at h2
      subst h2
      exact okWide_bool_mk htb _
end
end Go.Eng

