/-
  Parts of a walk, joined: CT10 C23 EngQ. No condition.
-/
import Derived.Test.YtpghpbknjdnkkaaP5
import Derived.Test.YtpghpbknjdnkkaaP4
import Derived.Test.YtpghpbknjdnkkaaP3
import Derived.ChangeMaps5
import Derived.ReadAgain
import Derived.ChangeBook
import Derived.Deep.Slices
import Derived.WalkKit
import Derived.ProofKit
import Derived.OpenShut
import Derived.JoinedCond
set_option linter.all false
/-
  Plain facts: a text of plain runes has as many clusters as pieces. No condition.
-/
namespace Go.Eng
open Go
def Plain (r : Nat) : Prop := okr r ∧ r ≠ 65533 ∧ r ≠ 13 ∧ r ≠ 8205 ∧ ¬ (768 ≤ r ∧ r ≤ 879)
theorem kind_mark {r : Nat} (h : kindN r = 2) : 768 ≤ r ∧ r ≤ 879 := by
  by_cases hl : Great r ∨ Small r
  · rw [kind_letter hl] at h; cases h
  · have := kind_spec hl; omega
theorem plain_free {h : Nat} {q p : Pc} (hq : Plain q.r) (hp : Plain p.r) (hb : p.b = false) : ¬ Glue h q p := by
  obtain ⟨_, _, q3, q4, _⟩ := hq
  obtain ⟨_, _, p3, p4, p5⟩ := hp
  rintro (g | ⟨_, _, g | g | g⟩)
  · exact q3 g.1
  · rw [kindP_r hb] at g; exact p5 (kind_mark g)
  · exact p4 g
  · exact q4 g.2.2
theorem plain_go : ∀ (ps : List Pc) (c : Cl) (h : Nat) (q : Pc), Plain q.r → (∀ p ∈ ps, Plain p.r ∧ p.b = false) → clGo (some (c, h, q)) ps = c :: ps.map headC
  | [], c, h, q, _, _ => rfl
  | p :: ps, c, h, q, hq, hp => by
    have h1 := hp p List.mem_cons_self
    rw [clGo_free (plain_free hq h1.1 h1.2), plain_go ps _ _ p h1.1 (fun x hx => hp x (List.mem_cons_of_mem _ hx))]
    rfl
theorem plain_clusters {l : List UInt8} (h : ∀ p ∈ pieces l, Plain p.r ∧ p.b = false) : clusters l = (pieces l).map headC := by
  unfold clusters
  cases hp : pieces l with
  | nil => rfl
  | cons p ps =>
    rw [hp] at h
    have h1 := h p List.mem_cons_self
    rw [clGo_none, plain_go ps _ _ p h1.1 (fun x hx => h x (List.mem_cons_of_mem _ hx))]
    rfl
theorem mkP_plain : ∀ (ns : List Int) (k : Nat), (∀ x ∈ ns, Plain (rn x)) → ∀ p ∈ mkP k ns, Plain p.r ∧ p.b = false
  | [], k, _, p, hp => by cases hp
  | n :: ns, k, h, p, hp => by
    rcases List.mem_cons.1 hp with rfl | hp
    · exact ⟨h n List.mem_cons_self, rfl⟩
    · exact mkP_plain ns _ (fun x hx => h x (List.mem_cons_of_mem _ hx)) p hp
theorem forms_plain {ns : List Int} (h : ∀ x ∈ ns, Plain (rn x)) : clusters (formsOf ns) = (pieces (formsOf ns)).map headC ∧ ∀ p ∈ pieces (formsOf ns), Plain p.r ∧ p.b = false := by
  have h1 : ∀ p ∈ pieces (formsOf ns), Plain p.r ∧ p.b = false := by rw [forms_pieces]; exact mkP_plain ns 0 h
  exact ⟨plain_clusters h1, h1⟩
theorem piece_text {l : List UInt8} {p : Pc} (h : p ∈ pieces l) (hb : p.b = false) : (l.take (p.at_ + p.w)).drop p.at_ = fmb p.r := by
  obtain ⟨A, B, e⟩ := List.append_of_mem h
  have hsp := pieces_split e
  have hlt := hsp.1
  have he := hsp.2.1
  unfold readP at he
  split at he
  · rw [he] at hb; cases hb
  · rename_i hd
    rcases dl_cases (l.drop p.at_) (by simp; omega) with ⟨h1, h2, h3⟩ | ⟨h2, _⟩
    · have hr : p.r = (dl (l.drop p.at_)).1 := by rw [he]
      have hw : p.w = (dl (l.drop p.at_)).2 := by rw [he]
      have := (begins_iff _ _ (okr_le h1)).1 h3
      rw [hr, ← this, hw, h2, List.drop_take]
      congr 1; omega
    · exact absurd h2 hd
end Go.Eng

/-
  The walk of the law ClusterGo. No condition.
-/
namespace Go.Eng
open Go
theorem plain_snoc {gs : List Int} {c : Nat} (h : ∀ x ∈ gs, Plain (rn x)) (hc : Plain c) : ∀ x ∈ gs ++ [(c : Int)], Plain (rn x) := fun x hx => by
  rcases List.mem_append.1 hx with hx | hx
  · exact h x hx
  · rw [List.mem_singleton.1 hx, rn_nat hc.1]; exact hc
theorem forms_snoc (gs : List Int) {c : Nat} (hc : okr c) : formsOf (gs ++ [(c : Int)]) = formsOf gs ++ fmb c := by
  rw [formsOf_append]; simp [formsOf, rn_nat hc]
end Go.Eng
namespace Go.Proofs.Ytpghpbknjdnkkaa
open Go Go.Eng
set_option maxRecDepth 100000
set_option maxHeartbeats 4000000
set_option linter.all false
attribute [local irreducible] WL WC WQ QFun QLoop Does Q1 QRound QAssign Go.Addr.add
attribute [local irreducible] clusters readP pieces dl from_ formsOf
theorem clusterGo_any (l : List UInt8) (hl : l.length ≤ 1048576) (w0 : World) (m : Mem) (H : SHeap) :
    Does Try.prog 7 #[str l] w0 m H (fun v m' _ => v = .bool true ∧ m.le m') := by
  refine Does.of_body (args := [str l]) Try.func7 rfl Try.ntmps7 rfl ?_
  (refine st ?_; intros; rename_i b2)
  refine w_callF Try.func11 ?_ (hs := works_any _ _ _)
  rintro v m1 H1 ⟨hle1, rfl, rfl⟩
  (refine st ?_; intros; rename_i b3 it)
  refine WC.newRow (T := 5) (sz := 1) ?_
  have hf0 : formsOf [] = [] := by unfold formsOf; rfl
  refine WC.loopH [(12, .pointer (some ⟨it, 0, none⟩)), (3, .pointer (some ⟨b3, 0, none⟩)), (2, .pointer (some ⟨b2, 0, none⟩))] ?_ ?_ (fun j r ds m' H' => ∃ (k : Nat) (gs : List Int) (T : List UInt8) (ao : Option Addr) (a : Option Addr) (cap : Nat), j = l.length - k ∧ r = [(12, .pointer (some ⟨it, 0, none⟩)), (3, .pointer (some ⟨b3, 0, none⟩)), (2, .pointer (some ⟨b2, 0, none⟩))] ∧ ds = [] ∧ m1 = m' ∧ H' = .blk b3 (.cells [.pointer ao, .slice a T.length cap].toArray 51 (0, 0)) :: .row a cap 5 1 (bCs T) :: .blk it (.stringIter ⟨l.toArray⟩ k) :: .blk b2 (.cells [.bool false].toArray 4 (0, 0)) :: H ∧ (ao = none ∨ ao = some ⟨b3, 0, none⟩) ∧ (a = none ∨ 0 < cap) ∧ (∀ x ∈ gs, Plain (rn x)) ∧ (T = formsOf gs) ∧ (T.length ≤ k) ∧ (k ≤ l.length)) (l.length - (0)) ⟨0, ([] : List Int), ([] : List UInt8), none, none, 0, rfl, rfl, rfl, rfl, rfl, .inl rfl, .inl rfl, by simp, hf0.symm, by simp, Nat.zero_le _⟩ ?_
  · (repeat (first | exact Env.Sub.nil | refine Env.Sub.cons rfl ?_))
  · exact zpk
  rintro j r ds m' H' ⟨k, gs, T, ao, a, cap, rfl, rfl, rfl, rfl, rfl, hao, hca, hgs, hT, hgl, hk⟩
  by_cases hlt : k < l.length
  · have hw := readP_w hlt
    have hwe := readP_w_eq l k
    have hok := readP_ok hlt
    have hre := readP_r_eq l k
    rw [hre] at hok
    rw [hwe] at hw
    have hwd : (dl (l.drop k)).1 ≠ 65533 → (dl (l.drop k)).2 = wd (dl (l.drop k)).1 := fun h => by
      rcases dl_cases (l.drop k) (by simp; omega) with ⟨h1, h2, _⟩ | ⟨h1, _⟩
      · exact h2
      · rw [h1] at h; exact absurd rfl h
    have hcs : ((dl (l.drop k)).1 = 65533 ∨ ((dl (l.drop k)).1 ≠ 65533 ∧ (dl (l.drop k)).1 = 13) ∨ ((dl (l.drop k)).1 ≠ 65533 ∧ (dl (l.drop k)).1 ≠ 13 ∧ (dl (l.drop k)).1 = 8205) ∨ ((dl (l.drop k)).1 ≠ 65533 ∧ (dl (l.drop k)).1 ≠ 13 ∧ (dl (l.drop k)).1 ≠ 8205 ∧ 768 ≤ (dl (l.drop k)).1 ∧ (dl (l.drop k)).1 ≤ 879)) ∨ ((dl (l.drop k)).1 ≠ 65533 ∧ (dl (l.drop k)).1 ≠ 13 ∧ (dl (l.drop k)).1 ≠ 8205 ∧ ((dl (l.drop k)).1 < 768 ∨ (¬ (dl (l.drop k)).1 < 768 ∧ 879 < (dl (l.drop k)).1))) := by omega
    rcases hcs with hcs | ⟨f1, f2, f3, f4⟩
    · rcases hcs with f1 | ⟨f1, f2⟩ | ⟨f1, f2, f3⟩ | ⟨f1, f2, f3, f4, f5⟩
      all_goals
        (try (refine st ?_; intros))
        refine WQ.next (l.length - (k + (dl (l.drop k)).2)) ⟨k + (dl (l.drop k)).2, gs, T, ao, a, cap, rfl, rfl, rfl, rfl, rfl, ?_, ?_, ?_, ?_, ?_, ?_⟩ (by omega) zsb zpk
        · exact hao
        · exact hca
        · exact hgs
        · exact hT
        · omega
        · omega
    · have hpl : Plain (dl (l.drop k)).1 := ⟨hok, f1, f2, f3, by omega⟩
      have hfs := forms_snoc gs hok
      have hfl := fmb_length (dl (l.drop k)).1
      have hw2 := hwd f1
      rcases f4 with f4 | ⟨f4, f5⟩
      all_goals
        (try (refine st ?_; intros))
        refine w_callF Try.func24 ?_ (hs := writeRune_any (dl (l.drop k)).1 hok hao (by omega) _ _ _)
        rintro v m9 H9 ⟨rfl, ao2, a2, cap2, hao2, hca2, rfl⟩
        (try (refine st ?_; intros))
        refine WQ.next (l.length - (k + (dl (l.drop k)).2)) ⟨k + (dl (l.drop k)).2, gs ++ [((dl (l.drop k)).1 : Int)], T ++ fmb (dl (l.drop k)).1, ao2, a2, cap2, rfl, rfl, rfl, rfl, rfl, ?_, ?_, ?_, ?_, ?_, ?_⟩ (by omega) zsb zpk
        · exact hao2
        · exact hca2
        · exact plain_snoc hgs hpl
        · rw [hfs, hT]
        · rw [List.length_append]; omega
        · omega
  · obtain rfl : k = l.length := by omega
    obtain ⟨hcl, hpp⟩ := forms_plain hgs
    rw [← hT] at hcl hpp
    have hTl : T.length ≤ 1048576 := by omega
    (try (refine st ?_; intros))
    refine w_callF Try.func25 ?_ (hs := bString_any hca (by omega) _ _ _)
    rintro v m1 H9 ⟨rfl, rfl, rfl⟩
    (refine st ?_; intros; rename_i b6 b7)
    refine w_callF Try.func17 ?_ (hs := each_any _ _ _ _)
    rintro v m1 H9 ⟨bE, rfl, rfl, rfl⟩
    (try (refine st ?_; intros))
    refine WC.persist (b := bE) (by (repeat (first | exact Out.here | apply Out.there))) ?_
    intro m2 hle2 hbE
    have hm2 : m.le m2 := hle1.trans hle2
    have hcl2 := clusters_len T
    have hpl2 : (pieces T).length = (clusters T).length := by rw [hcl, List.length_map]
    refine WC.rangeLeave (encs := fun c : Cl => [c.v]) (xs := clusters T) (Cap := TextAt bE T) (lb := [.pointer (some ⟨bE, 0, none⟩)]) (ps := [39]) (Hl0 := [_, _, _])
      (J := fun pre m' Hl => m.le m' ∧ Hl = [.blk b7 (.cells [.int .i64 (pre.length : Int)].toArray 3 (0, 0)), .blk b6 (.cells [str T].toArray 9 (0, 0)), .blk b2 (.cells [.bool false].toArray 4 (0, 0))])
      rfl Try.func43 rfl rfl (each_seq T (by omega) bE) hbE (fun _ => rfl) rfl (fun _ _ _ _ h hm => ⟨h.1.trans hm, h.2⟩) (.cons (.cons (.cons .nil))) ⟨hm2, rfl⟩ ?_ ?_
    · rintro lp pre c post hx m3 Hl ⟨hle3, rfl⟩ hm3 Hfr hfr
      have hs := sum_pre hx
      have hcm := ch_mem (ch_all T) (c := c) (by rw [hx]; simp)
      have hgc : (clusters T)[pre.length]? = some c := by rw [hx, List.getElem?_append_right (Nat.le_refl _), Nat.sub_self]; rfl
      obtain ⟨p, hp, hpc⟩ : ∃ p, (pieces T)[pre.length]? = some p ∧ headC p = c := by
        rw [hcl, List.getElem?_map] at hgc
        cases hh : (pieces T)[pre.length]? with
        | none => rw [hh] at hgc; cases hgc
        | some p => rw [hh] at hgc; exact ⟨p, rfl, Option.some.inj hgc⟩
      have hpm := List.mem_of_getElem? hp
      obtain ⟨hpl, hpb⟩ := hpp p hpm
      have htx := piece_text hpm hpb
      have hca2 : c.a = p.at_ := by rw [← hpc]; rfl
      have hcz2 : c.z = p.at_ + p.w := by rw [← hpc]; rfl
      rw [← hcz2, ← hca2] at htx
      have hrp : rn ((p.r : Nat) : Int) = p.r := rn_nat hpl.1
      have hgr : ((pieces T).map fun p => rV p.r)[pre.length]? = some [.int .i32 (p.r : Int)] := by rw [List.getElem?_map, hp]; rfl
      have hpre : pre.length < (pieces T).length := by rw [hpl2, hx]; simp
      have hrl : ((pieces T).map fun p => rV p.r).length = (pieces T).length := List.length_map _
      (refine st ?_; intros; rename_i bp)
      refine WQ.assigned (.cons (.cons (.cons (.cons .nil)))) (Mem.le.refl _) ?_
      intro Hfr2
      simp only [List.cons_append, List.nil_append]
      refine WC.block ?_
      (repeat (refine WC.seq ?_))
      refine WC.drawE 22 ([.blk b7 (.cells [.int .i64 (pre.length : Int)].toArray 3 (0, 0)), .blk b6 (.cells [str T].toArray 9 (0, 0)), .blk bp (.cells [.int .i64 (c.a : Int), .int .i64 (c.z : Int), .int .i64 (c.c : Int)].toArray 38 (0, 0))]) (.blk b2 (.cells [.bool false].toArray 4 (0, 0)) :: Hfr2) rfl (by decide +kernel) zpk ?_
      (refine cm0 ?_)
      refine WE.act1 2 (by decide +kernel) rfl rfl (fun c h => by cases h) ?_
      (refine st ?_; intros; rename_i br cr)
      refine WQ.acted (B := [.row (some ⟨br, 0, none⟩) cr 21 1 ((pieces T).map fun p => rV p.r)]) (U := .blk b2 (.cells [.bool false].toArray 4 (0, 0)) :: Hfr2) rfl (Mem.le.refl _) zpk ?_
      (refine cm0 ?_)
      refine WE.act1 15 (by decide +kernel) rfl rfl (fun c h => by cases h) ?_
      (refine st ?_; intros; rename_i br2 cr2)
      refine WQ.acted (B := [.row (some ⟨br2, 0, none⟩) cr2 21 1 ((pieces T).map fun p => rV p.r)]) (U := .blk b2 (.cells [.bool false].toArray 4 (0, 0)) :: Hfr2) rfl (Mem.le.refl _) zpk ?_
      (refine cm0 ?_)
      refine WE.done (by decide +kernel) ?_
      have hq : (T.take c.z).drop c.a = (Utf8.encode (p.r : Int)).data.toList := by rw [encode_eq, hrp]; exact htx
      by_cases h300 : (300 : Int) < (pre.length : Int) + 1
      · (try (refine st ?_; intros))
        rw [show (pre.length : Int) + 1 = ((pre ++ [c]).length : Int) by rw [List.length_append, List.length_singleton]; omega]
        exact WQ.roundExit (Hl := [_, _, _]) zpk (Mem.le.refl _) ⟨rfl, hle3, rfl⟩
      · (try (refine st ?_; intros))
        rw [show (pre.length : Int) + 1 = ((pre ++ [c]).length : Int) by rw [List.length_append, List.length_singleton]; omega]
        exact WQ.roundOn (Hl := [_, _, _]) zpk (Mem.le.refl _) ⟨hle3, rfl⟩
    rintro D pre m3 Hl ⟨hle3, rfl⟩ hm3
    (try (refine st ?_; intros))
    refine WC.join (fun r' ds' m' H' => r' = [(2, .pointer (some ⟨b2, 0, none⟩))] ∧ ds' = [D] ∧ m.le m' ∧ H' = [.blk b2 (.cells [.bool true].toArray 4 (0, 0))] ++ .blk D (.deferred (some [])) :: H) ?_ ?_
    · have hlen : ((clusters T).length : Int) = ((pieces T).length : Int) := by rw [hpl2]
      refine WC.drawE 9 ([.blk b6 (.cells [str T].toArray 9 (0, 0))]) (.blk b7 (.cells [.int .i64 (pre.length : Int)].toArray 3 (0, 0)) :: .blk b2 (.cells [.bool false].toArray 4 (0, 0)) :: .blk D (.deferred (some [])) :: H) rfl (by decide +kernel) zpk ?_
      (refine cm0 ?_)
      refine WE.act2 1 3 (by decide +kernel) rfl rfl (fun c h => by cases h) rfl rfl (fun c h => by cases h) ?_ ?_
      · (try (refine st ?_; intros))
        refine w_callF Try.func22 ?_ (hs := count_any T (by omega) _ _ _)
        rintro v m4 H4 ⟨hle4, rfl, rfl⟩
        (try (refine st ?_; intros))
        refine WQ.acted (B := []) (U := .blk b7 (.cells [.int .i64 (pre.length : Int)].toArray 3 (0, 0)) :: .blk b2 (.cells [.bool false].toArray 4 (0, 0)) :: .blk D (.deferred (some [])) :: H) rfl hle4 zpk ?_
        (refine cm0 ?_)
        refine WE.act1 3 (by decide +kernel) rfl rfl (fun c h => by cases h) ?_
        (refine st ?_; intros; rename_i br cr)
        refine WQ.acted (B := [.row (some ⟨br, 0, none⟩) cr 21 1 ((pieces T).map fun p => rV p.r)]) (U := .blk b7 (.cells [.int .i64 (pre.length : Int)].toArray 3 (0, 0)) :: .blk b2 (.cells [.bool false].toArray 4 (0, 0)) :: .blk D (.deferred (some [])) :: H) rfl (Mem.le.refl _) zpk ?_
        (refine cm0 ?_)
        refine WE.act1 7 (by decide +kernel) rfl rfl (fun c h => by cases h) ?_
        (try (refine st ?_; intros))
        refine w_callF Try.func11 ?_ (hs := works_any _ _ _)
        rintro v m5 H5 ⟨hle5, rfl, rfl⟩
        (try (refine st ?_; intros))
        refine WQ.acted (B := []) (U := .blk b7 (.cells [.int .i64 (pre.length : Int)].toArray 3 (0, 0)) :: .blk b2 (.cells [.bool false].toArray 4 (0, 0)) :: .blk D (.deferred (some [])) :: H) rfl hle5 zpk ?_
        (refine cm0 ?_)
        refine WE.done (by decide +kernel) ?_
        (try (refine st ?_; intros))
        exact WQ.join ⟨rfl, rfl, hle3.trans (hle4.trans hle5), rfl⟩ zsb zpk
      · (refine st ?_; intros; rename_i br cr)
        refine WQ.acted (B := [.row (some ⟨br, 0, none⟩) cr 21 1 ((pieces T).map fun p => rV p.r)]) (U := .blk b7 (.cells [.int .i64 (pre.length : Int)].toArray 3 (0, 0)) :: .blk b2 (.cells [.bool false].toArray 4 (0, 0)) :: .blk D (.deferred (some [])) :: H) rfl (Mem.le.refl _) zpk ?_
        (refine cm0 ?_)
        refine WE.act1 1 (by decide +kernel) rfl rfl (fun c h => by cases h) ?_
        (try (refine st ?_; intros))
        refine w_callF Try.func22 ?_ (hs := count_any T (by omega) _ _ _)
        rintro v m4 H4 ⟨hle4, rfl, rfl⟩
        (try (refine st ?_; intros))
        refine WQ.acted (B := []) (U := .blk b7 (.cells [.int .i64 (pre.length : Int)].toArray 3 (0, 0)) :: .blk b2 (.cells [.bool false].toArray 4 (0, 0)) :: .blk D (.deferred (some [])) :: H) rfl hle4 zpk ?_
        (refine cm0 ?_)
        refine WE.act1 7 (by decide +kernel) rfl rfl (fun c h => by cases h) ?_
        (try (refine st ?_; intros))
        refine w_callF Try.func11 ?_ (hs := works_any _ _ _)
        rintro v m5 H5 ⟨hle5, rfl, rfl⟩
        (try (refine st ?_; intros))
        refine WQ.acted (B := []) (U := .blk b7 (.cells [.int .i64 (pre.length : Int)].toArray 3 (0, 0)) :: .blk b2 (.cells [.bool false].toArray 4 (0, 0)) :: .blk D (.deferred (some [])) :: H) rfl hle5 zpk ?_
        (refine cm0 ?_)
        refine WE.done (by decide +kernel) ?_
        (try (refine st ?_; intros))
        exact WQ.join ⟨rfl, rfl, hle3.trans (hle4.trans hle5), rfl⟩ zsb zpk
    rintro r ds m9 H9 ⟨rfl, rfl, hle9, rfl⟩
    (try (refine st ?_; intros))
    refine WQ.mark (H1 := [_] ++ H) (List.perm_middle (l₁ := [_])) ?_
    exact q_fin0 (H0 := H) ⟨rfl, hle9⟩ (hd := zpk)
end Go.Proofs.Ytpghpbknjdnkkaa

/-
  A walk's engine, sixteenth part: how a law's arguments are read, ahead of the call and behind it. No condition.
-/
set_option linter.all false
namespace Go.Eng
open Go Go.RowKit Go.ChangeShapes Go.WideShapes Go.ChangeMaps
section
variable {H : Type} {enc : TypeId × Value → H} {P : Program}
theorem same_below {W W' : World} (hb : Below W.heap.size W W') {p : MemPlace} (hp : p.block < W.heap.size) : W.sameAt W' p := by
  cases p with
  | cell b off =>
    have h := hb.block b hp
    show W'.cell? ⟨b, off, none⟩ = W.cell? ⟨b, off, none⟩
    simp only [World.cell?, h]
  | map b => exact hb.block b hp
theorem trod_again {W W' : World} {sp : Nat → Bool} {t : TypeId} {v : Value} {d : DataW H} {p : List MemPlace} (hl : laidOutB P = true) (ht : t < P.types.size) (hr : P.readableRec t = true)
    (h : DataW.Trod enc P W 0 (fun _ => true) true t v d p) (hlt : ∀ q ∈ p, q.block < W.heap.size) (hb : Below W.heap.size W W') (hs : ∀ q ∈ p, sp q.block = true) : DataW.Trod enc P W' 0 sp true t v d p := by
  obtain ⟨n, hn⟩ := h
  have h1 := DataW.trod_carry (w' := W') n _ _ _ hn (fun q hq => same_below hb (hlt q hq))
  exact ⟨n, DataW.trod_respare (kids_book hl hr) (fun t e hT hu => book_sized hr hT hu) n _ _ _ ⟨ht, book_self t⟩ h1 hs⟩
theorem args_again {W W' : World} {sp : Nat → Bool} (hl : laidOutB P = true) (hb : Below W.heap.size W W') : ∀ {ts : List TypeId} {vs : List Value} {ds : List (DataW H)} {p : List MemPlace},
    (∀ t ∈ ts, t < P.types.size ∧ P.readableRec t = true) → DataW.TrodAll enc P W 0 (fun _ => true) true ts vs ds p → (∀ q ∈ p, sp q.block = true) → DataW.TrodAll enc P W' 0 sp true ts vs ds p
  | [], [], [], _, _, h, _ => h
  | t :: ts, v :: vs, d :: ds, p, hts, h, hs => by
    have hlt := DataW.TrodAll.lt h
    obtain ⟨a, b, h1, h2, e⟩ := h
    subst e
    obtain ⟨g1, g2⟩ := hts t List.mem_cons_self
    exact ⟨a, b, trod_again hl g1 g2 h1 (fun q hq => hlt q (List.mem_append_left _ hq)) hb (fun q hq => hs q (List.mem_append_left _ hq)),
      args_again hl hb (fun t ht => hts t (List.mem_cons_of_mem _ ht)) h2 (fun q hq => hs q (List.mem_append_right _ hq)), rfl⟩
/-- a law that says true, and leaves all that it was handed -/
theorem post_true {f : Func} {s : ChangeSpec} {apart fresh handsOn again : Bool} {W W' : World} {args : Array Value} {ds gs : List (DataW H)} {before : List MemPlace} {tb : TypeId}
    (hW : DataW.Whole enc P f.params.toList s.vars apart W args.toList ds gs before) (hvars : s.vars = []) (hfn : s.fn H (ds ++ gs) = { results := [.lit (.bool true)], args := ds })
    (hres : f.resultTypes = #[tb]) (htb : P.underlying tb = some .bool) (hl : laidOutB P = true) (hts : (f.params.toList.all fun t => decide (t < P.types.size) && P.readableRec t) = true) (hb : Below W.heap.size W W') :
    s.post enc P f apart fresh handsOn again W args (.bool true) W' := by
  have hW2 := hW
  obtain ⟨p, q, hA, hV, e, _, _⟩ := hW
  rw [hvars] at hV
  obtain ⟨rfl, rfl⟩ := trodVars_none hV
  rw [List.append_nil] at e
  subst e
  have hts' : ∀ t ∈ f.params.toList, t < P.types.size ∧ P.readableRec t = true := fun t ht => by simpa using List.all_eq_true.1 hts t ht
  refine post_below (pa := before) (pv := []) hW2 (fun _ _ _ => ?_) (fun sp hs => ?_) (fun _ _ => ?_) (by simp) hb ?_
  · rw [hfn, hres]; exact trodAll_cons_mk (shut_bool htb _) trodAll_mk0
  · rw [hfn]; exact args_again hl hb hts' hA hs
  · rw [hfn, hvars]; rfl
  · intro j t r h1 h2
    rw [hres] at h1 h2
    match j, h1 with
    | 0, h1 =>
      simp at h1; subst h1
      simp [Value.resultList] at h2
      subst h2
      exact okWide_bool_mk htb _
end
end Go.Eng

