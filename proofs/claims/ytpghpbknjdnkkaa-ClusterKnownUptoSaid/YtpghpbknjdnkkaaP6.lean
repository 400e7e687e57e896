/-
  Parts of a walk, joined: C15 C16 CT12 C25 EngQ. No condition.
-/
import Derived.Test.YtpghpbknjdnkkaaP5
import Derived.Test.YtpghpbknjdnkkaaP2
import Derived.Test.YtpghpbknjdnkkaaP4
import Derived.ChangeMaps5
import Derived.ReadAgain
import Derived.ChangeBook
import Derived.Deep.Slices
import Derived.WalkKit
import Derived.ProofKit
import Derived.OpenShut
import Derived.JoinedCond
set_option linter.all false
/-
  The walks of the laws' cells, cell, works, and of slices.Equal over clusters. No condition.
-/
namespace Go.Eng
open Go Go.RowKit
theorem cl_eq {c d : Cl} : c = d ↔ (c.a : Int) = d.a ∧ (c.z : Int) = d.z ∧ (c.c : Int) = d.c := by
  constructor
  · rintro rfl; exact ⟨rfl, rfl, rfl⟩
  · intro h
    obtain ⟨a, z, c⟩ := c
    obtain ⟨a', z', c'⟩ := d
    simp only at h
    simp only [Cl.mk.injEq]
    omega
end Go.Eng
namespace Go.Proofs.Ytpghpbknjdnkkaa
open Go Go.Eng
set_option maxRecDepth 100000
set_option maxHeartbeats 4000000
set_option linter.all false
attribute [local irreducible] WL WC WQ QFun QLoop Does Q1 QRound QAssign Go.Addr.add
theorem eq_cl (c d : Cl) : eqB Try.prog 8 38 (.agg c.cs.toArray) (.agg d.cs.toArray) = some (dcd (c = d)) := by
  have h : eqB Try.prog 8 38 (.agg c.cs.toArray) (.agg d.cs.toArray) = some ((((c.a : Int) == (d.a : Int)) && (((c.z : Int) == (d.z : Int)) && true)) && (((c.c : Int) == (d.c : Int)) && true)) := by kernel_rfl
  rw [h]
  by_cases hp : c = d
  · subst hp; rw [dcd_true rfl]; simp
  · rw [dcd_false hp]
    rw [cl_eq] at hp
    simp only [Bool.and_true, Option.some.injEq, Bool.and_eq_false_iff, beq_eq_false_iff_ne]
    by_cases h1 : (c.a : Int) = d.a <;> by_cases h2 : (c.z : Int) = d.z <;> by_cases h3 : (c.c : Int) = d.c <;> simp_all
attribute [local irreducible] clusters cutL padV
theorem sq_C15_1 {G : Prop} (h : G := by (repeat (first | (refine sp ?_; (repeat intro zzc)) | (refine iB_eql rfl ?_; refine w_eqlV ?_ (he := eq_cl _ _)) | (refine iB_neq rfl ?_; refine w_neqV ?_ (he := eq_cl _ _)))); exact WQ.q1 rfl) : G := h
theorem st_C15_1 {G G' : Prop} (next : G') (h : Bx G' → G := by intro zzn; (first | ((refine st ?_; (repeat intro zzc)); (try ((first | (refine iB_eql rfl ?_; refine w_eqlV ?_ (he := eq_cl _ _)) | (refine iB_neq rfl ?_; refine w_neqV ?_ (he := eq_cl _ _)) | ((refine iDraw ?_; (first | refine WC.drawAll rfl (by decide +kernel) ?_ | refine WC.draw 1 rfl (by decide +kernel) ?_ | refine WC.draw 2 rfl (by decide +kernel) ?_ | refine WC.draw 3 rfl (by decide +kernel) ?_ | refine WC.draw 4 rfl (by decide +kernel) ?_ | refine WC.draw 5 rfl (by decide +kernel) ?_ | refine WC.draw 6 rfl (by decide +kernel) ?_ | refine WC.draw 7 rfl (by decide +kernel) ?_ | refine WC.draw 8 rfl (by decide +kernel) ?_ | refine WC.draw 9 rfl (by decide +kernel) ?_ | refine WC.draw 10 rfl (by decide +kernel) ?_ | refine WC.draw 11 rfl (by decide +kernel) ?_ | refine WC.draw 12 rfl (by decide +kernel) ?_ | refine WC.draw 13 rfl (by decide +kernel) ?_ | refine WC.draw 14 rfl (by decide +kernel) ?_ | refine WC.draw 15 rfl (by decide +kernel) ?_ | refine WC.draw 16 rfl (by decide +kernel) ?_ | refine WC.draw 17 rfl (by decide +kernel) ?_ | refine WC.draw 18 rfl (by decide +kernel) ?_ | refine WC.draw 19 rfl (by decide +kernel) ?_ | refine WC.draw 20 rfl (by decide +kernel) ?_ | refine WC.draw 21 rfl (by decide +kernel) ?_ | refine WC.draw 22 rfl (by decide +kernel) ?_ | refine WC.draw 23 rfl (by decide +kernel) ?_ | refine WC.draw 24 rfl (by decide +kernel) ?_)); (repeat (refine WD.cons rfl (fun c h => by cases h) sq_C15_1 ?_)); refine WD.nil ?_)); (try (refine st ?_; (repeat intro zzc)))))) | ((first | (refine iB_eql rfl ?_; refine w_eqlV ?_ (he := eq_cl _ _)) | (refine iB_neq rfl ?_; refine w_neqV ?_ (he := eq_cl _ _)) | ((refine iDraw ?_; (first | refine WC.drawAll rfl (by decide +kernel) ?_ | refine WC.draw 1 rfl (by decide +kernel) ?_ | refine WC.draw 2 rfl (by decide +kernel) ?_ | refine WC.draw 3 rfl (by decide +kernel) ?_ | refine WC.draw 4 rfl (by decide +kernel) ?_ | refine WC.draw 5 rfl (by decide +kernel) ?_ | refine WC.draw 6 rfl (by decide +kernel) ?_ | refine WC.draw 7 rfl (by decide +kernel) ?_ | refine WC.draw 8 rfl (by decide +kernel) ?_ | refine WC.draw 9 rfl (by decide +kernel) ?_ | refine WC.draw 10 rfl (by decide +kernel) ?_ | refine WC.draw 11 rfl (by decide +kernel) ?_ | refine WC.draw 12 rfl (by decide +kernel) ?_ | refine WC.draw 13 rfl (by decide +kernel) ?_ | refine WC.draw 14 rfl (by decide +kernel) ?_ | refine WC.draw 15 rfl (by decide +kernel) ?_ | refine WC.draw 16 rfl (by decide +kernel) ?_ | refine WC.draw 17 rfl (by decide +kernel) ?_ | refine WC.draw 18 rfl (by decide +kernel) ?_ | refine WC.draw 19 rfl (by decide +kernel) ?_ | refine WC.draw 20 rfl (by decide +kernel) ?_ | refine WC.draw 21 rfl (by decide +kernel) ?_ | refine WC.draw 22 rfl (by decide +kernel) ?_ | refine WC.draw 23 rfl (by decide +kernel) ?_ | refine WC.draw 24 rfl (by decide +kernel) ?_)); (repeat (refine WD.cons rfl (fun c h => by cases h) sq_C15_1 ?_)); refine WD.nil ?_)); (try (refine st ?_; (repeat intro zzc))))); (repeat ((first | (refine iB_eql rfl ?_; refine w_eqlV ?_ (he := eq_cl _ _)) | (refine iB_neq rfl ?_; refine w_neqV ?_ (he := eq_cl _ _)) | ((refine iDraw ?_; (first | refine WC.drawAll rfl (by decide +kernel) ?_ | refine WC.draw 1 rfl (by decide +kernel) ?_ | refine WC.draw 2 rfl (by decide +kernel) ?_ | refine WC.draw 3 rfl (by decide +kernel) ?_ | refine WC.draw 4 rfl (by decide +kernel) ?_ | refine WC.draw 5 rfl (by decide +kernel) ?_ | refine WC.draw 6 rfl (by decide +kernel) ?_ | refine WC.draw 7 rfl (by decide +kernel) ?_ | refine WC.draw 8 rfl (by decide +kernel) ?_ | refine WC.draw 9 rfl (by decide +kernel) ?_ | refine WC.draw 10 rfl (by decide +kernel) ?_ | refine WC.draw 11 rfl (by decide +kernel) ?_ | refine WC.draw 12 rfl (by decide +kernel) ?_ | refine WC.draw 13 rfl (by decide +kernel) ?_ | refine WC.draw 14 rfl (by decide +kernel) ?_ | refine WC.draw 15 rfl (by decide +kernel) ?_ | refine WC.draw 16 rfl (by decide +kernel) ?_ | refine WC.draw 17 rfl (by decide +kernel) ?_ | refine WC.draw 18 rfl (by decide +kernel) ?_ | refine WC.draw 19 rfl (by decide +kernel) ?_ | refine WC.draw 20 rfl (by decide +kernel) ?_ | refine WC.draw 21 rfl (by decide +kernel) ?_ | refine WC.draw 22 rfl (by decide +kernel) ?_ | refine WC.draw 23 rfl (by decide +kernel) ?_ | refine WC.draw 24 rfl (by decide +kernel) ?_)); (repeat (refine WD.cons rfl (fun c h => by cases h) sq_C15_1 ?_)); refine WD.nil ?_)); (try (refine st ?_; (repeat intro zzc))))); (repeat revert zzc); exact zzn.out) : G := h ⟨next⟩
theorem equal_any {a b : Option Addr} {ca cb : Nat} {L1 L2 : List Cl} {w0 : World} {m : Mem} {H : SHeap} (hl1 : L1.length ≤ 5000000) (hl2 : L2.length ≤ 5000000) (ha : RowR w0 m H 3 a (L1.map Cl.cs)) (hb : RowR w0 m H 3 b (L2.map Cl.cs)) :
    Does Try.prog 18 #[.slice a L1.length ca, .slice b L2.length cb] w0 m H (Gives (.bool (dcd (L1 = L2))) m H) := by
  refine Does.of_body (args := [.slice a L1.length ca, .slice b L2.length cb]) Try.func18 rfl Try.ntmps18 rfl ?_
  have hn1 : (L1.map Cl.cs).length = L1.length := by simp
  have hn2 : (L2.map Cl.cs).length = L2.length := by simp
  by_cases hlen : L1.length = L2.length
  · (try (refine st_C15_1 ?_; intros))
    refine WC.loopH [(13, .int .i64 ((0) : Int)), (12, .int .i64 (L1.length : Int)), (0, .slice a L1.length ca), (1, .slice b L2.length cb)] ?_ ?_ (fun j r ds m' H' => ∃ i, j = L1.length - i ∧ r = [(13, .int .i64 (i : Int)), (12, .int .i64 (L1.length : Int)), (0, .slice a L1.length ca), (1, .slice b L2.length cb)] ∧ ds = [] ∧ m = m' ∧ H' = H ∧ (i ≤ L1.length) ∧ (L1.take i = L2.take i)) (L1.length - (0)) ⟨0, rfl, rfl, rfl, rfl, rfl, by omega, by rw [List.take_zero, List.take_zero]⟩ ?_
    · (repeat (first | exact Env.Sub.nil | refine Env.Sub.cons rfl ?_))
    · exact zpk
    rintro j r ds m' H' ⟨i, rfl, rfl, rfl, rfl, rfl, hi, hpre⟩
    by_cases hlt : i < L1.length
    · obtain ⟨x, hx⟩ : ∃ x, L1[i]? = some x := ⟨_, List.getElem?_eq_getElem hlt⟩
      obtain ⟨y, hy⟩ : ∃ y, L2[i]? = some y := ⟨_, List.getElem?_eq_getElem (by omega : i < L2.length)⟩
      have hgx : (L1.map Cl.cs)[i]? = some x.cs := by rw [List.getElem?_map, hx]; rfl
      have hgy : (L2.map Cl.cs)[i]? = some y.cs := by rw [List.getElem?_map, hy]; rfl
      obtain ⟨ht1, hd1⟩ := take_step hx
      obtain ⟨ht2, hd2⟩ := take_step hy
      generalize hE1 : L1.map Cl.cs = E1 at *
      generalize hE2 : L2.map Cl.cs = E2 at *
      refine WC.rSome ha (by omega) ?_
      rintro a0 rfl
      refine WC.rSome hb (by omega) ?_
      rintro b0 rfl
      by_cases hxy : x = y
      · (try (refine st_C15_1 ?_; intros))
        refine WQ.next (L1.length - (i + 1)) ⟨i + 1, rfl, rfl, rfl, rfl, rfl, ?_, ?_⟩ (by omega) zsb zpk
        · omega
        · rw [ht1, ht2, hpre, hxy]
      · have hne : ¬ L1 = L2 := fun h => by rw [h] at hx; rw [hx] at hy; exact hxy (Option.some.inj hy)
        (try (refine st_C15_1 ?_; intros))
        (refine q_fin0 ?_)
        exact Gives.mk (congrArg _ (fls_iff hne))
    · rw [List.take_of_length_le (by omega), List.take_of_length_le (by omega)] at hpre
      (try (refine st_C15_1 ?_; intros))
      (refine q_fin0 ?_)
      exact Gives.mk (congrArg _ (tru_iff hpre))
  · (try (refine st_C15_1 ?_; intros))
    (refine q_fin0 ?_)
    exact Gives.mk (congrArg _ (fls_iff (fun h => hlen (by rw [h]))))
theorem sq_C15_2 {G : Prop} (h : G := by (repeat (first | (refine sp ?_; (repeat intro zzc)))); exact WQ.q1 rfl) : G := h
theorem st_C15_2 {G G' : Prop} (next : G') (h : Bx G' → G := by intro zzn; (first | ((refine st ?_; (repeat intro zzc)); (try ((first | ((refine iDraw ?_; (first | refine WC.drawAll rfl (by decide +kernel) ?_ | refine WC.draw 1 rfl (by decide +kernel) ?_ | refine WC.draw 2 rfl (by decide +kernel) ?_ | refine WC.draw 3 rfl (by decide +kernel) ?_ | refine WC.draw 4 rfl (by decide +kernel) ?_ | refine WC.draw 5 rfl (by decide +kernel) ?_ | refine WC.draw 6 rfl (by decide +kernel) ?_ | refine WC.draw 7 rfl (by decide +kernel) ?_ | refine WC.draw 8 rfl (by decide +kernel) ?_ | refine WC.draw 9 rfl (by decide +kernel) ?_ | refine WC.draw 10 rfl (by decide +kernel) ?_ | refine WC.draw 11 rfl (by decide +kernel) ?_ | refine WC.draw 12 rfl (by decide +kernel) ?_ | refine WC.draw 13 rfl (by decide +kernel) ?_ | refine WC.draw 14 rfl (by decide +kernel) ?_ | refine WC.draw 15 rfl (by decide +kernel) ?_ | refine WC.draw 16 rfl (by decide +kernel) ?_ | refine WC.draw 17 rfl (by decide +kernel) ?_ | refine WC.draw 18 rfl (by decide +kernel) ?_ | refine WC.draw 19 rfl (by decide +kernel) ?_ | refine WC.draw 20 rfl (by decide +kernel) ?_ | refine WC.draw 21 rfl (by decide +kernel) ?_ | refine WC.draw 22 rfl (by decide +kernel) ?_ | refine WC.draw 23 rfl (by decide +kernel) ?_ | refine WC.draw 24 rfl (by decide +kernel) ?_)); (repeat (refine WD.cons rfl (fun c h => by cases h) sq_C15_2 ?_)); refine WD.nil ?_)); (try (refine st ?_; (repeat intro zzc)))))) | ((first | ((refine iDraw ?_; (first | refine WC.drawAll rfl (by decide +kernel) ?_ | refine WC.draw 1 rfl (by decide +kernel) ?_ | refine WC.draw 2 rfl (by decide +kernel) ?_ | refine WC.draw 3 rfl (by decide +kernel) ?_ | refine WC.draw 4 rfl (by decide +kernel) ?_ | refine WC.draw 5 rfl (by decide +kernel) ?_ | refine WC.draw 6 rfl (by decide +kernel) ?_ | refine WC.draw 7 rfl (by decide +kernel) ?_ | refine WC.draw 8 rfl (by decide +kernel) ?_ | refine WC.draw 9 rfl (by decide +kernel) ?_ | refine WC.draw 10 rfl (by decide +kernel) ?_ | refine WC.draw 11 rfl (by decide +kernel) ?_ | refine WC.draw 12 rfl (by decide +kernel) ?_ | refine WC.draw 13 rfl (by decide +kernel) ?_ | refine WC.draw 14 rfl (by decide +kernel) ?_ | refine WC.draw 15 rfl (by decide +kernel) ?_ | refine WC.draw 16 rfl (by decide +kernel) ?_ | refine WC.draw 17 rfl (by decide +kernel) ?_ | refine WC.draw 18 rfl (by decide +kernel) ?_ | refine WC.draw 19 rfl (by decide +kernel) ?_ | refine WC.draw 20 rfl (by decide +kernel) ?_ | refine WC.draw 21 rfl (by decide +kernel) ?_ | refine WC.draw 22 rfl (by decide +kernel) ?_ | refine WC.draw 23 rfl (by decide +kernel) ?_ | refine WC.draw 24 rfl (by decide +kernel) ?_)); (repeat (refine WD.cons rfl (fun c h => by cases h) sq_C15_2 ?_)); refine WD.nil ?_)); (try (refine st ?_; (repeat intro zzc))))); (repeat ((first | ((refine iDraw ?_; (first | refine WC.drawAll rfl (by decide +kernel) ?_ | refine WC.draw 1 rfl (by decide +kernel) ?_ | refine WC.draw 2 rfl (by decide +kernel) ?_ | refine WC.draw 3 rfl (by decide +kernel) ?_ | refine WC.draw 4 rfl (by decide +kernel) ?_ | refine WC.draw 5 rfl (by decide +kernel) ?_ | refine WC.draw 6 rfl (by decide +kernel) ?_ | refine WC.draw 7 rfl (by decide +kernel) ?_ | refine WC.draw 8 rfl (by decide +kernel) ?_ | refine WC.draw 9 rfl (by decide +kernel) ?_ | refine WC.draw 10 rfl (by decide +kernel) ?_ | refine WC.draw 11 rfl (by decide +kernel) ?_ | refine WC.draw 12 rfl (by decide +kernel) ?_ | refine WC.draw 13 rfl (by decide +kernel) ?_ | refine WC.draw 14 rfl (by decide +kernel) ?_ | refine WC.draw 15 rfl (by decide +kernel) ?_ | refine WC.draw 16 rfl (by decide +kernel) ?_ | refine WC.draw 17 rfl (by decide +kernel) ?_ | refine WC.draw 18 rfl (by decide +kernel) ?_ | refine WC.draw 19 rfl (by decide +kernel) ?_ | refine WC.draw 20 rfl (by decide +kernel) ?_ | refine WC.draw 21 rfl (by decide +kernel) ?_ | refine WC.draw 22 rfl (by decide +kernel) ?_ | refine WC.draw 23 rfl (by decide +kernel) ?_ | refine WC.draw 24 rfl (by decide +kernel) ?_)); (repeat (refine WD.cons rfl (fun c h => by cases h) sq_C15_2 ?_)); refine WD.nil ?_)); (try (refine st ?_; (repeat intro zzc))))); (repeat revert zzc); exact zzn.out) : G := h ⟨next⟩
theorem cell_any (a b c : Int) (w0 : World) (m : Mem) (H : SHeap) : Does Try.prog 26 #[.int .i64 a, .int .i64 b, .int .i64 c] w0 m H (Gives (.agg #[.int .i64 a, .int .i64 b, .int .i64 c]) m H) := by
  refine Does.of_body (args := [.int .i64 a, .int .i64 b, .int .i64 c]) Try.func26 rfl Try.ntmps26 rfl ?_
  (try (refine st_C15_2 ?_; intros))
  (refine q_fin0 ?_)
  exact Gives.mk rfl
theorem cells_any (l : List UInt8) (hl : l.length ≤ 4194304) (w0 : World) (m : Mem) (H : SHeap) : Does Try.prog 19 #[str l] w0 m H (fun v m' H' => m.le m' ∧ ∃ a cp, v = .slice a (clusters l).length cp ∧ H' = .row a cp 38 3 ((clusters l).map Cl.cs) :: H) := by
  refine Does.of_body (args := [str l]) Try.func19 rfl Try.ntmps19 rfl ?_
  (refine st_C15_2 ?_; intros; rename_i b3)
  refine w_callF Try.func17 ?_ (hs := each_any _ _ _ _)
  rintro v m H ⟨b, rfl, rfl, rfl⟩
  (try (refine st_C15_2 ?_; intros))
  refine WC.persist (b := b) (by (repeat (first | exact Out.here | apply Out.there))) ?_
  intro m1 hle1 hb
  refine WC.newRow (T := 38) (sz := 3) ?_
  refine WC.rangeFuncM (encs := fun c : Cl => [c.v]) (xs := clusters l) (Cap := TextAt b l) (lb := [.pointer (some ⟨b, 0, none⟩)]) (ps := [11])
    (J := fun pre m' Hl => m.le m' ∧ ∃ a cp, Hl = [.row a cp 38 3 (pre.map Cl.cs), .blk b3 (.cells [.slice a pre.length cp].toArray 42 (0, 0))]) (Jx := fun _ _ _ _ => False)
    rfl Try.func43 rfl rfl (each_seq l (by omega) b) hb (fun _ => rfl) rfl (fun _ _ _ _ h hm => ⟨h.1.trans hm, h.2⟩) (fun _ _ _ _ _ h _ => h) (.cons (.cons .nil)) ⟨hle1, none, 0, rfl⟩ ?_ ?_ ?_
  · rintro lp pre c post hx m2 Hl ⟨hle2, a, cp, rfl⟩ hm2 Hfr hfr
    have hs := sum_pre hx
    have hpl : (pre.map Cl.cs).length = pre.length := List.length_map _
    (try (refine st_C15_2 ?_; intros))
    refine WQ.assigned (.cons (.cons (.cons .nil))) (Mem.le.refl _) ?_
    intro Hfr2
    (refine st_C15_2 ?_; intros; rename_i b9 a2 cp2)
    rw [hpl]
    exact WQ.roundOn (Hl := [_, .blk b3 _]) zpk (Mem.le.refl _) ⟨hle2, a2, cp2, by rw [List.map_append, List.length_append]; rfl⟩
  · rintro D m2 Hl ⟨hle2, a, cp, rfl⟩ hm2
    (try (refine st_C15_2 ?_; intros))
    refine WQ.mark (H1 := _ :: _ :: _) List.perm_middle ?_
    exact q_fin0 (H0 := .row a cp 38 3 ((clusters l).map Cl.cs) :: H) ⟨hle2, a, cp, rfl, rfl⟩ (hd := zpk)
  · intro D cd pre m2 Hl _ h
    exact h.elim
theorem sq_C15_3 {G : Prop} (h : G := by (repeat (first | (refine sp ?_; (repeat intro zzc)) | (refine iF 26 rfl ?_; refine w_callG Try.func26 ?_ (hs := cell_any _ _ _ _ _ _)))); exact WQ.q1 rfl) : G := h
theorem st_C15_3 {G G' : Prop} (next : G') (h : Bx G' → G := by intro zzn; (first | ((refine st ?_; (repeat intro zzc)); (try ((first | (refine iF 26 rfl ?_; refine w_callG Try.func26 ?_ (hs := cell_any _ _ _ _ _ _)) | ((refine iDraw ?_; (first | refine WC.drawAll rfl (by decide +kernel) ?_ | refine WC.draw 1 rfl (by decide +kernel) ?_ | refine WC.draw 2 rfl (by decide +kernel) ?_ | refine WC.draw 3 rfl (by decide +kernel) ?_ | refine WC.draw 4 rfl (by decide +kernel) ?_ | refine WC.draw 5 rfl (by decide +kernel) ?_ | refine WC.draw 6 rfl (by decide +kernel) ?_ | refine WC.draw 7 rfl (by decide +kernel) ?_ | refine WC.draw 8 rfl (by decide +kernel) ?_ | refine WC.draw 9 rfl (by decide +kernel) ?_ | refine WC.draw 10 rfl (by decide +kernel) ?_ | refine WC.draw 11 rfl (by decide +kernel) ?_ | refine WC.draw 12 rfl (by decide +kernel) ?_ | refine WC.draw 13 rfl (by decide +kernel) ?_ | refine WC.draw 14 rfl (by decide +kernel) ?_ | refine WC.draw 15 rfl (by decide +kernel) ?_ | refine WC.draw 16 rfl (by decide +kernel) ?_ | refine WC.draw 17 rfl (by decide +kernel) ?_ | refine WC.draw 18 rfl (by decide +kernel) ?_ | refine WC.draw 19 rfl (by decide +kernel) ?_ | refine WC.draw 20 rfl (by decide +kernel) ?_ | refine WC.draw 21 rfl (by decide +kernel) ?_ | refine WC.draw 22 rfl (by decide +kernel) ?_ | refine WC.draw 23 rfl (by decide +kernel) ?_ | refine WC.draw 24 rfl (by decide +kernel) ?_)); (repeat (refine WD.cons rfl (fun c h => by cases h) sq_C15_3 ?_)); refine WD.nil ?_)); (try (refine st ?_; (repeat intro zzc)))))) | ((first | (refine iF 26 rfl ?_; refine w_callG Try.func26 ?_ (hs := cell_any _ _ _ _ _ _)) | ((refine iDraw ?_; (first | refine WC.drawAll rfl (by decide +kernel) ?_ | refine WC.draw 1 rfl (by decide +kernel) ?_ | refine WC.draw 2 rfl (by decide +kernel) ?_ | refine WC.draw 3 rfl (by decide +kernel) ?_ | refine WC.draw 4 rfl (by decide +kernel) ?_ | refine WC.draw 5 rfl (by decide +kernel) ?_ | refine WC.draw 6 rfl (by decide +kernel) ?_ | refine WC.draw 7 rfl (by decide +kernel) ?_ | refine WC.draw 8 rfl (by decide +kernel) ?_ | refine WC.draw 9 rfl (by decide +kernel) ?_ | refine WC.draw 10 rfl (by decide +kernel) ?_ | refine WC.draw 11 rfl (by decide +kernel) ?_ | refine WC.draw 12 rfl (by decide +kernel) ?_ | refine WC.draw 13 rfl (by decide +kernel) ?_ | refine WC.draw 14 rfl (by decide +kernel) ?_ | refine WC.draw 15 rfl (by decide +kernel) ?_ | refine WC.draw 16 rfl (by decide +kernel) ?_ | refine WC.draw 17 rfl (by decide +kernel) ?_ | refine WC.draw 18 rfl (by decide +kernel) ?_ | refine WC.draw 19 rfl (by decide +kernel) ?_ | refine WC.draw 20 rfl (by decide +kernel) ?_ | refine WC.draw 21 rfl (by decide +kernel) ?_ | refine WC.draw 22 rfl (by decide +kernel) ?_ | refine WC.draw 23 rfl (by decide +kernel) ?_ | refine WC.draw 24 rfl (by decide +kernel) ?_)); (repeat (refine WD.cons rfl (fun c h => by cases h) sq_C15_3 ?_)); refine WD.nil ?_)); (try (refine st ?_; (repeat intro zzc))))); (repeat ((first | (refine iF 26 rfl ?_; refine w_callG Try.func26 ?_ (hs := cell_any _ _ _ _ _ _)) | ((refine iDraw ?_; (first | refine WC.drawAll rfl (by decide +kernel) ?_ | refine WC.draw 1 rfl (by decide +kernel) ?_ | refine WC.draw 2 rfl (by decide +kernel) ?_ | refine WC.draw 3 rfl (by decide +kernel) ?_ | refine WC.draw 4 rfl (by decide +kernel) ?_ | refine WC.draw 5 rfl (by decide +kernel) ?_ | refine WC.draw 6 rfl (by decide +kernel) ?_ | refine WC.draw 7 rfl (by decide +kernel) ?_ | refine WC.draw 8 rfl (by decide +kernel) ?_ | refine WC.draw 9 rfl (by decide +kernel) ?_ | refine WC.draw 10 rfl (by decide +kernel) ?_ | refine WC.draw 11 rfl (by decide +kernel) ?_ | refine WC.draw 12 rfl (by decide +kernel) ?_ | refine WC.draw 13 rfl (by decide +kernel) ?_ | refine WC.draw 14 rfl (by decide +kernel) ?_ | refine WC.draw 15 rfl (by decide +kernel) ?_ | refine WC.draw 16 rfl (by decide +kernel) ?_ | refine WC.draw 17 rfl (by decide +kernel) ?_ | refine WC.draw 18 rfl (by decide +kernel) ?_ | refine WC.draw 19 rfl (by decide +kernel) ?_ | refine WC.draw 20 rfl (by decide +kernel) ?_ | refine WC.draw 21 rfl (by decide +kernel) ?_ | refine WC.draw 22 rfl (by decide +kernel) ?_ | refine WC.draw 23 rfl (by decide +kernel) ?_ | refine WC.draw 24 rfl (by decide +kernel) ?_)); (repeat (refine WD.cons rfl (fun c h => by cases h) sq_C15_3 ?_)); refine WD.nil ?_)); (try (refine st ?_; (repeat intro zzc))))); (repeat revert zzc); exact zzn.out) : G := h ⟨next⟩
theorem works_any (w0 : World) (m : Mem) (H : SHeap) : Does Try.prog 11 #[] w0 m H (Tells (.bool true) m H) := by
  refine Does.of_body (args := []) Try.func11 rfl Try.ntmps11 rfl ?_
  (try (refine st_C15_3 ?_; intros))
  refine w_callF Try.func14 ?_ (hs := pad_any [232, 169, 169, 97] (by decide) 5 3 _ _ _)
  rintro v m1 H ⟨hle1, rfl, rfl⟩
  rw [shi_pad]
  (try (refine st_C15_3 ?_; intros))
  refine w_callF Try.func19 ?_ (hs := cells_any tee (by decide) _ _ _)
  rintro v m2 H2 ⟨hle2, a, cp, rfl, rfl⟩
  have hlen : (clusters tee).length = 4 := by rw [tee_clusters]; rfl
  (refine st_C15_3 ?_; intros; rename_i bL)
  refine w_callF Try.func18 ?_ (hs := equal_any (L1 := clusters tee) (L2 := [⟨0, 5, 1⟩, ⟨5, 7, 0⟩, ⟨7, 8, 1⟩, ⟨8, 19, 2⟩]) (by omega) (by decide) (RowR.row (T := 38) (cap := cp) zhs) (rowR_blk (T := 38) (fz := (0, 0)) (L := [.int .i64 0, .int .i64 5, .int .i64 1, .int .i64 5, .int .i64 7, .int .i64 0, .int .i64 7, .int .i64 8, .int .i64 1, .int .i64 8, .int .i64 19, .int .i64 2]) zhs rfl (by decide)))
  rintro v m3 H3 ⟨rfl, rfl, rfl⟩
  rw [tee_clusters]
  (try (refine st_C15_3 ?_; intros))
  refine w_callF Try.func16 ?_ (hs := columnsT_any tee (by decide) _ _ _)
  rintro v m4 H4 ⟨hle4, rfl, rfl⟩
  rw [tee_sum]
  (try (refine st_C15_3 ?_; intros))
  refine q_fin0 (H0 := H) ?_ (hd := zpk)
  exact Tells.mk (hle1.trans (hle2.trans hle4)) (congrArg _ (dcd_true rfl))
end Go.Proofs.Ytpghpbknjdnkkaa

/-
  The walk of the law ClusterCuts. No condition.
-/
namespace Go.Eng
end Go.Eng
namespace Go.Proofs.Ytpghpbknjdnkkaa
open Go Go.Eng
set_option maxRecDepth 100000
set_option maxHeartbeats 4000000
set_option linter.all false
attribute [local irreducible] WL WC WQ QFun QLoop Does Q1 QRound QAssign Go.Addr.add
attribute [local irreducible] clusters cutL padV
end Go.Proofs.Ytpghpbknjdnkkaa

/-
  Plain facts: the document's examples on clusters. No condition.
-/
namespace Go.Eng
open Go
theorem ex_a : clusters [97, 204, 129, 98] = [⟨0, 3, 1⟩, ⟨3, 4, 1⟩] := by decide +kernel
theorem ex_b : clusters [204, 129, 97, 204, 129, 204, 129] = [⟨0, 2, 0⟩, ⟨2, 7, 1⟩] := by decide +kernel
theorem ex_c : clusters [13, 10, 10, 13] = [⟨0, 2, 0⟩, ⟨2, 3, 0⟩, ⟨3, 4, 0⟩] := by decide +kernel
theorem ex_d : clusters [255, 204, 129, 97] = [⟨0, 1, 1⟩, ⟨1, 3, 0⟩, ⟨3, 4, 1⟩] := by decide +kernel
theorem ex_e : clusters [240, 159, 145, 169, 226, 128, 141, 240, 159, 145, 169, 204, 129] = [⟨0, 13, 2⟩] := by decide +kernel
theorem ex_f : clusters [97, 226, 128, 141, 240, 159, 145, 169] = [⟨0, 4, 1⟩, ⟨4, 8, 2⟩] := by decide +kernel
theorem ex_g : clusters [232, 169, 169, 97] = [⟨0, 3, 2⟩, ⟨3, 4, 1⟩] := by decide +kernel
theorem ex_h : clusters [] = [] := by decide +kernel
theorem ex_at4 : atR (clusters [97, 204, 129, 98]) 4 = none := by decide +kernel
theorem ex_at2 : atR (clusters [97, 204, 129, 98]) 2 = some ⟨0, 3, 1⟩ := by decide +kernel
theorem ex_un1 : underR (clusters [232, 169, 169, 97]) 1 = some ⟨0, 3, 2⟩ := by decide +kernel
theorem ex_un2 : underR (clusters [232, 169, 169, 97]) 2 = some ⟨3, 4, 1⟩ := by decide +kernel
theorem ex_un3 : underR (clusters [232, 169, 169, 97]) 3 = none := by decide +kernel
theorem ex_p1 : padV [97] 2 4 = .tuple #[str [], .int .i64 2] := by unfold padV; rw [if_pos (by decide)]
theorem ex_p2 : padV [97] (-1) 1 = .tuple #[str [], .int .i64 2] := by unfold padV; rw [if_pos (by decide)]
theorem ex_p3 : padV [97] 65537 1 = .tuple #[str [], .int .i64 3] := by unfold padV; rw [if_neg (by decide), if_pos (by decide)]
theorem ex_cut : cutL [204, 129, 97] 0 = (0, 2) := by decide +kernel
theorem ex_rev : revT [97, 204, 129, 98, 13, 10] = [13, 10, 98, 97, 204, 129] := by decide +kernel
theorem ex_e1 : ¬ edgeR (clusters [97, 204, 129, 98]) 1 4 := by decide +kernel
theorem ex_e4 : edgeR (clusters [97, 204, 129, 98]) 4 4 := by decide +kernel
end Go.Eng

/-
  The walk of the law ClusterKnown. No condition.
-/
namespace Go.Proofs.Ytpghpbknjdnkkaa
open Go Go.Eng
set_option maxRecDepth 100000
set_option maxHeartbeats 4000000
set_option linter.all false
attribute [local irreducible] WL WC WQ QFun QLoop Does Q1 QRound QAssign Go.Addr.add
attribute [local irreducible] clusters cutL padV atR underR revT edgeR
theorem eq_ci (a b c a' b' c' : Int) : eqB Try.prog 8 38 (.agg #[.int .i64 a, .int .i64 b, .int .i64 c]) (.agg #[.int .i64 a', .int .i64 b', .int .i64 c']) = some (dcd (a = a' ∧ b = b' ∧ c = c')) := by
  have h : eqB Try.prog 8 38 (.agg #[.int .i64 a, .int .i64 b, .int .i64 c]) (.agg #[.int .i64 a', .int .i64 b', .int .i64 c']) = some (((a == a') && ((b == b') && true)) && ((c == c') && true)) := by kernel_rfl
  rw [h]
  by_cases hp : a = a' ∧ b = b' ∧ c = c'
  · obtain ⟨rfl, rfl, rfl⟩ := hp; rw [dcd_true ⟨rfl, rfl, rfl⟩]; simp
  · rw [dcd_false hp]
    simp only [Bool.and_true, Option.some.injEq, Bool.and_eq_false_iff, beq_eq_false_iff_ne]
    by_cases h1 : a = a' <;> by_cases h2 : b = b' <;> by_cases h3 : c = c' <;> simp_all
theorem at_ptr2 (b k : Nat) : Value.pointer (some ((⟨b, 0, none⟩ : Addr).add k)) = .pointer (some ⟨b, k, none⟩) := by rw [add_none, Nat.zero_add]
theorem sq_C25_1 {G : Prop} (h : G := by (repeat (first | (refine sp ?_; (repeat intro zzc)) | (refine iB_eql rfl ?_; refine w_eqlV ?_ (he := eq_ci _ _ _ _ _ _)) | (refine iB_neq rfl ?_; refine w_neqV ?_ (he := eq_ci _ _ _ _ _ _)) | (refine iF 26 rfl ?_; refine w_callG Try.func26 ?_ (hs := cell_any _ _ _ _ _ _)))); exact WQ.q1 rfl) : G := h
theorem cm_C25_1 {G G' : Prop} (next : G') (h : Bx G' → G := by intro zzn; (try (refine wcal 0 ?_ (hwl := by intro zm zF zle; exact sq_C25_1))); (try (refine wcal 1 ?_ (hwl := by intro zm zF zle; exact sq_C25_1))); (try (refine wcal 2 ?_ (hwl := by intro zm zF zle; exact sq_C25_1))); (try (refine wcal 3 ?_ (hwl := by intro zm zF zle; exact sq_C25_1))); (try (refine wcal 4 ?_ (hwl := by intro zm zF zle; exact sq_C25_1))); (try (refine wcal 5 ?_ (hwl := by intro zm zF zle; exact sq_C25_1))); (try (refine wcal 6 ?_ (hwl := by intro zm zF zle; exact sq_C25_1))); (try (refine wcal 7 ?_ (hwl := by intro zm zF zle; exact sq_C25_1))); (try (refine wcal 8 ?_ (hwl := by intro zm zF zle; exact sq_C25_1))); (try (refine wcal 9 ?_ (hwl := by intro zm zF zle; exact sq_C25_1))); (try (refine wcal 10 ?_ (hwl := by intro zm zF zle; exact sq_C25_1))); (try (refine wcal 11 ?_ (hwl := by intro zm zF zle; exact sq_C25_1))); (try (refine wcal 12 ?_ (hwl := by intro zm zF zle; exact sq_C25_1))); (try (refine wcal 13 ?_ (hwl := by intro zm zF zle; exact sq_C25_1))); (try (refine wcal 14 ?_ (hwl := by intro zm zF zle; exact sq_C25_1))); (try (refine wcal 15 ?_ (hwl := by intro zm zF zle; exact sq_C25_1))); (try (refine wcal 16 ?_ (hwl := by intro zm zF zle; exact sq_C25_1))); (try (refine wcal 17 ?_ (hwl := by intro zm zF zle; exact sq_C25_1))); (try (refine wcal 18 ?_ (hwl := by intro zm zF zle; exact sq_C25_1))); (try (refine wcal 19 ?_ (hwl := by intro zm zF zle; exact sq_C25_1))); (try (refine wcal 20 ?_ (hwl := by intro zm zF zle; exact sq_C25_1))); (try (refine wcal 21 ?_ (hwl := by intro zm zF zle; exact sq_C25_1))); (try (refine wcal 22 ?_ (hwl := by intro zm zF zle; exact sq_C25_1))); (try (refine wcal 23 ?_ (hwl := by intro zm zF zle; exact sq_C25_1))); (try (refine wcal 24 ?_ (hwl := by intro zm zF zle; exact sq_C25_1))); (try (refine wcal 25 ?_ (hwl := by intro zm zF zle; exact sq_C25_1))); (try (refine wcal 26 ?_ (hwl := by intro zm zF zle; exact sq_C25_1))); (try (refine wcal 27 ?_ (hwl := by intro zm zF zle; exact sq_C25_1))); (try (refine wcal 28 ?_ (hwl := by intro zm zF zle; exact sq_C25_1))); (try (refine wcal 29 ?_ (hwl := by intro zm zF zle; exact sq_C25_1))); (try (refine wcal 30 ?_ (hwl := by intro zm zF zle; exact sq_C25_1))); (try (refine wcal 31 ?_ (hwl := by intro zm zF zle; exact sq_C25_1))); (try (refine wcal 32 ?_ (hwl := by intro zm zF zle; exact sq_C25_1))); (try (refine wcal 33 ?_ (hwl := by intro zm zF zle; exact sq_C25_1))); (try (refine wcal 34 ?_ (hwl := by intro zm zF zle; exact sq_C25_1))); (try (refine wcal 35 ?_ (hwl := by intro zm zF zle; exact sq_C25_1))); (try (refine wcal 36 ?_ (hwl := by intro zm zF zle; exact sq_C25_1))); (try (refine wcal 37 ?_ (hwl := by intro zm zF zle; exact sq_C25_1))); (try (refine wcal 38 ?_ (hwl := by intro zm zF zle; exact sq_C25_1))); (try (refine wcal 39 ?_ (hwl := by intro zm zF zle; exact sq_C25_1))); (try (refine wcal 40 ?_ (hwl := by intro zm zF zle; exact sq_C25_1))); (try (refine wcal 41 ?_ (hwl := by intro zm zF zle; exact sq_C25_1))); (try (refine wcal 42 ?_ (hwl := by intro zm zF zle; exact sq_C25_1))); (try (refine wcal 43 ?_ (hwl := by intro zm zF zle; exact sq_C25_1))); (try (refine wcal 44 ?_ (hwl := by intro zm zF zle; exact sq_C25_1))); (try (refine wcal 45 ?_ (hwl := by intro zm zF zle; exact sq_C25_1))); (try (refine wcal 46 ?_ (hwl := by intro zm zF zle; exact sq_C25_1))); (try (refine wcal 47 ?_ (hwl := by intro zm zF zle; exact sq_C25_1))); (try (refine wcal 48 ?_ (hwl := by intro zm zF zle; exact sq_C25_1))); (try (refine wcal 49 ?_ (hwl := by intro zm zF zle; exact sq_C25_1))); (try (refine wcal 50 ?_ (hwl := by intro zm zF zle; exact sq_C25_1))); (try (refine wcal 51 ?_ (hwl := by intro zm zF zle; exact sq_C25_1))); (try (refine wcal 52 ?_ (hwl := by intro zm zF zle; exact sq_C25_1))); (try (refine wcal 53 ?_ (hwl := by intro zm zF zle; exact sq_C25_1))); (try (refine wcal 54 ?_ (hwl := by intro zm zF zle; exact sq_C25_1))); (try (refine wcal 55 ?_ (hwl := by intro zm zF zle; exact sq_C25_1))); (try (refine wcal 56 ?_ (hwl := by intro zm zF zle; exact sq_C25_1))); (try (refine wcal 57 ?_ (hwl := by intro zm zF zle; exact sq_C25_1))); (try (refine wcal 58 ?_ (hwl := by intro zm zF zle; exact sq_C25_1))); (try (refine wcal 59 ?_ (hwl := by intro zm zF zle; exact sq_C25_1))); (try (refine wcal 60 ?_ (hwl := by intro zm zF zle; exact sq_C25_1))); (try (refine wcal 61 ?_ (hwl := by intro zm zF zle; exact sq_C25_1))); (try (refine wcal 62 ?_ (hwl := by intro zm zF zle; exact sq_C25_1))); (try (refine wcal 63 ?_ (hwl := by intro zm zF zle; exact sq_C25_1))); (try (refine wcal 64 ?_ (hwl := by intro zm zF zle; exact sq_C25_1))); (try (refine wcal 65 ?_ (hwl := by intro zm zF zle; exact sq_C25_1))); (try (refine wcal 66 ?_ (hwl := by intro zm zF zle; exact sq_C25_1))); (try (refine wcal 67 ?_ (hwl := by intro zm zF zle; exact sq_C25_1))); (try (refine wcal 68 ?_ (hwl := by intro zm zF zle; exact sq_C25_1))); (try (refine wcal 69 ?_ (hwl := by intro zm zF zle; exact sq_C25_1))); exact zzn.out) : G := h ⟨next⟩
theorem st_C25_1 {G G' : Prop} (next : G') (h : Bx G' → G := by intro zzn; (first | ((refine st ?_; (repeat intro zzc)); (try ((first | (refine iB_eql rfl ?_; refine w_eqlV ?_ (he := eq_ci _ _ _ _ _ _)) | (refine iB_neq rfl ?_; refine w_neqV ?_ (he := eq_ci _ _ _ _ _ _)) | (refine iF 26 rfl ?_; refine w_callG Try.func26 ?_ (hs := cell_any _ _ _ _ _ _)) | ((refine iDraw ?_; (first | refine WC.drawAll rfl (by decide +kernel) ?_ | refine WC.draw 1 rfl (by decide +kernel) ?_ | refine WC.draw 2 rfl (by decide +kernel) ?_ | refine WC.draw 3 rfl (by decide +kernel) ?_ | refine WC.draw 4 rfl (by decide +kernel) ?_ | refine WC.draw 5 rfl (by decide +kernel) ?_ | refine WC.draw 6 rfl (by decide +kernel) ?_ | refine WC.draw 7 rfl (by decide +kernel) ?_ | refine WC.draw 8 rfl (by decide +kernel) ?_ | refine WC.draw 9 rfl (by decide +kernel) ?_ | refine WC.draw 10 rfl (by decide +kernel) ?_ | refine WC.draw 11 rfl (by decide +kernel) ?_ | refine WC.draw 12 rfl (by decide +kernel) ?_ | refine WC.draw 13 rfl (by decide +kernel) ?_ | refine WC.draw 14 rfl (by decide +kernel) ?_ | refine WC.draw 15 rfl (by decide +kernel) ?_ | refine WC.draw 16 rfl (by decide +kernel) ?_ | refine WC.draw 17 rfl (by decide +kernel) ?_ | refine WC.draw 18 rfl (by decide +kernel) ?_ | refine WC.draw 19 rfl (by decide +kernel) ?_ | refine WC.draw 20 rfl (by decide +kernel) ?_ | refine WC.draw 21 rfl (by decide +kernel) ?_ | refine WC.draw 22 rfl (by decide +kernel) ?_ | refine WC.draw 23 rfl (by decide +kernel) ?_ | refine WC.draw 24 rfl (by decide +kernel) ?_)); (repeat (refine WD.cons rfl (fun c h => by cases h) sq_C25_1 ?_)); refine WD.nil ?_)); (try (refine st ?_; (repeat intro zzc)))))) | ((first | (refine iB_eql rfl ?_; refine w_eqlV ?_ (he := eq_ci _ _ _ _ _ _)) | (refine iB_neq rfl ?_; refine w_neqV ?_ (he := eq_ci _ _ _ _ _ _)) | (refine iF 26 rfl ?_; refine w_callG Try.func26 ?_ (hs := cell_any _ _ _ _ _ _)) | ((refine iDraw ?_; (first | refine WC.drawAll rfl (by decide +kernel) ?_ | refine WC.draw 1 rfl (by decide +kernel) ?_ | refine WC.draw 2 rfl (by decide +kernel) ?_ | refine WC.draw 3 rfl (by decide +kernel) ?_ | refine WC.draw 4 rfl (by decide +kernel) ?_ | refine WC.draw 5 rfl (by decide +kernel) ?_ | refine WC.draw 6 rfl (by decide +kernel) ?_ | refine WC.draw 7 rfl (by decide +kernel) ?_ | refine WC.draw 8 rfl (by decide +kernel) ?_ | refine WC.draw 9 rfl (by decide +kernel) ?_ | refine WC.draw 10 rfl (by decide +kernel) ?_ | refine WC.draw 11 rfl (by decide +kernel) ?_ | refine WC.draw 12 rfl (by decide +kernel) ?_ | refine WC.draw 13 rfl (by decide +kernel) ?_ | refine WC.draw 14 rfl (by decide +kernel) ?_ | refine WC.draw 15 rfl (by decide +kernel) ?_ | refine WC.draw 16 rfl (by decide +kernel) ?_ | refine WC.draw 17 rfl (by decide +kernel) ?_ | refine WC.draw 18 rfl (by decide +kernel) ?_ | refine WC.draw 19 rfl (by decide +kernel) ?_ | refine WC.draw 20 rfl (by decide +kernel) ?_ | refine WC.draw 21 rfl (by decide +kernel) ?_ | refine WC.draw 22 rfl (by decide +kernel) ?_ | refine WC.draw 23 rfl (by decide +kernel) ?_ | refine WC.draw 24 rfl (by decide +kernel) ?_)); (repeat (refine WD.cons rfl (fun c h => by cases h) sq_C25_1 ?_)); refine WD.nil ?_)); (try (refine st ?_; (repeat intro zzc))))); (repeat ((first | (refine iB_eql rfl ?_; refine w_eqlV ?_ (he := eq_ci _ _ _ _ _ _)) | (refine iB_neq rfl ?_; refine w_neqV ?_ (he := eq_ci _ _ _ _ _ _)) | (refine iF 26 rfl ?_; refine w_callG Try.func26 ?_ (hs := cell_any _ _ _ _ _ _)) | ((refine iDraw ?_; (first | refine WC.drawAll rfl (by decide +kernel) ?_ | refine WC.draw 1 rfl (by decide +kernel) ?_ | refine WC.draw 2 rfl (by decide +kernel) ?_ | refine WC.draw 3 rfl (by decide +kernel) ?_ | refine WC.draw 4 rfl (by decide +kernel) ?_ | refine WC.draw 5 rfl (by decide +kernel) ?_ | refine WC.draw 6 rfl (by decide +kernel) ?_ | refine WC.draw 7 rfl (by decide +kernel) ?_ | refine WC.draw 8 rfl (by decide +kernel) ?_ | refine WC.draw 9 rfl (by decide +kernel) ?_ | refine WC.draw 10 rfl (by decide +kernel) ?_ | refine WC.draw 11 rfl (by decide +kernel) ?_ | refine WC.draw 12 rfl (by decide +kernel) ?_ | refine WC.draw 13 rfl (by decide +kernel) ?_ | refine WC.draw 14 rfl (by decide +kernel) ?_ | refine WC.draw 15 rfl (by decide +kernel) ?_ | refine WC.draw 16 rfl (by decide +kernel) ?_ | refine WC.draw 17 rfl (by decide +kernel) ?_ | refine WC.draw 18 rfl (by decide +kernel) ?_ | refine WC.draw 19 rfl (by decide +kernel) ?_ | refine WC.draw 20 rfl (by decide +kernel) ?_ | refine WC.draw 21 rfl (by decide +kernel) ?_ | refine WC.draw 22 rfl (by decide +kernel) ?_ | refine WC.draw 23 rfl (by decide +kernel) ?_ | refine WC.draw 24 rfl (by decide +kernel) ?_)); (repeat (refine WD.cons rfl (fun c h => by cases h) sq_C25_1 ?_)); refine WD.nil ?_)); (try (refine st ?_; (repeat intro zzc))))); (repeat revert zzc); exact zzn.out) : G := h ⟨next⟩
theorem clusterKnown_any (w0 : World) (m : Mem) (H : SHeap) :
    Does Try.prog 8 #[] w0 m H (fun v m' _ => v = .bool true ∧ m.le m') := by
  refine Does.of_body (args := []) Try.func8 rfl Try.ntmps8 rfl ?_
  (try (refine st_C25_1 ?_; intros))
  refine w_callF Try.func11 ?_ (hs := works_any _ _ _)
  rintro v m1 H ⟨hle1, rfl, rfl⟩
  (refine st_C25_1 ?_; intros; rename_i q1 q2 q3 q4 q5 q6 q7 q8)
  refine WC.loopH [(58, .int .i64 ((0) : Int)), (57, .int .i64 ((8 : Nat) : Int)), (56, .slice (some ⟨q8, 0, none⟩) 8 8)] ?_ ?_ (fun j r ds m' H' => ∃ (i : Nat) (mm : Mem), j = 8 - i ∧ r = [(58, .int .i64 (i : Int)), (57, .int .i64 ((8 : Nat) : Int)), (56, .slice (some ⟨q8, 0, none⟩) 8 8)] ∧ ds = [] ∧ mm = m' ∧ H' = .blk q8 (.cells [str [97, 204, 129, 98], .slice (some ⟨q1, 0, none⟩) 2 2, str [204, 129, 97, 204, 129, 204, 129], .slice (some ⟨q2, 0, none⟩) 2 2, str [13, 10, 10, 13], .slice (some ⟨q3, 0, none⟩) 3 3, str [255, 204, 129, 97], .slice (some ⟨q4, 0, none⟩) 3 3, str [240, 159, 145, 169, 226, 128, 141, 240, 159, 145, 169, 204, 129], .slice (some ⟨q5, 0, none⟩) 1 1, str [97, 226, 128, 141, 240, 159, 145, 169], .slice (some ⟨q6, 0, none⟩) 2 2, str [232, 169, 169, 97], .slice (some ⟨q7, 0, none⟩) 2 2, str [], .slice none 0 0].toArray 59 (0, 0)) :: .blk q7 (.cells [.int .i64 0, .int .i64 3, .int .i64 2, .int .i64 3, .int .i64 4, .int .i64 1].toArray 38 (0, 0)) :: .blk q6 (.cells [.int .i64 0, .int .i64 4, .int .i64 1, .int .i64 4, .int .i64 8, .int .i64 2].toArray 38 (0, 0)) :: .blk q5 (.cells [.int .i64 0, .int .i64 13, .int .i64 2].toArray 38 (0, 0)) :: .blk q4 (.cells [.int .i64 0, .int .i64 1, .int .i64 1, .int .i64 1, .int .i64 3, .int .i64 0, .int .i64 3, .int .i64 4, .int .i64 1].toArray 38 (0, 0)) :: .blk q3 (.cells [.int .i64 0, .int .i64 2, .int .i64 0, .int .i64 2, .int .i64 3, .int .i64 0, .int .i64 3, .int .i64 4, .int .i64 0].toArray 38 (0, 0)) :: .blk q2 (.cells [.int .i64 0, .int .i64 2, .int .i64 0, .int .i64 2, .int .i64 7, .int .i64 1].toArray 38 (0, 0)) :: .blk q1 (.cells [.int .i64 0, .int .i64 3, .int .i64 1, .int .i64 3, .int .i64 4, .int .i64 1].toArray 38 (0, 0)) :: H ∧ (m.le mm) ∧ (i ≤ 8)) (8 - (0)) ⟨0, m1, rfl, rfl, rfl, rfl, rfl, hle1, by omega⟩ ?_
  · (repeat (first | exact Env.Sub.nil | refine Env.Sub.cons rfl ?_))
  · exact zpk
  rintro j r ds m' H' ⟨i, mm, rfl, rfl, rfl, rfl, rfl, hle, hi⟩
  obtain rfl | rfl | rfl | rfl | rfl | rfl | rfl | rfl | rfl : i = 0 ∨ i = 1 ∨ i = 2 ∨ i = 3 ∨ i = 4 ∨ i = 5 ∨ i = 6 ∨ i = 7 ∨ i = 8 := by omega
  · (try (refine st_C25_1 ?_; intros))
    refine WL.rename 60 (u := .pointer (some ⟨q8, 0, none⟩)) rfl (at_ptr2 q8 (0 * 2)) ?_
    (refine st_C25_1 ?_; intros; rename_i bx)
    refine WC.drawE 7 ([.blk q8 (.cells [str [97, 204, 129, 98], .slice (some ⟨q1, 0, none⟩) 2 2, str [204, 129, 97, 204, 129, 204, 129], .slice (some ⟨q2, 0, none⟩) 2 2, str [13, 10, 10, 13], .slice (some ⟨q3, 0, none⟩) 3 3, str [255, 204, 129, 97], .slice (some ⟨q4, 0, none⟩) 3 3, str [240, 159, 145, 169, 226, 128, 141, 240, 159, 145, 169, 204, 129], .slice (some ⟨q5, 0, none⟩) 1 1, str [97, 226, 128, 141, 240, 159, 145, 169], .slice (some ⟨q6, 0, none⟩) 2 2, str [232, 169, 169, 97], .slice (some ⟨q7, 0, none⟩) 2 2, str [], .slice none 0 0].toArray 59 (0, 0)), .blk q7 (.cells [.int .i64 0, .int .i64 3, .int .i64 2, .int .i64 3, .int .i64 4, .int .i64 1].toArray 38 (0, 0)), .blk q6 (.cells [.int .i64 0, .int .i64 4, .int .i64 1, .int .i64 4, .int .i64 8, .int .i64 2].toArray 38 (0, 0)), .blk q5 (.cells [.int .i64 0, .int .i64 13, .int .i64 2].toArray 38 (0, 0)), .blk q4 (.cells [.int .i64 0, .int .i64 1, .int .i64 1, .int .i64 1, .int .i64 3, .int .i64 0, .int .i64 3, .int .i64 4, .int .i64 1].toArray 38 (0, 0)), .blk q3 (.cells [.int .i64 0, .int .i64 2, .int .i64 0, .int .i64 2, .int .i64 3, .int .i64 0, .int .i64 3, .int .i64 4, .int .i64 0].toArray 38 (0, 0)), .blk q2 (.cells [.int .i64 0, .int .i64 2, .int .i64 0, .int .i64 2, .int .i64 7, .int .i64 1].toArray 38 (0, 0)), .blk q1 (.cells [.int .i64 0, .int .i64 3, .int .i64 1, .int .i64 3, .int .i64 4, .int .i64 1].toArray 38 (0, 0)), .blk bx (.cells [str [97, 204, 129, 98], .slice (some ⟨q1, 0, none⟩) 2 2].toArray 59 (0, 0))]) (H) rfl (by decide +kernel) zpk ?_
    (refine cm_C25_1 ?_)
    refine WE.act1 2 (by decide +kernel) rfl rfl (fun c h => by cases h) ?_
    (try (refine st_C25_1 ?_; intros))
    refine w_callF Try.func19 ?_ (hs := cells_any _ (by decide) _ _ _)
    rintro v m2 H2 ⟨hle2, a, cp, rfl, rfl⟩
    rw [ex_a]
    (try (refine st_C25_1 ?_; intros))
    refine WQ.acted (B := [.row a cp 38 3 (([⟨0, 3, 1⟩, ⟨3, 4, 1⟩] : List Cl).map Cl.cs)]) (U := H) rfl hle2 zpk ?_
    (refine cm_C25_1 ?_)
    refine WE.act1 5 (by decide +kernel) rfl rfl (fun c h => by cases h) ?_
    (try (refine st_C25_1 ?_; intros))
    refine w_callF Try.func18 ?_ (hs := equal_any (L1 := [⟨0, 3, 1⟩, ⟨3, 4, 1⟩]) (L2 := [⟨0, 3, 1⟩, ⟨3, 4, 1⟩]) (by decide) (by decide) (RowR.row (T := 38) (cap := cp) (by simp)) (rowR_blk (T := 38) (fz := (0, 0)) (L := [.int .i64 0, .int .i64 3, .int .i64 1, .int .i64 3, .int .i64 4, .int .i64 1]) (by simp) rfl (by decide)))
    rintro v m3 H3 ⟨rfl, rfl, rfl⟩
    rw [dcd_true (p := ([⟨0, 3, 1⟩, ⟨3, 4, 1⟩] : List Cl) = [⟨0, 3, 1⟩, ⟨3, 4, 1⟩]) rfl]
    (try (refine st_C25_1 ?_; intros))
    refine WQ.acted (B := []) (U := H) rfl (Mem.le.refl _) zpk ?_
    (refine cm_C25_1 ?_)
    refine WE.done (by decide +kernel) ?_
    (try (refine st_C25_1 ?_; intros))
    refine WQ.next (8 - (1)) ⟨1, m3, rfl, rfl, rfl, rfl, rfl, ?_, ?_⟩ (by omega) zsb zpk
    · exact hle.trans hle2
    · omega
  · (try (refine st_C25_1 ?_; intros))
    refine WL.rename 60 (u := .pointer (some ⟨q8, 2, none⟩)) rfl (at_ptr2 q8 (1 * 2)) ?_
    (refine st_C25_1 ?_; intros; rename_i bx)
    refine WC.drawE 7 ([.blk q8 (.cells [str [97, 204, 129, 98], .slice (some ⟨q1, 0, none⟩) 2 2, str [204, 129, 97, 204, 129, 204, 129], .slice (some ⟨q2, 0, none⟩) 2 2, str [13, 10, 10, 13], .slice (some ⟨q3, 0, none⟩) 3 3, str [255, 204, 129, 97], .slice (some ⟨q4, 0, none⟩) 3 3, str [240, 159, 145, 169, 226, 128, 141, 240, 159, 145, 169, 204, 129], .slice (some ⟨q5, 0, none⟩) 1 1, str [97, 226, 128, 141, 240, 159, 145, 169], .slice (some ⟨q6, 0, none⟩) 2 2, str [232, 169, 169, 97], .slice (some ⟨q7, 0, none⟩) 2 2, str [], .slice none 0 0].toArray 59 (0, 0)), .blk q7 (.cells [.int .i64 0, .int .i64 3, .int .i64 2, .int .i64 3, .int .i64 4, .int .i64 1].toArray 38 (0, 0)), .blk q6 (.cells [.int .i64 0, .int .i64 4, .int .i64 1, .int .i64 4, .int .i64 8, .int .i64 2].toArray 38 (0, 0)), .blk q5 (.cells [.int .i64 0, .int .i64 13, .int .i64 2].toArray 38 (0, 0)), .blk q4 (.cells [.int .i64 0, .int .i64 1, .int .i64 1, .int .i64 1, .int .i64 3, .int .i64 0, .int .i64 3, .int .i64 4, .int .i64 1].toArray 38 (0, 0)), .blk q3 (.cells [.int .i64 0, .int .i64 2, .int .i64 0, .int .i64 2, .int .i64 3, .int .i64 0, .int .i64 3, .int .i64 4, .int .i64 0].toArray 38 (0, 0)), .blk q2 (.cells [.int .i64 0, .int .i64 2, .int .i64 0, .int .i64 2, .int .i64 7, .int .i64 1].toArray 38 (0, 0)), .blk q1 (.cells [.int .i64 0, .int .i64 3, .int .i64 1, .int .i64 3, .int .i64 4, .int .i64 1].toArray 38 (0, 0)), .blk bx (.cells [str [204, 129, 97, 204, 129, 204, 129], .slice (some ⟨q2, 0, none⟩) 2 2].toArray 59 (0, 0))]) (H) rfl (by decide +kernel) zpk ?_
    (refine cm_C25_1 ?_)
    refine WE.act1 2 (by decide +kernel) rfl rfl (fun c h => by cases h) ?_
    (try (refine st_C25_1 ?_; intros))
    refine w_callF Try.func19 ?_ (hs := cells_any _ (by decide) _ _ _)
    rintro v m2 H2 ⟨hle2, a, cp, rfl, rfl⟩
    rw [ex_b]
    (try (refine st_C25_1 ?_; intros))
    refine WQ.acted (B := [.row a cp 38 3 (([⟨0, 2, 0⟩, ⟨2, 7, 1⟩] : List Cl).map Cl.cs)]) (U := H) rfl hle2 zpk ?_
    (refine cm_C25_1 ?_)
    refine WE.act1 5 (by decide +kernel) rfl rfl (fun c h => by cases h) ?_
    (try (refine st_C25_1 ?_; intros))
    refine w_callF Try.func18 ?_ (hs := equal_any (L1 := [⟨0, 2, 0⟩, ⟨2, 7, 1⟩]) (L2 := [⟨0, 2, 0⟩, ⟨2, 7, 1⟩]) (by decide) (by decide) (RowR.row (T := 38) (cap := cp) (by simp)) (rowR_blk (T := 38) (fz := (0, 0)) (L := [.int .i64 0, .int .i64 2, .int .i64 0, .int .i64 2, .int .i64 7, .int .i64 1]) (by simp) rfl (by decide)))
    rintro v m3 H3 ⟨rfl, rfl, rfl⟩
    rw [dcd_true (p := ([⟨0, 2, 0⟩, ⟨2, 7, 1⟩] : List Cl) = [⟨0, 2, 0⟩, ⟨2, 7, 1⟩]) rfl]
    (try (refine st_C25_1 ?_; intros))
    refine WQ.acted (B := []) (U := H) rfl (Mem.le.refl _) zpk ?_
    (refine cm_C25_1 ?_)
    refine WE.done (by decide +kernel) ?_
    (try (refine st_C25_1 ?_; intros))
    refine WQ.next (8 - (2)) ⟨2, m3, rfl, rfl, rfl, rfl, rfl, ?_, ?_⟩ (by omega) zsb zpk
    · exact hle.trans hle2
    · omega
  · (try (refine st_C25_1 ?_; intros))
    refine WL.rename 60 (u := .pointer (some ⟨q8, 4, none⟩)) rfl (at_ptr2 q8 (2 * 2)) ?_
    (refine st_C25_1 ?_; intros; rename_i bx)
    refine WC.drawE 7 ([.blk q8 (.cells [str [97, 204, 129, 98], .slice (some ⟨q1, 0, none⟩) 2 2, str [204, 129, 97, 204, 129, 204, 129], .slice (some ⟨q2, 0, none⟩) 2 2, str [13, 10, 10, 13], .slice (some ⟨q3, 0, none⟩) 3 3, str [255, 204, 129, 97], .slice (some ⟨q4, 0, none⟩) 3 3, str [240, 159, 145, 169, 226, 128, 141, 240, 159, 145, 169, 204, 129], .slice (some ⟨q5, 0, none⟩) 1 1, str [97, 226, 128, 141, 240, 159, 145, 169], .slice (some ⟨q6, 0, none⟩) 2 2, str [232, 169, 169, 97], .slice (some ⟨q7, 0, none⟩) 2 2, str [], .slice none 0 0].toArray 59 (0, 0)), .blk q7 (.cells [.int .i64 0, .int .i64 3, .int .i64 2, .int .i64 3, .int .i64 4, .int .i64 1].toArray 38 (0, 0)), .blk q6 (.cells [.int .i64 0, .int .i64 4, .int .i64 1, .int .i64 4, .int .i64 8, .int .i64 2].toArray 38 (0, 0)), .blk q5 (.cells [.int .i64 0, .int .i64 13, .int .i64 2].toArray 38 (0, 0)), .blk q4 (.cells [.int .i64 0, .int .i64 1, .int .i64 1, .int .i64 1, .int .i64 3, .int .i64 0, .int .i64 3, .int .i64 4, .int .i64 1].toArray 38 (0, 0)), .blk q3 (.cells [.int .i64 0, .int .i64 2, .int .i64 0, .int .i64 2, .int .i64 3, .int .i64 0, .int .i64 3, .int .i64 4, .int .i64 0].toArray 38 (0, 0)), .blk q2 (.cells [.int .i64 0, .int .i64 2, .int .i64 0, .int .i64 2, .int .i64 7, .int .i64 1].toArray 38 (0, 0)), .blk q1 (.cells [.int .i64 0, .int .i64 3, .int .i64 1, .int .i64 3, .int .i64 4, .int .i64 1].toArray 38 (0, 0)), .blk bx (.cells [str [13, 10, 10, 13], .slice (some ⟨q3, 0, none⟩) 3 3].toArray 59 (0, 0))]) (H) rfl (by decide +kernel) zpk ?_
    (refine cm_C25_1 ?_)
    refine WE.act1 2 (by decide +kernel) rfl rfl (fun c h => by cases h) ?_
    (try (refine st_C25_1 ?_; intros))
    refine w_callF Try.func19 ?_ (hs := cells_any _ (by decide) _ _ _)
    rintro v m2 H2 ⟨hle2, a, cp, rfl, rfl⟩
    rw [ex_c]
    (try (refine st_C25_1 ?_; intros))
    refine WQ.acted (B := [.row a cp 38 3 (([⟨0, 2, 0⟩, ⟨2, 3, 0⟩, ⟨3, 4, 0⟩] : List Cl).map Cl.cs)]) (U := H) rfl hle2 zpk ?_
    (refine cm_C25_1 ?_)
    refine WE.act1 5 (by decide +kernel) rfl rfl (fun c h => by cases h) ?_
    (try (refine st_C25_1 ?_; intros))
    refine w_callF Try.func18 ?_ (hs := equal_any (L1 := [⟨0, 2, 0⟩, ⟨2, 3, 0⟩, ⟨3, 4, 0⟩]) (L2 := [⟨0, 2, 0⟩, ⟨2, 3, 0⟩, ⟨3, 4, 0⟩]) (by decide) (by decide) (RowR.row (T := 38) (cap := cp) (by simp)) (rowR_blk (T := 38) (fz := (0, 0)) (L := [.int .i64 0, .int .i64 2, .int .i64 0, .int .i64 2, .int .i64 3, .int .i64 0, .int .i64 3, .int .i64 4, .int .i64 0]) (by simp) rfl (by decide)))
    rintro v m3 H3 ⟨rfl, rfl, rfl⟩
    rw [dcd_true (p := ([⟨0, 2, 0⟩, ⟨2, 3, 0⟩, ⟨3, 4, 0⟩] : List Cl) = [⟨0, 2, 0⟩, ⟨2, 3, 0⟩, ⟨3, 4, 0⟩]) rfl]
    (try (refine st_C25_1 ?_; intros))
    refine WQ.acted (B := []) (U := H) rfl (Mem.le.refl _) zpk ?_
    (refine cm_C25_1 ?_)
    refine WE.done (by decide +kernel) ?_
    (try (refine st_C25_1 ?_; intros))
    refine WQ.next (8 - (3)) ⟨3, m3, rfl, rfl, rfl, rfl, rfl, ?_, ?_⟩ (by omega) zsb zpk
    · exact hle.trans hle2
    · omega
  · (try (refine st_C25_1 ?_; intros))
    refine WL.rename 60 (u := .pointer (some ⟨q8, 6, none⟩)) rfl (at_ptr2 q8 (3 * 2)) ?_
    (refine st_C25_1 ?_; intros; rename_i bx)
    refine WC.drawE 7 ([.blk q8 (.cells [str [97, 204, 129, 98], .slice (some ⟨q1, 0, none⟩) 2 2, str [204, 129, 97, 204, 129, 204, 129], .slice (some ⟨q2, 0, none⟩) 2 2, str [13, 10, 10, 13], .slice (some ⟨q3, 0, none⟩) 3 3, str [255, 204, 129, 97], .slice (some ⟨q4, 0, none⟩) 3 3, str [240, 159, 145, 169, 226, 128, 141, 240, 159, 145, 169, 204, 129], .slice (some ⟨q5, 0, none⟩) 1 1, str [97, 226, 128, 141, 240, 159, 145, 169], .slice (some ⟨q6, 0, none⟩) 2 2, str [232, 169, 169, 97], .slice (some ⟨q7, 0, none⟩) 2 2, str [], .slice none 0 0].toArray 59 (0, 0)), .blk q7 (.cells [.int .i64 0, .int .i64 3, .int .i64 2, .int .i64 3, .int .i64 4, .int .i64 1].toArray 38 (0, 0)), .blk q6 (.cells [.int .i64 0, .int .i64 4, .int .i64 1, .int .i64 4, .int .i64 8, .int .i64 2].toArray 38 (0, 0)), .blk q5 (.cells [.int .i64 0, .int .i64 13, .int .i64 2].toArray 38 (0, 0)), .blk q4 (.cells [.int .i64 0, .int .i64 1, .int .i64 1, .int .i64 1, .int .i64 3, .int .i64 0, .int .i64 3, .int .i64 4, .int .i64 1].toArray 38 (0, 0)), .blk q3 (.cells [.int .i64 0, .int .i64 2, .int .i64 0, .int .i64 2, .int .i64 3, .int .i64 0, .int .i64 3, .int .i64 4, .int .i64 0].toArray 38 (0, 0)), .blk q2 (.cells [.int .i64 0, .int .i64 2, .int .i64 0, .int .i64 2, .int .i64 7, .int .i64 1].toArray 38 (0, 0)), .blk q1 (.cells [.int .i64 0, .int .i64 3, .int .i64 1, .int .i64 3, .int .i64 4, .int .i64 1].toArray 38 (0, 0)), .blk bx (.cells [str [255, 204, 129, 97], .slice (some ⟨q4, 0, none⟩) 3 3].toArray 59 (0, 0))]) (H) rfl (by decide +kernel) zpk ?_
    (refine cm_C25_1 ?_)
    refine WE.act1 2 (by decide +kernel) rfl rfl (fun c h => by cases h) ?_
    (try (refine st_C25_1 ?_; intros))
    refine w_callF Try.func19 ?_ (hs := cells_any _ (by decide) _ _ _)
    rintro v m2 H2 ⟨hle2, a, cp, rfl, rfl⟩
    rw [ex_d]
    (try (refine st_C25_1 ?_; intros))
    refine WQ.acted (B := [.row a cp 38 3 (([⟨0, 1, 1⟩, ⟨1, 3, 0⟩, ⟨3, 4, 1⟩] : List Cl).map Cl.cs)]) (U := H) rfl hle2 zpk ?_
    (refine cm_C25_1 ?_)
    refine WE.act1 5 (by decide +kernel) rfl rfl (fun c h => by cases h) ?_
    (try (refine st_C25_1 ?_; intros))
    refine w_callF Try.func18 ?_ (hs := equal_any (L1 := [⟨0, 1, 1⟩, ⟨1, 3, 0⟩, ⟨3, 4, 1⟩]) (L2 := [⟨0, 1, 1⟩, ⟨1, 3, 0⟩, ⟨3, 4, 1⟩]) (by decide) (by decide) (RowR.row (T := 38) (cap := cp) (by simp)) (rowR_blk (T := 38) (fz := (0, 0)) (L := [.int .i64 0, .int .i64 1, .int .i64 1, .int .i64 1, .int .i64 3, .int .i64 0, .int .i64 3, .int .i64 4, .int .i64 1]) (by simp) rfl (by decide)))
    rintro v m3 H3 ⟨rfl, rfl, rfl⟩
    rw [dcd_true (p := ([⟨0, 1, 1⟩, ⟨1, 3, 0⟩, ⟨3, 4, 1⟩] : List Cl) = [⟨0, 1, 1⟩, ⟨1, 3, 0⟩, ⟨3, 4, 1⟩]) rfl]
    (try (refine st_C25_1 ?_; intros))
    refine WQ.acted (B := []) (U := H) rfl (Mem.le.refl _) zpk ?_
    (refine cm_C25_1 ?_)
    refine WE.done (by decide +kernel) ?_
    (try (refine st_C25_1 ?_; intros))
    refine WQ.next (8 - (4)) ⟨4, m3, rfl, rfl, rfl, rfl, rfl, ?_, ?_⟩ (by omega) zsb zpk
    · exact hle.trans hle2
    · omega
  · (try (refine st_C25_1 ?_; intros))
    refine WL.rename 60 (u := .pointer (some ⟨q8, 8, none⟩)) rfl (at_ptr2 q8 (4 * 2)) ?_
    (refine st_C25_1 ?_; intros; rename_i bx)
    refine WC.drawE 7 ([.blk q8 (.cells [str [97, 204, 129, 98], .slice (some ⟨q1, 0, none⟩) 2 2, str [204, 129, 97, 204, 129, 204, 129], .slice (some ⟨q2, 0, none⟩) 2 2, str [13, 10, 10, 13], .slice (some ⟨q3, 0, none⟩) 3 3, str [255, 204, 129, 97], .slice (some ⟨q4, 0, none⟩) 3 3, str [240, 159, 145, 169, 226, 128, 141, 240, 159, 145, 169, 204, 129], .slice (some ⟨q5, 0, none⟩) 1 1, str [97, 226, 128, 141, 240, 159, 145, 169], .slice (some ⟨q6, 0, none⟩) 2 2, str [232, 169, 169, 97], .slice (some ⟨q7, 0, none⟩) 2 2, str [], .slice none 0 0].toArray 59 (0, 0)), .blk q7 (.cells [.int .i64 0, .int .i64 3, .int .i64 2, .int .i64 3, .int .i64 4, .int .i64 1].toArray 38 (0, 0)), .blk q6 (.cells [.int .i64 0, .int .i64 4, .int .i64 1, .int .i64 4, .int .i64 8, .int .i64 2].toArray 38 (0, 0)), .blk q5 (.cells [.int .i64 0, .int .i64 13, .int .i64 2].toArray 38 (0, 0)), .blk q4 (.cells [.int .i64 0, .int .i64 1, .int .i64 1, .int .i64 1, .int .i64 3, .int .i64 0, .int .i64 3, .int .i64 4, .int .i64 1].toArray 38 (0, 0)), .blk q3 (.cells [.int .i64 0, .int .i64 2, .int .i64 0, .int .i64 2, .int .i64 3, .int .i64 0, .int .i64 3, .int .i64 4, .int .i64 0].toArray 38 (0, 0)), .blk q2 (.cells [.int .i64 0, .int .i64 2, .int .i64 0, .int .i64 2, .int .i64 7, .int .i64 1].toArray 38 (0, 0)), .blk q1 (.cells [.int .i64 0, .int .i64 3, .int .i64 1, .int .i64 3, .int .i64 4, .int .i64 1].toArray 38 (0, 0)), .blk bx (.cells [str [240, 159, 145, 169, 226, 128, 141, 240, 159, 145, 169, 204, 129], .slice (some ⟨q5, 0, none⟩) 1 1].toArray 59 (0, 0))]) (H) rfl (by decide +kernel) zpk ?_
    (refine cm_C25_1 ?_)
    refine WE.act1 2 (by decide +kernel) rfl rfl (fun c h => by cases h) ?_
    (try (refine st_C25_1 ?_; intros))
    refine w_callF Try.func19 ?_ (hs := cells_any _ (by decide) _ _ _)
    rintro v m2 H2 ⟨hle2, a, cp, rfl, rfl⟩
    rw [ex_e]
    (try (refine st_C25_1 ?_; intros))
    refine WQ.acted (B := [.row a cp 38 3 (([⟨0, 13, 2⟩] : List Cl).map Cl.cs)]) (U := H) rfl hle2 zpk ?_
    (refine cm_C25_1 ?_)
    refine WE.act1 5 (by decide +kernel) rfl rfl (fun c h => by cases h) ?_
    (try (refine st_C25_1 ?_; intros))
    refine w_callF Try.func18 ?_ (hs := equal_any (L1 := [⟨0, 13, 2⟩]) (L2 := [⟨0, 13, 2⟩]) (by decide) (by decide) (RowR.row (T := 38) (cap := cp) (by simp)) (rowR_blk (T := 38) (fz := (0, 0)) (L := [.int .i64 0, .int .i64 13, .int .i64 2]) (by simp) rfl (by decide)))
    rintro v m3 H3 ⟨rfl, rfl, rfl⟩
    rw [dcd_true (p := ([⟨0, 13, 2⟩] : List Cl) = [⟨0, 13, 2⟩]) rfl]
    (try (refine st_C25_1 ?_; intros))
    refine WQ.acted (B := []) (U := H) rfl (Mem.le.refl _) zpk ?_
    (refine cm_C25_1 ?_)
    refine WE.done (by decide +kernel) ?_
    (try (refine st_C25_1 ?_; intros))
    refine WQ.next (8 - (5)) ⟨5, m3, rfl, rfl, rfl, rfl, rfl, ?_, ?_⟩ (by omega) zsb zpk
    · exact hle.trans hle2
    · omega
  · (try (refine st_C25_1 ?_; intros))
    refine WL.rename 60 (u := .pointer (some ⟨q8, 10, none⟩)) rfl (at_ptr2 q8 (5 * 2)) ?_
    (refine st_C25_1 ?_; intros; rename_i bx)
    refine WC.drawE 7 ([.blk q8 (.cells [str [97, 204, 129, 98], .slice (some ⟨q1, 0, none⟩) 2 2, str [204, 129, 97, 204, 129, 204, 129], .slice (some ⟨q2, 0, none⟩) 2 2, str [13, 10, 10, 13], .slice (some ⟨q3, 0, none⟩) 3 3, str [255, 204, 129, 97], .slice (some ⟨q4, 0, none⟩) 3 3, str [240, 159, 145, 169, 226, 128, 141, 240, 159, 145, 169, 204, 129], .slice (some ⟨q5, 0, none⟩) 1 1, str [97, 226, 128, 141, 240, 159, 145, 169], .slice (some ⟨q6, 0, none⟩) 2 2, str [232, 169, 169, 97], .slice (some ⟨q7, 0, none⟩) 2 2, str [], .slice none 0 0].toArray 59 (0, 0)), .blk q7 (.cells [.int .i64 0, .int .i64 3, .int .i64 2, .int .i64 3, .int .i64 4, .int .i64 1].toArray 38 (0, 0)), .blk q6 (.cells [.int .i64 0, .int .i64 4, .int .i64 1, .int .i64 4, .int .i64 8, .int .i64 2].toArray 38 (0, 0)), .blk q5 (.cells [.int .i64 0, .int .i64 13, .int .i64 2].toArray 38 (0, 0)), .blk q4 (.cells [.int .i64 0, .int .i64 1, .int .i64 1, .int .i64 1, .int .i64 3, .int .i64 0, .int .i64 3, .int .i64 4, .int .i64 1].toArray 38 (0, 0)), .blk q3 (.cells [.int .i64 0, .int .i64 2, .int .i64 0, .int .i64 2, .int .i64 3, .int .i64 0, .int .i64 3, .int .i64 4, .int .i64 0].toArray 38 (0, 0)), .blk q2 (.cells [.int .i64 0, .int .i64 2, .int .i64 0, .int .i64 2, .int .i64 7, .int .i64 1].toArray 38 (0, 0)), .blk q1 (.cells [.int .i64 0, .int .i64 3, .int .i64 1, .int .i64 3, .int .i64 4, .int .i64 1].toArray 38 (0, 0)), .blk bx (.cells [str [97, 226, 128, 141, 240, 159, 145, 169], .slice (some ⟨q6, 0, none⟩) 2 2].toArray 59 (0, 0))]) (H) rfl (by decide +kernel) zpk ?_
    (refine cm_C25_1 ?_)
    refine WE.act1 2 (by decide +kernel) rfl rfl (fun c h => by cases h) ?_
    (try (refine st_C25_1 ?_; intros))
    refine w_callF Try.func19 ?_ (hs := cells_any _ (by decide) _ _ _)
    rintro v m2 H2 ⟨hle2, a, cp, rfl, rfl⟩
    rw [ex_f]
    (try (refine st_C25_1 ?_; intros))
    refine WQ.acted (B := [.row a cp 38 3 (([⟨0, 4, 1⟩, ⟨4, 8, 2⟩] : List Cl).map Cl.cs)]) (U := H) rfl hle2 zpk ?_
    (refine cm_C25_1 ?_)
    refine WE.act1 5 (by decide +kernel) rfl rfl (fun c h => by cases h) ?_
    (try (refine st_C25_1 ?_; intros))
    refine w_callF Try.func18 ?_ (hs := equal_any (L1 := [⟨0, 4, 1⟩, ⟨4, 8, 2⟩]) (L2 := [⟨0, 4, 1⟩, ⟨4, 8, 2⟩]) (by decide) (by decide) (RowR.row (T := 38) (cap := cp) (by simp)) (rowR_blk (T := 38) (fz := (0, 0)) (L := [.int .i64 0, .int .i64 4, .int .i64 1, .int .i64 4, .int .i64 8, .int .i64 2]) (by simp) rfl (by decide)))
    rintro v m3 H3 ⟨rfl, rfl, rfl⟩
    rw [dcd_true (p := ([⟨0, 4, 1⟩, ⟨4, 8, 2⟩] : List Cl) = [⟨0, 4, 1⟩, ⟨4, 8, 2⟩]) rfl]
    (try (refine st_C25_1 ?_; intros))
    refine WQ.acted (B := []) (U := H) rfl (Mem.le.refl _) zpk ?_
    (refine cm_C25_1 ?_)
    refine WE.done (by decide +kernel) ?_
    (try (refine st_C25_1 ?_; intros))
    refine WQ.next (8 - (6)) ⟨6, m3, rfl, rfl, rfl, rfl, rfl, ?_, ?_⟩ (by omega) zsb zpk
    · exact hle.trans hle2
    · omega
  · (try (refine st_C25_1 ?_; intros))
    refine WL.rename 60 (u := .pointer (some ⟨q8, 12, none⟩)) rfl (at_ptr2 q8 (6 * 2)) ?_
    (refine st_C25_1 ?_; intros; rename_i bx)
    refine WC.drawE 7 ([.blk q8 (.cells [str [97, 204, 129, 98], .slice (some ⟨q1, 0, none⟩) 2 2, str [204, 129, 97, 204, 129, 204, 129], .slice (some ⟨q2, 0, none⟩) 2 2, str [13, 10, 10, 13], .slice (some ⟨q3, 0, none⟩) 3 3, str [255, 204, 129, 97], .slice (some ⟨q4, 0, none⟩) 3 3, str [240, 159, 145, 169, 226, 128, 141, 240, 159, 145, 169, 204, 129], .slice (some ⟨q5, 0, none⟩) 1 1, str [97, 226, 128, 141, 240, 159, 145, 169], .slice (some ⟨q6, 0, none⟩) 2 2, str [232, 169, 169, 97], .slice (some ⟨q7, 0, none⟩) 2 2, str [], .slice none 0 0].toArray 59 (0, 0)), .blk q7 (.cells [.int .i64 0, .int .i64 3, .int .i64 2, .int .i64 3, .int .i64 4, .int .i64 1].toArray 38 (0, 0)), .blk q6 (.cells [.int .i64 0, .int .i64 4, .int .i64 1, .int .i64 4, .int .i64 8, .int .i64 2].toArray 38 (0, 0)), .blk q5 (.cells [.int .i64 0, .int .i64 13, .int .i64 2].toArray 38 (0, 0)), .blk q4 (.cells [.int .i64 0, .int .i64 1, .int .i64 1, .int .i64 1, .int .i64 3, .int .i64 0, .int .i64 3, .int .i64 4, .int .i64 1].toArray 38 (0, 0)), .blk q3 (.cells [.int .i64 0, .int .i64 2, .int .i64 0, .int .i64 2, .int .i64 3, .int .i64 0, .int .i64 3, .int .i64 4, .int .i64 0].toArray 38 (0, 0)), .blk q2 (.cells [.int .i64 0, .int .i64 2, .int .i64 0, .int .i64 2, .int .i64 7, .int .i64 1].toArray 38 (0, 0)), .blk q1 (.cells [.int .i64 0, .int .i64 3, .int .i64 1, .int .i64 3, .int .i64 4, .int .i64 1].toArray 38 (0, 0)), .blk bx (.cells [str [232, 169, 169, 97], .slice (some ⟨q7, 0, none⟩) 2 2].toArray 59 (0, 0))]) (H) rfl (by decide +kernel) zpk ?_
    (refine cm_C25_1 ?_)
    refine WE.act1 2 (by decide +kernel) rfl rfl (fun c h => by cases h) ?_
    (try (refine st_C25_1 ?_; intros))
    refine w_callF Try.func19 ?_ (hs := cells_any _ (by decide) _ _ _)
    rintro v m2 H2 ⟨hle2, a, cp, rfl, rfl⟩
    rw [ex_g]
    (try (refine st_C25_1 ?_; intros))
    refine WQ.acted (B := [.row a cp 38 3 (([⟨0, 3, 2⟩, ⟨3, 4, 1⟩] : List Cl).map Cl.cs)]) (U := H) rfl hle2 zpk ?_
    (refine cm_C25_1 ?_)
    refine WE.act1 5 (by decide +kernel) rfl rfl (fun c h => by cases h) ?_
    (try (refine st_C25_1 ?_; intros))
    refine w_callF Try.func18 ?_ (hs := equal_any (L1 := [⟨0, 3, 2⟩, ⟨3, 4, 1⟩]) (L2 := [⟨0, 3, 2⟩, ⟨3, 4, 1⟩]) (by decide) (by decide) (RowR.row (T := 38) (cap := cp) (by simp)) (rowR_blk (T := 38) (fz := (0, 0)) (L := [.int .i64 0, .int .i64 3, .int .i64 2, .int .i64 3, .int .i64 4, .int .i64 1]) (by simp) rfl (by decide)))
    rintro v m3 H3 ⟨rfl, rfl, rfl⟩
    rw [dcd_true (p := ([⟨0, 3, 2⟩, ⟨3, 4, 1⟩] : List Cl) = [⟨0, 3, 2⟩, ⟨3, 4, 1⟩]) rfl]
    (try (refine st_C25_1 ?_; intros))
    refine WQ.acted (B := []) (U := H) rfl (Mem.le.refl _) zpk ?_
    (refine cm_C25_1 ?_)
    refine WE.done (by decide +kernel) ?_
    (try (refine st_C25_1 ?_; intros))
    refine WQ.next (8 - (7)) ⟨7, m3, rfl, rfl, rfl, rfl, rfl, ?_, ?_⟩ (by omega) zsb zpk
    · exact hle.trans hle2
    · omega
  · (try (refine st_C25_1 ?_; intros))
    refine WL.rename 60 (u := .pointer (some ⟨q8, 14, none⟩)) rfl (at_ptr2 q8 (7 * 2)) ?_
    (refine st_C25_1 ?_; intros; rename_i bx)
    refine WC.drawE 7 ([.blk q8 (.cells [str [97, 204, 129, 98], .slice (some ⟨q1, 0, none⟩) 2 2, str [204, 129, 97, 204, 129, 204, 129], .slice (some ⟨q2, 0, none⟩) 2 2, str [13, 10, 10, 13], .slice (some ⟨q3, 0, none⟩) 3 3, str [255, 204, 129, 97], .slice (some ⟨q4, 0, none⟩) 3 3, str [240, 159, 145, 169, 226, 128, 141, 240, 159, 145, 169, 204, 129], .slice (some ⟨q5, 0, none⟩) 1 1, str [97, 226, 128, 141, 240, 159, 145, 169], .slice (some ⟨q6, 0, none⟩) 2 2, str [232, 169, 169, 97], .slice (some ⟨q7, 0, none⟩) 2 2, str [], .slice none 0 0].toArray 59 (0, 0)), .blk q7 (.cells [.int .i64 0, .int .i64 3, .int .i64 2, .int .i64 3, .int .i64 4, .int .i64 1].toArray 38 (0, 0)), .blk q6 (.cells [.int .i64 0, .int .i64 4, .int .i64 1, .int .i64 4, .int .i64 8, .int .i64 2].toArray 38 (0, 0)), .blk q5 (.cells [.int .i64 0, .int .i64 13, .int .i64 2].toArray 38 (0, 0)), .blk q4 (.cells [.int .i64 0, .int .i64 1, .int .i64 1, .int .i64 1, .int .i64 3, .int .i64 0, .int .i64 3, .int .i64 4, .int .i64 1].toArray 38 (0, 0)), .blk q3 (.cells [.int .i64 0, .int .i64 2, .int .i64 0, .int .i64 2, .int .i64 3, .int .i64 0, .int .i64 3, .int .i64 4, .int .i64 0].toArray 38 (0, 0)), .blk q2 (.cells [.int .i64 0, .int .i64 2, .int .i64 0, .int .i64 2, .int .i64 7, .int .i64 1].toArray 38 (0, 0)), .blk q1 (.cells [.int .i64 0, .int .i64 3, .int .i64 1, .int .i64 3, .int .i64 4, .int .i64 1].toArray 38 (0, 0)), .blk bx (.cells [str [], .slice none 0 0].toArray 59 (0, 0))]) (H) rfl (by decide +kernel) zpk ?_
    (refine cm_C25_1 ?_)
    refine WE.act1 2 (by decide +kernel) rfl rfl (fun c h => by cases h) ?_
    (try (refine st_C25_1 ?_; intros))
    refine w_callF Try.func19 ?_ (hs := cells_any _ (by decide) _ _ _)
    rintro v m2 H2 ⟨hle2, a, cp, rfl, rfl⟩
    rw [ex_h]
    (try (refine st_C25_1 ?_; intros))
    refine WQ.acted (B := [.row a cp 38 3 (([] : List Cl).map Cl.cs)]) (U := H) rfl hle2 zpk ?_
    (refine cm_C25_1 ?_)
    refine WE.act1 5 (by decide +kernel) rfl rfl (fun c h => by cases h) ?_
    (try (refine st_C25_1 ?_; intros))
    refine w_callF Try.func18 ?_ (hs := equal_any (L1 := []) (L2 := []) (by decide) (by decide) (RowR.row (T := 38) (cap := cp) (by simp)) RowR.nil)
    rintro v m3 H3 ⟨rfl, rfl, rfl⟩
    rw [dcd_true (p := ([] : List Cl) = []) rfl]
    (try (refine st_C25_1 ?_; intros))
    refine WQ.acted (B := []) (U := H) rfl (Mem.le.refl _) zpk ?_
    (refine cm_C25_1 ?_)
    refine WE.done (by decide +kernel) ?_
    (try (refine st_C25_1 ?_; intros))
    refine WQ.next (8 - (8)) ⟨8, m3, rfl, rfl, rfl, rfl, rfl, ?_, ?_⟩ (by omega) zsb zpk
    · exact hle.trans hle2
    · omega
  · (try (refine st_C25_1 ?_; intros))
    refine WL.heap (H' := H) zpk ?_
    refine w_callF Try.func20 ?_ (hs := at_any [97, 204, 129, 98] (by decide) 4 _ _ _)
    rintro v n1 H ⟨le1, rfl, rfl⟩
    rw [ex_at4, show atV none = .tuple #[.agg #[.int .i64 0, .int .i64 0, .int .i64 0], .int .i64 5] from rfl]
    (refine st_C25_1 ?_; intros; rename_i c3)
    refine w_callF Try.func20 ?_ (hs := at_any [97, 204, 129, 98] (by decide) 2 _ _ _)
    rintro v n2 H ⟨le2, rfl, rfl⟩
    rw [ex_at2, show atV (some ⟨0, 3, 1⟩) = .tuple #[.agg #[.int .i64 0, .int .i64 3, .int .i64 1], .int .i64 0] from rfl]
    (refine st_C25_1 ?_; intros; rename_i c5)
    refine w_callF Try.func27 ?_ (hs := under_any [232, 169, 169, 97] (by decide) 1 _ _ _)
    rintro v n3 H ⟨le3, rfl, rfl⟩
    rw [ex_un1, show atV (some ⟨0, 3, 2⟩) = .tuple #[.agg #[.int .i64 0, .int .i64 3, .int .i64 2], .int .i64 0] from rfl]
    (refine st_C25_1 ?_; intros; rename_i c7)
    refine w_callF Try.func27 ?_ (hs := under_any [232, 169, 169, 97] (by decide) 2 _ _ _)
    rintro v n4 H ⟨le4, rfl, rfl⟩
    rw [ex_un2, show atV (some ⟨3, 4, 1⟩) = .tuple #[.agg #[.int .i64 3, .int .i64 4, .int .i64 1], .int .i64 0] from rfl]
    (refine st_C25_1 ?_; intros; rename_i c9)
    refine w_callF Try.func27 ?_ (hs := under_any [232, 169, 169, 97] (by decide) 3 _ _ _)
    rintro v n5 H ⟨le5, rfl, rfl⟩
    rw [ex_un3, show atV none = .tuple #[.agg #[.int .i64 0, .int .i64 0, .int .i64 0], .int .i64 5] from rfl]
    (refine st_C25_1 ?_; intros; rename_i c11)
    refine w_callF Try.func14 ?_ (hs := pad_any [97] (by decide) 2 4 _ _ _)
    rintro v n6 H ⟨le6, rfl, rfl⟩
    rw [ex_p1]
    (try (refine st_C25_1 ?_; intros))
    refine w_callF Try.func14 ?_ (hs := pad_any [97] (by decide) (-1) 1 _ _ _)
    rintro v n7 H ⟨le7, rfl, rfl⟩
    rw [ex_p2]
    (try (refine st_C25_1 ?_; intros))
    refine w_callF Try.func14 ?_ (hs := pad_any [97] (by decide) 65537 1 _ _ _)
    rintro v n8 H ⟨le8, rfl, rfl⟩
    rw [ex_p3]
    (try (refine st_C25_1 ?_; intros))
    refine w_callF Try.func12 ?_ (hs := cut_any [204, 129, 97] (by decide) 0 _ _ _)
    rintro v n9 H ⟨le9, rfl, rfl⟩
    have hcut : (Value.tuple #[str ([204, 129, 97].take (cutL [204, 129, 97] 0).2), str ([204, 129, 97].drop (cutL [204, 129, 97] 0).2), .int .i64 ((cutL [204, 129, 97] 0).1 : Int)]) = .tuple #[str [204, 129], str [97], .int .i64 0] := by rw [ex_cut]; rfl
    rw [hcut]
    have hm9 : m.le n9 := hle.trans (le1.trans (le2.trans (le3.trans (le4.trans (le5.trans (le6.trans (le7.trans (le8.trans le9))))))))
    have t1 : ([204, 129] : List UInt8) = [204, 129] := rfl
    have t2 : ([97] : List UInt8) = [97] := rfl
    have t3 : ([13, 10, 98, 97, 204, 129] : List UInt8) = [13, 10, 98, 97, 204, 129] := rfl
    (try (refine st_C25_1 ?_; intros))
    refine WC.weak (r' := [(4, .int .i64 5), (5, .pointer (some ⟨c5, 0, none⟩)), (6, .int .i64 0), (7, .pointer (some ⟨c7, 0, none⟩)), (8, .int .i64 0), (9, .pointer (some ⟨c9, 0, none⟩)), (10, .int .i64 0), (12, .int .i64 5), (14, .int .i64 2), (16, .int .i64 2), (18, .int .i64 3), (19, str [204, 129]), (20, str [97]), (21, .int .i64 0)]) (H' := [.blk c9 (.cells [.int .i64 3, .int .i64 4, .int .i64 1].toArray 38 (0, 0)), .blk c7 (.cells [.int .i64 0, .int .i64 3, .int .i64 2].toArray 38 (0, 0)), .blk c5 (.cells [.int .i64 0, .int .i64 3, .int .i64 1].toArray 38 (0, 0))] ++ H) zsb zpk ?_
    clear le1 le2 le3 le4 le5 le6 le7 le8 le9
    refine WC.drawE 69 ([.blk c9 (.cells [.int .i64 3, .int .i64 4, .int .i64 1].toArray 38 (0, 0)), .blk c7 (.cells [.int .i64 0, .int .i64 3, .int .i64 2].toArray 38 (0, 0)), .blk c5 (.cells [.int .i64 0, .int .i64 3, .int .i64 1].toArray 38 (0, 0))]) (H) rfl (by decide +kernel) zpk ?_
    (refine cm_C25_1 ?_)
    refine WE.act1 58 (by decide +kernel) rfl rfl (fun c h => by cases h) ?_
    (try (refine st_C25_1 ?_; intros))
    refine w_callF Try.func28 ?_ (hs := reverse_any [97, 204, 129, 98, 13, 10] (by decide) _ _ _)
    rintro v ma Ha ⟨lea, rfl, rfl⟩
    rw [ex_rev]
    (try (refine st_C25_1 ?_; intros))
    refine WQ.acted (B := []) (U := H) rfl lea zpk ?_
    (refine cm_C25_1 ?_)
    refine WE.act1 62 (by decide +kernel) rfl rfl (fun c h => by cases h) ?_
    (try (refine st_C25_1 ?_; intros))
    refine w_callF Try.func21 ?_ (hs := edge_any [97, 204, 129, 98] (by decide) 1 _ _ _)
    rintro v mb Hb ⟨leb, rfl, rfl⟩
    rw [show dcd (edgeR (clusters [97, 204, 129, 98]) 1 ([97, 204, 129, 98] : List UInt8).length) = false from dcd_false ex_e1]
    (try (refine st_C25_1 ?_; intros))
    refine WQ.acted (B := []) (U := H) rfl leb zpk ?_
    (refine cm_C25_1 ?_)
    refine WE.act1 66 (by decide +kernel) rfl rfl (fun c h => by cases h) ?_
    (try (refine st_C25_1 ?_; intros))
    refine w_callF Try.func21 ?_ (hs := edge_any [97, 204, 129, 98] (by decide) 4 _ _ _)
    rintro v mc Hc ⟨lec, rfl, rfl⟩
    rw [show dcd (edgeR (clusters [97, 204, 129, 98]) 4 ([97, 204, 129, 98] : List UInt8).length) = true from dcd_true ex_e4]
    (try (refine st_C25_1 ?_; intros))
    refine WQ.acted (B := []) (U := H) rfl lec zpk ?_
    (refine cm_C25_1 ?_)
    refine WE.done (by decide +kernel) ?_
    (try (refine st_C25_1 ?_; intros))
    exact q_fin0 (H0 := H) ⟨rfl, hm9.trans (lea.trans (leb.trans lec))⟩ (hd := zpk)
end Go.Proofs.Ytpghpbknjdnkkaa

/-
  A walk's engine, sixteenth part: how a law's arguments are read, ahead of the call and behind it. No condition.
-/
set_option linter.all false
namespace Go.Eng
open Go Go.RowKit Go.ChangeShapes Go.WideShapes Go.ChangeMaps
section
variable {H : Type} {enc : TypeId × Value → H} {P : Program}
theorem same_below {W W' : World} (hb : Below W.heap.size W W') {p : MemPlace} (hp : p.block < W.heap.size) : W.sameAt W' p := by
  cases p with
  | cell b off =>
    have h := hb.block b hp
    show W'.cell? ⟨b, off, none⟩ = W.cell? ⟨b, off, none⟩
    simp only [World.cell?, h]
  | map b => exact hb.block b hp
theorem trod_again {W W' : World} {sp : Nat → Bool} {t : TypeId} {v : Value} {d : DataW H} {p : List MemPlace} (hl : laidOutB P = true) (ht : t < P.types.size) (hr : P.readableRec t = true)
    (h : DataW.Trod enc P W 0 (fun _ => true) true t v d p) (hlt : ∀ q ∈ p, q.block < W.heap.size) (hb : Below W.heap.size W W') (hs : ∀ q ∈ p, sp q.block = true) : DataW.Trod enc P W' 0 sp true t v d p := by
  obtain ⟨n, hn⟩ := h
  have h1 := DataW.trod_carry (w' := W') n _ _ _ hn (fun q hq => same_below hb (hlt q hq))
  exact ⟨n, DataW.trod_respare (kids_book hl hr) (fun t e hT hu => book_sized hr hT hu) n _ _ _ ⟨ht, book_self t⟩ h1 hs⟩
theorem args_again {W W' : World} {sp : Nat → Bool} (hl : laidOutB P = true) (hb : Below W.heap.size W W') : ∀ {ts : List TypeId} {vs : List Value} {ds : List (DataW H)} {p : List MemPlace},
    (∀ t ∈ ts, t < P.types.size ∧ P.readableRec t = true) → DataW.TrodAll enc P W 0 (fun _ => true) true ts vs ds p → (∀ q ∈ p, sp q.block = true) → DataW.TrodAll enc P W' 0 sp true ts vs ds p
  | [], [], [], _, _, h, _ => h
  | t :: ts, v :: vs, d :: ds, p, hts, h, hs => by
    have hlt := DataW.TrodAll.lt h
    obtain ⟨a, b, h1, h2, e⟩ := h
    subst e
    obtain ⟨g1, g2⟩ := hts t List.mem_cons_self
    exact ⟨a, b, trod_again hl g1 g2 h1 (fun q hq => hlt q (List.mem_append_left _ hq)) hb (fun q hq => hs q (List.mem_append_left _ hq)),
      args_again hl hb (fun t ht => hts t (List.mem_cons_of_mem _ ht)) h2 (fun q hq => hs q (List.mem_append_right _ hq)), rfl⟩
/-- a law that says true, and leaves all that it was handed -/
theorem post_true {f : Func} {s : ChangeSpec} {apart fresh handsOn again : Bool} {W W' : World} {args : Array Value} {ds gs : List (DataW H)} {before : List MemPlace} {tb : TypeId}
    (hW : DataW.Whole enc P f.params.toList s.vars apart W args.toList ds gs before) (hvars : s.vars = []) (hfn : s.fn H (ds ++ gs) = { results := [.lit (.bool true)], args := ds })
    (hres : f.resultTypes = #[tb]) (htb : P.underlying tb = some .bool) (hl : laidOutB P = true) (hts : (f.params.toList.all fun t => decide (t < P.types.size) && P.readableRec t) = true) (hb : Below W.heap.size W W') :
    s.post enc P f apart fresh handsOn again W args (.bool true) W' := by
  have hW2 := hW
  obtain ⟨p, q, hA, hV, e, _, _⟩ := hW
  rw [hvars] at hV
  obtain ⟨rfl, rfl⟩ := trodVars_none hV
  rw [List.append_nil] at e
  subst e
  have hts' : ∀ t ∈ f.params.toList, t < P.types.size ∧ P.readableRec t = true := fun t ht => by simpa using List.all_eq_true.1 hts t ht
  refine post_below (pa := before) (pv := []) hW2 (fun _ _ _ => ?_) (fun sp hs => ?_) (fun _ _ => ?_) (by simp) hb ?_
  · rw [hfn, hres]; exact trodAll_cons_mk (shut_bool htb _) trodAll_mk0
  · rw [hfn]; exact args_again hl hb hts' hA hs
  · rw [hfn, hvars]; rfl
  · intro j t r h1 h2
    rw [hres] at h1 h2
    match j, h1 with
    | 0, h1 =>
      simp at h1; subst h1
      simp [Value.resultList] at h2
      subst h2
      exact okWide_bool_mk htb _
end
end Go.Eng

