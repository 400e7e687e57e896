/-
  Parts of a walk, joined: E4 ET7 E6 E8 EL R1 RT2 RT3 RT7 RT4 RT8 ER1. No condition.
-/
import Derived.Test.YtelgegefmjlimaaP6
import Derived.Test.YtelgegefmjlimaaP5
import Derived.Test.YtelgegefmjlimaaP3
import Derived.Test.YtelgegefmjlimaaProg
import Derived.Test.YtelgegefmjlimaaP4
/-
  The walks of package edit, fourth part: the builder's close. No condition.
-/
namespace Go.Proofs.Ytelgegefmjlimaa
open Go Go.Eng
set_option maxRecDepth 100000
set_option maxHeartbeats 4000000
set_option linter.all false
attribute [local irreducible] WL WC WQ QFun QLoop Does Q1 QRound QAssign Go.Addr.add
theorem close_any {b : Nat} {c : Option Addr} {cp : Nat} (B : Bld) (hB : B.l.length ≤ 1000000000000) (w0 : World) (m : Mem) (H : SHeap) :
    Does Try.prog 72 #[.pointer (some ⟨b, 0, none⟩)] w0 m (.blk b (.cells [.slice c B.l.length cp, str B.p, str B.d].toArray 98 (0, 0)) :: .row c cp 59 3 (B.l.map Stp.cs) :: H)
      (fun v m' H' => v = .tuple #[] ∧ m' = m ∧ ∃ c' cp', H' = .blk b (.cells [.slice c' B.close.l.length cp', str [], str []].toArray 98 (0, 0)) :: .row c' cp' 59 3 (B.close.l.map Stp.cs) :: H) := by
  refine Does.of_body (args := [.pointer (some ⟨b, 0, none⟩)]) Try.func72 rfl Try.ntmps72 rfl ?_
  have hml : (B.l.map Stp.cs).length = B.l.length := by simp
  by_cases hp : B.p = [] <;> by_cases hd : B.d = []
  · (try (refine st ?_; intros))
    have e : B.close.l = B.l := by simp [Bld.close, hp, hd]
    rw [hp, hd]
    exact q_finNorm0 (H0 := .blk b (.cells [.slice c B.l.length cp, str [], str []].toArray 98 (0, 0)) :: .row c cp 59 3 (B.l.map Stp.cs) :: H) ⟨rfl, rfl, c, cp, by rw [e]⟩ (hd := (fun w h => Pick.sat (by iterate 60 (try (first | exact Pick.all | (apply Pick.take; (· (repeat (first | exact Out.here | apply Out.there)))) | apply Pick.drop))) h))
  · (try (refine st ?_; intros))
    refine WC.drawE 14 ([.blk b (.cells [.slice c B.l.length cp, str B.p, str B.d].toArray 98 (0, 0))]) (.row c cp 59 3 (B.l.map Stp.cs) :: H) rfl (by decide +kernel) (fun w h => Pick.sat (by iterate 60 (try (first | exact Pick.all | (apply Pick.take; (· (repeat (first | exact Out.here | apply Out.there)))) | apply Pick.drop))) h) ?_
    ((try (refine WE.calm 0 (by decide +kernel) rfl rfl (by decide +kernel) rfl (fun c h => by cases h) (by intro zm zF zle; skip; ((repeat (refine sp ?_; intros)); exact WQ.q1 rfl)) ?_)); (try (refine WE.calm 1 (by decide +kernel) rfl rfl (by decide +kernel) rfl (fun c h => by cases h) (by intro zm zF zle; skip; ((repeat (refine sp ?_; intros)); exact WQ.q1 rfl)) ?_)); (try (refine WE.calm 2 (by decide +kernel) rfl rfl (by decide +kernel) rfl (fun c h => by cases h) (by intro zm zF zle; skip; ((repeat (refine sp ?_; intros)); exact WQ.q1 rfl)) ?_)); (try (refine WE.calm 3 (by decide +kernel) rfl rfl (by decide +kernel) rfl (fun c h => by cases h) (by intro zm zF zle; skip; ((repeat (refine sp ?_; intros)); exact WQ.q1 rfl)) ?_)); (try (refine WE.calm 4 (by decide +kernel) rfl rfl (by decide +kernel) rfl (fun c h => by cases h) (by intro zm zF zle; skip; ((repeat (refine sp ?_; intros)); exact WQ.q1 rfl)) ?_)); (try (refine WE.calm 5 (by decide +kernel) rfl rfl (by decide +kernel) rfl (fun c h => by cases h) (by intro zm zF zle; skip; ((repeat (refine sp ?_; intros)); exact WQ.q1 rfl)) ?_)); (try (refine WE.calm 6 (by decide +kernel) rfl rfl (by decide +kernel) rfl (fun c h => by cases h) (by intro zm zF zle; skip; ((repeat (refine sp ?_; intros)); exact WQ.q1 rfl)) ?_)); (try (refine WE.calm 7 (by decide +kernel) rfl rfl (by decide +kernel) rfl (fun c h => by cases h) (by intro zm zF zle; skip; ((repeat (refine sp ?_; intros)); exact WQ.q1 rfl)) ?_)); (try (refine WE.calm 8 (by decide +kernel) rfl rfl (by decide +kernel) rfl (fun c h => by cases h) (by intro zm zF zle; skip; ((repeat (refine sp ?_; intros)); exact WQ.q1 rfl)) ?_)); (try (refine WE.calm 9 (by decide +kernel) rfl rfl (by decide +kernel) rfl (fun c h => by cases h) (by intro zm zF zle; skip; ((repeat (refine sp ?_; intros)); exact WQ.q1 rfl)) ?_)); (try (refine WE.calm 10 (by decide +kernel) rfl rfl (by decide +kernel) rfl (fun c h => by cases h) (by intro zm zF zle; skip; ((repeat (refine sp ?_; intros)); exact WQ.q1 rfl)) ?_)); (try (refine WE.calm 11 (by decide +kernel) rfl rfl (by decide +kernel) rfl (fun c h => by cases h) (by intro zm zF zle; skip; ((repeat (refine sp ?_; intros)); exact WQ.q1 rfl)) ?_)); (try (refine WE.calm 12 (by decide +kernel) rfl rfl (by decide +kernel) rfl (fun c h => by cases h) (by intro zm zF zle; skip; ((repeat (refine sp ?_; intros)); exact WQ.q1 rfl)) ?_)); (try (refine WE.calm 13 (by decide +kernel) rfl rfl (by decide +kernel) rfl (fun c h => by cases h) (by intro zm zF zle; skip; ((repeat (refine sp ?_; intros)); exact WQ.q1 rfl)) ?_)); (try (refine WE.calm 14 (by decide +kernel) rfl rfl (by decide +kernel) rfl (fun c h => by cases h) (by intro zm zF zle; skip; ((repeat (refine sp ?_; intros)); exact WQ.q1 rfl)) ?_)); (try (refine WE.calm 15 (by decide +kernel) rfl rfl (by decide +kernel) rfl (fun c h => by cases h) (by intro zm zF zle; skip; ((repeat (refine sp ?_; intros)); exact WQ.q1 rfl)) ?_)); (try (refine WE.calm 16 (by decide +kernel) rfl rfl (by decide +kernel) rfl (fun c h => by cases h) (by intro zm zF zle; skip; ((repeat (refine sp ?_; intros)); exact WQ.q1 rfl)) ?_)); (try (refine WE.calm 17 (by decide +kernel) rfl rfl (by decide +kernel) rfl (fun c h => by cases h) (by intro zm zF zle; skip; ((repeat (refine sp ?_; intros)); exact WQ.q1 rfl)) ?_)); (try (refine WE.calm 18 (by decide +kernel) rfl rfl (by decide +kernel) rfl (fun c h => by cases h) (by intro zm zF zle; skip; ((repeat (refine sp ?_; intros)); exact WQ.q1 rfl)) ?_)); (try (refine WE.calm 19 (by decide +kernel) rfl rfl (by decide +kernel) rfl (fun c h => by cases h) (by intro zm zF zle; skip; ((repeat (refine sp ?_; intros)); exact WQ.q1 rfl)) ?_)); (try (refine WE.calm 20 (by decide +kernel) rfl rfl (by decide +kernel) rfl (fun c h => by cases h) (by intro zm zF zle; skip; ((repeat (refine sp ?_; intros)); exact WQ.q1 rfl)) ?_)); (try (refine WE.calm 21 (by decide +kernel) rfl rfl (by decide +kernel) rfl (fun c h => by cases h) (by intro zm zF zle; skip; ((repeat (refine sp ?_; intros)); exact WQ.q1 rfl)) ?_)); (try (refine WE.calm 22 (by decide +kernel) rfl rfl (by decide +kernel) rfl (fun c h => by cases h) (by intro zm zF zle; skip; ((repeat (refine sp ?_; intros)); exact WQ.q1 rfl)) ?_)); (try (refine WE.calm 23 (by decide +kernel) rfl rfl (by decide +kernel) rfl (fun c h => by cases h) (by intro zm zF zle; skip; ((repeat (refine sp ?_; intros)); exact WQ.q1 rfl)) ?_)); (try (refine WE.calm 24 (by decide +kernel) rfl rfl (by decide +kernel) rfl (fun c h => by cases h) (by intro zm zF zle; skip; ((repeat (refine sp ?_; intros)); exact WQ.q1 rfl)) ?_)); (try (refine WE.calm 25 (by decide +kernel) rfl rfl (by decide +kernel) rfl (fun c h => by cases h) (by intro zm zF zle; skip; ((repeat (refine sp ?_; intros)); exact WQ.q1 rfl)) ?_)); (try (refine WE.calm 26 (by decide +kernel) rfl rfl (by decide +kernel) rfl (fun c h => by cases h) (by intro zm zF zle; skip; ((repeat (refine sp ?_; intros)); exact WQ.q1 rfl)) ?_)); (try (refine WE.calm 27 (by decide +kernel) rfl rfl (by decide +kernel) rfl (fun c h => by cases h) (by intro zm zF zle; skip; ((repeat (refine sp ?_; intros)); exact WQ.q1 rfl)) ?_)); (try (refine WE.calm 28 (by decide +kernel) rfl rfl (by decide +kernel) rfl (fun c h => by cases h) (by intro zm zF zle; skip; ((repeat (refine sp ?_; intros)); exact WQ.q1 rfl)) ?_)); (try (refine WE.calm 29 (by decide +kernel) rfl rfl (by decide +kernel) rfl (fun c h => by cases h) (by intro zm zF zle; skip; ((repeat (refine sp ?_; intros)); exact WQ.q1 rfl)) ?_)); (try (refine WE.calm 30 (by decide +kernel) rfl rfl (by decide +kernel) rfl (fun c h => by cases h) (by intro zm zF zle; skip; ((repeat (refine sp ?_; intros)); exact WQ.q1 rfl)) ?_)); (try (refine WE.calm 31 (by decide +kernel) rfl rfl (by decide +kernel) rfl (fun c h => by cases h) (by intro zm zF zle; skip; ((repeat (refine sp ?_; intros)); exact WQ.q1 rfl)) ?_)); (try (refine WE.calm 32 (by decide +kernel) rfl rfl (by decide +kernel) rfl (fun c h => by cases h) (by intro zm zF zle; skip; ((repeat (refine sp ?_; intros)); exact WQ.q1 rfl)) ?_)); (try (refine WE.calm 33 (by decide +kernel) rfl rfl (by decide +kernel) rfl (fun c h => by cases h) (by intro zm zF zle; skip; ((repeat (refine sp ?_; intros)); exact WQ.q1 rfl)) ?_)); (try (refine WE.calm 34 (by decide +kernel) rfl rfl (by decide +kernel) rfl (fun c h => by cases h) (by intro zm zF zle; skip; ((repeat (refine sp ?_; intros)); exact WQ.q1 rfl)) ?_)); (try (refine WE.calm 35 (by decide +kernel) rfl rfl (by decide +kernel) rfl (fun c h => by cases h) (by intro zm zF zle; skip; ((repeat (refine sp ?_; intros)); exact WQ.q1 rfl)) ?_)); (try (refine WE.calm 36 (by decide +kernel) rfl rfl (by decide +kernel) rfl (fun c h => by cases h) (by intro zm zF zle; skip; ((repeat (refine sp ?_; intros)); exact WQ.q1 rfl)) ?_)); (try (refine WE.calm 37 (by decide +kernel) rfl rfl (by decide +kernel) rfl (fun c h => by cases h) (by intro zm zF zle; skip; ((repeat (refine sp ?_; intros)); exact WQ.q1 rfl)) ?_)); (try (refine WE.calm 38 (by decide +kernel) rfl rfl (by decide +kernel) rfl (fun c h => by cases h) (by intro zm zF zle; skip; ((repeat (refine sp ?_; intros)); exact WQ.q1 rfl)) ?_)); (try (refine WE.calm 39 (by decide +kernel) rfl rfl (by decide +kernel) rfl (fun c h => by cases h) (by intro zm zF zle; skip; ((repeat (refine sp ?_; intros)); exact WQ.q1 rfl)) ?_)); (try (refine WE.calm 40 (by decide +kernel) rfl rfl (by decide +kernel) rfl (fun c h => by cases h) (by intro zm zF zle; skip; ((repeat (refine sp ?_; intros)); exact WQ.q1 rfl)) ?_)); (try (refine WE.calm 41 (by decide +kernel) rfl rfl (by decide +kernel) rfl (fun c h => by cases h) (by intro zm zF zle; skip; ((repeat (refine sp ?_; intros)); exact WQ.q1 rfl)) ?_)))
    refine WE.act1 10 (by decide +kernel) rfl rfl (fun c h => by cases h) ?_
    (refine st ?_; intros; rename_i q0)
    refine WQ.acted (B := []) (U := .blk q0 (.cells [.int .i64 0, str B.d, str []].toArray 59 (0, 0)) :: .row c cp 59 3 (B.l.map Stp.cs) :: H) rfl (Mem.le.refl _) (fun w h => Pick.sat (by iterate 60 (try (first | exact Pick.all | (apply Pick.take; (· (repeat (first | exact Out.here | apply Out.there)))) | apply Pick.drop))) h) ?_
    refine WE.act1 11 (by decide +kernel) rfl rfl (fun c h => by cases h) ?_
    (refine st ?_; intros; rename_i c2 cp2)
    refine WQ.acted (B := []) (U := .row c2 cp2 59 3 (B.l.map Stp.cs ++ [[.int .i64 0, str B.d, str []]]) :: H) rfl (Mem.le.refl _) (fun w h => Pick.sat (by iterate 60 (try (first | exact Pick.all | (apply Pick.take; (· (repeat (first | exact Out.here | apply Out.there)))) | apply Pick.drop))) h) ?_
    ((try (refine WE.calm 0 (by decide +kernel) rfl rfl (by decide +kernel) rfl (fun c h => by cases h) (by intro zm zF zle; skip; ((repeat (refine sp ?_; intros)); exact WQ.q1 rfl)) ?_)); (try (refine WE.calm 1 (by decide +kernel) rfl rfl (by decide +kernel) rfl (fun c h => by cases h) (by intro zm zF zle; skip; ((repeat (refine sp ?_; intros)); exact WQ.q1 rfl)) ?_)); (try (refine WE.calm 2 (by decide +kernel) rfl rfl (by decide +kernel) rfl (fun c h => by cases h) (by intro zm zF zle; skip; ((repeat (refine sp ?_; intros)); exact WQ.q1 rfl)) ?_)); (try (refine WE.calm 3 (by decide +kernel) rfl rfl (by decide +kernel) rfl (fun c h => by cases h) (by intro zm zF zle; skip; ((repeat (refine sp ?_; intros)); exact WQ.q1 rfl)) ?_)); (try (refine WE.calm 4 (by decide +kernel) rfl rfl (by decide +kernel) rfl (fun c h => by cases h) (by intro zm zF zle; skip; ((repeat (refine sp ?_; intros)); exact WQ.q1 rfl)) ?_)); (try (refine WE.calm 5 (by decide +kernel) rfl rfl (by decide +kernel) rfl (fun c h => by cases h) (by intro zm zF zle; skip; ((repeat (refine sp ?_; intros)); exact WQ.q1 rfl)) ?_)); (try (refine WE.calm 6 (by decide +kernel) rfl rfl (by decide +kernel) rfl (fun c h => by cases h) (by intro zm zF zle; skip; ((repeat (refine sp ?_; intros)); exact WQ.q1 rfl)) ?_)); (try (refine WE.calm 7 (by decide +kernel) rfl rfl (by decide +kernel) rfl (fun c h => by cases h) (by intro zm zF zle; skip; ((repeat (refine sp ?_; intros)); exact WQ.q1 rfl)) ?_)); (try (refine WE.calm 8 (by decide +kernel) rfl rfl (by decide +kernel) rfl (fun c h => by cases h) (by intro zm zF zle; skip; ((repeat (refine sp ?_; intros)); exact WQ.q1 rfl)) ?_)); (try (refine WE.calm 9 (by decide +kernel) rfl rfl (by decide +kernel) rfl (fun c h => by cases h) (by intro zm zF zle; skip; ((repeat (refine sp ?_; intros)); exact WQ.q1 rfl)) ?_)); (try (refine WE.calm 10 (by decide +kernel) rfl rfl (by decide +kernel) rfl (fun c h => by cases h) (by intro zm zF zle; skip; ((repeat (refine sp ?_; intros)); exact WQ.q1 rfl)) ?_)); (try (refine WE.calm 11 (by decide +kernel) rfl rfl (by decide +kernel) rfl (fun c h => by cases h) (by intro zm zF zle; skip; ((repeat (refine sp ?_; intros)); exact WQ.q1 rfl)) ?_)); (try (refine WE.calm 12 (by decide +kernel) rfl rfl (by decide +kernel) rfl (fun c h => by cases h) (by intro zm zF zle; skip; ((repeat (refine sp ?_; intros)); exact WQ.q1 rfl)) ?_)); (try (refine WE.calm 13 (by decide +kernel) rfl rfl (by decide +kernel) rfl (fun c h => by cases h) (by intro zm zF zle; skip; ((repeat (refine sp ?_; intros)); exact WQ.q1 rfl)) ?_)); (try (refine WE.calm 14 (by decide +kernel) rfl rfl (by decide +kernel) rfl (fun c h => by cases h) (by intro zm zF zle; skip; ((repeat (refine sp ?_; intros)); exact WQ.q1 rfl)) ?_)); (try (refine WE.calm 15 (by decide +kernel) rfl rfl (by decide +kernel) rfl (fun c h => by cases h) (by intro zm zF zle; skip; ((repeat (refine sp ?_; intros)); exact WQ.q1 rfl)) ?_)); (try (refine WE.calm 16 (by decide +kernel) rfl rfl (by decide +kernel) rfl (fun c h => by cases h) (by intro zm zF zle; skip; ((repeat (refine sp ?_; intros)); exact WQ.q1 rfl)) ?_)); (try (refine WE.calm 17 (by decide +kernel) rfl rfl (by decide +kernel) rfl (fun c h => by cases h) (by intro zm zF zle; skip; ((repeat (refine sp ?_; intros)); exact WQ.q1 rfl)) ?_)); (try (refine WE.calm 18 (by decide +kernel) rfl rfl (by decide +kernel) rfl (fun c h => by cases h) (by intro zm zF zle; skip; ((repeat (refine sp ?_; intros)); exact WQ.q1 rfl)) ?_)); (try (refine WE.calm 19 (by decide +kernel) rfl rfl (by decide +kernel) rfl (fun c h => by cases h) (by intro zm zF zle; skip; ((repeat (refine sp ?_; intros)); exact WQ.q1 rfl)) ?_)); (try (refine WE.calm 20 (by decide +kernel) rfl rfl (by decide +kernel) rfl (fun c h => by cases h) (by intro zm zF zle; skip; ((repeat (refine sp ?_; intros)); exact WQ.q1 rfl)) ?_)); (try (refine WE.calm 21 (by decide +kernel) rfl rfl (by decide +kernel) rfl (fun c h => by cases h) (by intro zm zF zle; skip; ((repeat (refine sp ?_; intros)); exact WQ.q1 rfl)) ?_)); (try (refine WE.calm 22 (by decide +kernel) rfl rfl (by decide +kernel) rfl (fun c h => by cases h) (by intro zm zF zle; skip; ((repeat (refine sp ?_; intros)); exact WQ.q1 rfl)) ?_)); (try (refine WE.calm 23 (by decide +kernel) rfl rfl (by decide +kernel) rfl (fun c h => by cases h) (by intro zm zF zle; skip; ((repeat (refine sp ?_; intros)); exact WQ.q1 rfl)) ?_)); (try (refine WE.calm 24 (by decide +kernel) rfl rfl (by decide +kernel) rfl (fun c h => by cases h) (by intro zm zF zle; skip; ((repeat (refine sp ?_; intros)); exact WQ.q1 rfl)) ?_)); (try (refine WE.calm 25 (by decide +kernel) rfl rfl (by decide +kernel) rfl (fun c h => by cases h) (by intro zm zF zle; skip; ((repeat (refine sp ?_; intros)); exact WQ.q1 rfl)) ?_)); (try (refine WE.calm 26 (by decide +kernel) rfl rfl (by decide +kernel) rfl (fun c h => by cases h) (by intro zm zF zle; skip; ((repeat (refine sp ?_; intros)); exact WQ.q1 rfl)) ?_)); (try (refine WE.calm 27 (by decide +kernel) rfl rfl (by decide +kernel) rfl (fun c h => by cases h) (by intro zm zF zle; skip; ((repeat (refine sp ?_; intros)); exact WQ.q1 rfl)) ?_)); (try (refine WE.calm 28 (by decide +kernel) rfl rfl (by decide +kernel) rfl (fun c h => by cases h) (by intro zm zF zle; skip; ((repeat (refine sp ?_; intros)); exact WQ.q1 rfl)) ?_)); (try (refine WE.calm 29 (by decide +kernel) rfl rfl (by decide +kernel) rfl (fun c h => by cases h) (by intro zm zF zle; skip; ((repeat (refine sp ?_; intros)); exact WQ.q1 rfl)) ?_)); (try (refine WE.calm 30 (by decide +kernel) rfl rfl (by decide +kernel) rfl (fun c h => by cases h) (by intro zm zF zle; skip; ((repeat (refine sp ?_; intros)); exact WQ.q1 rfl)) ?_)); (try (refine WE.calm 31 (by decide +kernel) rfl rfl (by decide +kernel) rfl (fun c h => by cases h) (by intro zm zF zle; skip; ((repeat (refine sp ?_; intros)); exact WQ.q1 rfl)) ?_)); (try (refine WE.calm 32 (by decide +kernel) rfl rfl (by decide +kernel) rfl (fun c h => by cases h) (by intro zm zF zle; skip; ((repeat (refine sp ?_; intros)); exact WQ.q1 rfl)) ?_)); (try (refine WE.calm 33 (by decide +kernel) rfl rfl (by decide +kernel) rfl (fun c h => by cases h) (by intro zm zF zle; skip; ((repeat (refine sp ?_; intros)); exact WQ.q1 rfl)) ?_)); (try (refine WE.calm 34 (by decide +kernel) rfl rfl (by decide +kernel) rfl (fun c h => by cases h) (by intro zm zF zle; skip; ((repeat (refine sp ?_; intros)); exact WQ.q1 rfl)) ?_)); (try (refine WE.calm 35 (by decide +kernel) rfl rfl (by decide +kernel) rfl (fun c h => by cases h) (by intro zm zF zle; skip; ((repeat (refine sp ?_; intros)); exact WQ.q1 rfl)) ?_)); (try (refine WE.calm 36 (by decide +kernel) rfl rfl (by decide +kernel) rfl (fun c h => by cases h) (by intro zm zF zle; skip; ((repeat (refine sp ?_; intros)); exact WQ.q1 rfl)) ?_)); (try (refine WE.calm 37 (by decide +kernel) rfl rfl (by decide +kernel) rfl (fun c h => by cases h) (by intro zm zF zle; skip; ((repeat (refine sp ?_; intros)); exact WQ.q1 rfl)) ?_)); (try (refine WE.calm 38 (by decide +kernel) rfl rfl (by decide +kernel) rfl (fun c h => by cases h) (by intro zm zF zle; skip; ((repeat (refine sp ?_; intros)); exact WQ.q1 rfl)) ?_)); (try (refine WE.calm 39 (by decide +kernel) rfl rfl (by decide +kernel) rfl (fun c h => by cases h) (by intro zm zF zle; skip; ((repeat (refine sp ?_; intros)); exact WQ.q1 rfl)) ?_)); (try (refine WE.calm 40 (by decide +kernel) rfl rfl (by decide +kernel) rfl (fun c h => by cases h) (by intro zm zF zle; skip; ((repeat (refine sp ?_; intros)); exact WQ.q1 rfl)) ?_)); (try (refine WE.calm 41 (by decide +kernel) rfl rfl (by decide +kernel) rfl (fun c h => by cases h) (by intro zm zF zle; skip; ((repeat (refine sp ?_; intros)); exact WQ.q1 rfl)) ?_)))
    refine WE.done (by decide +kernel) ?_
    (try (refine st ?_; intros))
    rw [hml, hp]
    have e : B.close.l = B.l ++ [⟨0, B.d, []⟩] := by simp [Bld.close, hp, hd]
    exact q_finNorm0 (H0 := .blk b (.cells [.slice c2 (B.l.length + 1) cp2, str [], str []].toArray 98 (0, 0)) :: .row c2 cp2 59 3 (B.l.map Stp.cs ++ [[.int .i64 0, str B.d, str []]]) :: H) ⟨rfl, rfl, c2, cp2, by rw [e]; simp [Stp.cs]⟩ (hd := (fun w h => Pick.sat (by iterate 60 (try (first | exact Pick.all | (apply Pick.take; (· (repeat (first | exact Out.here | apply Out.there)))) | apply Pick.drop))) h))
  · (try (refine st ?_; intros))
    refine WC.drawE 14 ([.blk b (.cells [.slice c B.l.length cp, str B.p, str B.d].toArray 98 (0, 0))]) (.row c cp 59 3 (B.l.map Stp.cs) :: H) rfl (by decide +kernel) (fun w h => Pick.sat (by iterate 60 (try (first | exact Pick.all | (apply Pick.take; (· (repeat (first | exact Out.here | apply Out.there)))) | apply Pick.drop))) h) ?_
    ((try (refine WE.calm 0 (by decide +kernel) rfl rfl (by decide +kernel) rfl (fun c h => by cases h) (by intro zm zF zle; skip; ((repeat (refine sp ?_; intros)); exact WQ.q1 rfl)) ?_)); (try (refine WE.calm 1 (by decide +kernel) rfl rfl (by decide +kernel) rfl (fun c h => by cases h) (by intro zm zF zle; skip; ((repeat (refine sp ?_; intros)); exact WQ.q1 rfl)) ?_)); (try (refine WE.calm 2 (by decide +kernel) rfl rfl (by decide +kernel) rfl (fun c h => by cases h) (by intro zm zF zle; skip; ((repeat (refine sp ?_; intros)); exact WQ.q1 rfl)) ?_)); (try (refine WE.calm 3 (by decide +kernel) rfl rfl (by decide +kernel) rfl (fun c h => by cases h) (by intro zm zF zle; skip; ((repeat (refine sp ?_; intros)); exact WQ.q1 rfl)) ?_)); (try (refine WE.calm 4 (by decide +kernel) rfl rfl (by decide +kernel) rfl (fun c h => by cases h) (by intro zm zF zle; skip; ((repeat (refine sp ?_; intros)); exact WQ.q1 rfl)) ?_)); (try (refine WE.calm 5 (by decide +kernel) rfl rfl (by decide +kernel) rfl (fun c h => by cases h) (by intro zm zF zle; skip; ((repeat (refine sp ?_; intros)); exact WQ.q1 rfl)) ?_)); (try (refine WE.calm 6 (by decide +kernel) rfl rfl (by decide +kernel) rfl (fun c h => by cases h) (by intro zm zF zle; skip; ((repeat (refine sp ?_; intros)); exact WQ.q1 rfl)) ?_)); (try (refine WE.calm 7 (by decide +kernel) rfl rfl (by decide +kernel) rfl (fun c h => by cases h) (by intro zm zF zle; skip; ((repeat (refine sp ?_; intros)); exact WQ.q1 rfl)) ?_)); (try (refine WE.calm 8 (by decide +kernel) rfl rfl (by decide +kernel) rfl (fun c h => by cases h) (by intro zm zF zle; skip; ((repeat (refine sp ?_; intros)); exact WQ.q1 rfl)) ?_)); (try (refine WE.calm 9 (by decide +kernel) rfl rfl (by decide +kernel) rfl (fun c h => by cases h) (by intro zm zF zle; skip; ((repeat (refine sp ?_; intros)); exact WQ.q1 rfl)) ?_)); (try (refine WE.calm 10 (by decide +kernel) rfl rfl (by decide +kernel) rfl (fun c h => by cases h) (by intro zm zF zle; skip; ((repeat (refine sp ?_; intros)); exact WQ.q1 rfl)) ?_)); (try (refine WE.calm 11 (by decide +kernel) rfl rfl (by decide +kernel) rfl (fun c h => by cases h) (by intro zm zF zle; skip; ((repeat (refine sp ?_; intros)); exact WQ.q1 rfl)) ?_)); (try (refine WE.calm 12 (by decide +kernel) rfl rfl (by decide +kernel) rfl (fun c h => by cases h) (by intro zm zF zle; skip; ((repeat (refine sp ?_; intros)); exact WQ.q1 rfl)) ?_)); (try (refine WE.calm 13 (by decide +kernel) rfl rfl (by decide +kernel) rfl (fun c h => by cases h) (by intro zm zF zle; skip; ((repeat (refine sp ?_; intros)); exact WQ.q1 rfl)) ?_)); (try (refine WE.calm 14 (by decide +kernel) rfl rfl (by decide +kernel) rfl (fun c h => by cases h) (by intro zm zF zle; skip; ((repeat (refine sp ?_; intros)); exact WQ.q1 rfl)) ?_)); (try (refine WE.calm 15 (by decide +kernel) rfl rfl (by decide +kernel) rfl (fun c h => by cases h) (by intro zm zF zle; skip; ((repeat (refine sp ?_; intros)); exact WQ.q1 rfl)) ?_)); (try (refine WE.calm 16 (by decide +kernel) rfl rfl (by decide +kernel) rfl (fun c h => by cases h) (by intro zm zF zle; skip; ((repeat (refine sp ?_; intros)); exact WQ.q1 rfl)) ?_)); (try (refine WE.calm 17 (by decide +kernel) rfl rfl (by decide +kernel) rfl (fun c h => by cases h) (by intro zm zF zle; skip; ((repeat (refine sp ?_; intros)); exact WQ.q1 rfl)) ?_)); (try (refine WE.calm 18 (by decide +kernel) rfl rfl (by decide +kernel) rfl (fun c h => by cases h) (by intro zm zF zle; skip; ((repeat (refine sp ?_; intros)); exact WQ.q1 rfl)) ?_)); (try (refine WE.calm 19 (by decide +kernel) rfl rfl (by decide +kernel) rfl (fun c h => by cases h) (by intro zm zF zle; skip; ((repeat (refine sp ?_; intros)); exact WQ.q1 rfl)) ?_)); (try (refine WE.calm 20 (by decide +kernel) rfl rfl (by decide +kernel) rfl (fun c h => by cases h) (by intro zm zF zle; skip; ((repeat (refine sp ?_; intros)); exact WQ.q1 rfl)) ?_)); (try (refine WE.calm 21 (by decide +kernel) rfl rfl (by decide +kernel) rfl (fun c h => by cases h) (by intro zm zF zle; skip; ((repeat (refine sp ?_; intros)); exact WQ.q1 rfl)) ?_)); (try (refine WE.calm 22 (by decide +kernel) rfl rfl (by decide +kernel) rfl (fun c h => by cases h) (by intro zm zF zle; skip; ((repeat (refine sp ?_; intros)); exact WQ.q1 rfl)) ?_)); (try (refine WE.calm 23 (by decide +kernel) rfl rfl (by decide +kernel) rfl (fun c h => by cases h) (by intro zm zF zle; skip; ((repeat (refine sp ?_; intros)); exact WQ.q1 rfl)) ?_)); (try (refine WE.calm 24 (by decide +kernel) rfl rfl (by decide +kernel) rfl (fun c h => by cases h) (by intro zm zF zle; skip; ((repeat (refine sp ?_; intros)); exact WQ.q1 rfl)) ?_)); (try (refine WE.calm 25 (by decide +kernel) rfl rfl (by decide +kernel) rfl (fun c h => by cases h) (by intro zm zF zle; skip; ((repeat (refine sp ?_; intros)); exact WQ.q1 rfl)) ?_)); (try (refine WE.calm 26 (by decide +kernel) rfl rfl (by decide +kernel) rfl (fun c h => by cases h) (by intro zm zF zle; skip; ((repeat (refine sp ?_; intros)); exact WQ.q1 rfl)) ?_)); (try (refine WE.calm 27 (by decide +kernel) rfl rfl (by decide +kernel) rfl (fun c h => by cases h) (by intro zm zF zle; skip; ((repeat (refine sp ?_; intros)); exact WQ.q1 rfl)) ?_)); (try (refine WE.calm 28 (by decide +kernel) rfl rfl (by decide +kernel) rfl (fun c h => by cases h) (by intro zm zF zle; skip; ((repeat (refine sp ?_; intros)); exact WQ.q1 rfl)) ?_)); (try (refine WE.calm 29 (by decide +kernel) rfl rfl (by decide +kernel) rfl (fun c h => by cases h) (by intro zm zF zle; skip; ((repeat (refine sp ?_; intros)); exact WQ.q1 rfl)) ?_)); (try (refine WE.calm 30 (by decide +kernel) rfl rfl (by decide +kernel) rfl (fun c h => by cases h) (by intro zm zF zle; skip; ((repeat (refine sp ?_; intros)); exact WQ.q1 rfl)) ?_)); (try (refine WE.calm 31 (by decide +kernel) rfl rfl (by decide +kernel) rfl (fun c h => by cases h) (by intro zm zF zle; skip; ((repeat (refine sp ?_; intros)); exact WQ.q1 rfl)) ?_)); (try (refine WE.calm 32 (by decide +kernel) rfl rfl (by decide +kernel) rfl (fun c h => by cases h) (by intro zm zF zle; skip; ((repeat (refine sp ?_; intros)); exact WQ.q1 rfl)) ?_)); (try (refine WE.calm 33 (by decide +kernel) rfl rfl (by decide +kernel) rfl (fun c h => by cases h) (by intro zm zF zle; skip; ((repeat (refine sp ?_; intros)); exact WQ.q1 rfl)) ?_)); (try (refine WE.calm 34 (by decide +kernel) rfl rfl (by decide +kernel) rfl (fun c h => by cases h) (by intro zm zF zle; skip; ((repeat (refine sp ?_; intros)); exact WQ.q1 rfl)) ?_)); (try (refine WE.calm 35 (by decide +kernel) rfl rfl (by decide +kernel) rfl (fun c h => by cases h) (by intro zm zF zle; skip; ((repeat (refine sp ?_; intros)); exact WQ.q1 rfl)) ?_)); (try (refine WE.calm 36 (by decide +kernel) rfl rfl (by decide +kernel) rfl (fun c h => by cases h) (by intro zm zF zle; skip; ((repeat (refine sp ?_; intros)); exact WQ.q1 rfl)) ?_)); (try (refine WE.calm 37 (by decide +kernel) rfl rfl (by decide +kernel) rfl (fun c h => by cases h) (by intro zm zF zle; skip; ((repeat (refine sp ?_; intros)); exact WQ.q1 rfl)) ?_)); (try (refine WE.calm 38 (by decide +kernel) rfl rfl (by decide +kernel) rfl (fun c h => by cases h) (by intro zm zF zle; skip; ((repeat (refine sp ?_; intros)); exact WQ.q1 rfl)) ?_)); (try (refine WE.calm 39 (by decide +kernel) rfl rfl (by decide +kernel) rfl (fun c h => by cases h) (by intro zm zF zle; skip; ((repeat (refine sp ?_; intros)); exact WQ.q1 rfl)) ?_)); (try (refine WE.calm 40 (by decide +kernel) rfl rfl (by decide +kernel) rfl (fun c h => by cases h) (by intro zm zF zle; skip; ((repeat (refine sp ?_; intros)); exact WQ.q1 rfl)) ?_)); (try (refine WE.calm 41 (by decide +kernel) rfl rfl (by decide +kernel) rfl (fun c h => by cases h) (by intro zm zF zle; skip; ((repeat (refine sp ?_; intros)); exact WQ.q1 rfl)) ?_)))
    refine WE.act1 10 (by decide +kernel) rfl rfl (fun c h => by cases h) ?_
    (refine st ?_; intros; rename_i q0)
    refine WQ.acted (B := []) (U := .blk q0 (.cells [.int .i64 0, str [], str B.p].toArray 59 (0, 0)) :: .row c cp 59 3 (B.l.map Stp.cs) :: H) rfl (Mem.le.refl _) (fun w h => Pick.sat (by iterate 60 (try (first | exact Pick.all | (apply Pick.take; (· (repeat (first | exact Out.here | apply Out.there)))) | apply Pick.drop))) h) ?_
    refine WE.act1 11 (by decide +kernel) rfl rfl (fun c h => by cases h) ?_
    (refine st ?_; intros; rename_i c2 cp2)
    refine WQ.acted (B := []) (U := .row c2 cp2 59 3 (B.l.map Stp.cs ++ [[.int .i64 0, str [], str B.p]]) :: H) rfl (Mem.le.refl _) (fun w h => Pick.sat (by iterate 60 (try (first | exact Pick.all | (apply Pick.take; (· (repeat (first | exact Out.here | apply Out.there)))) | apply Pick.drop))) h) ?_
    ((try (refine WE.calm 0 (by decide +kernel) rfl rfl (by decide +kernel) rfl (fun c h => by cases h) (by intro zm zF zle; skip; ((repeat (refine sp ?_; intros)); exact WQ.q1 rfl)) ?_)); (try (refine WE.calm 1 (by decide +kernel) rfl rfl (by decide +kernel) rfl (fun c h => by cases h) (by intro zm zF zle; skip; ((repeat (refine sp ?_; intros)); exact WQ.q1 rfl)) ?_)); (try (refine WE.calm 2 (by decide +kernel) rfl rfl (by decide +kernel) rfl (fun c h => by cases h) (by intro zm zF zle; skip; ((repeat (refine sp ?_; intros)); exact WQ.q1 rfl)) ?_)); (try (refine WE.calm 3 (by decide +kernel) rfl rfl (by decide +kernel) rfl (fun c h => by cases h) (by intro zm zF zle; skip; ((repeat (refine sp ?_; intros)); exact WQ.q1 rfl)) ?_)); (try (refine WE.calm 4 (by decide +kernel) rfl rfl (by decide +kernel) rfl (fun c h => by cases h) (by intro zm zF zle; skip; ((repeat (refine sp ?_; intros)); exact WQ.q1 rfl)) ?_)); (try (refine WE.calm 5 (by decide +kernel) rfl rfl (by decide +kernel) rfl (fun c h => by cases h) (by intro zm zF zle; skip; ((repeat (refine sp ?_; intros)); exact WQ.q1 rfl)) ?_)); (try (refine WE.calm 6 (by decide +kernel) rfl rfl (by decide +kernel) rfl (fun c h => by cases h) (by intro zm zF zle; skip; ((repeat (refine sp ?_; intros)); exact WQ.q1 rfl)) ?_)); (try (refine WE.calm 7 (by decide +kernel) rfl rfl (by decide +kernel) rfl (fun c h => by cases h) (by intro zm zF zle; skip; ((repeat (refine sp ?_; intros)); exact WQ.q1 rfl)) ?_)); (try (refine WE.calm 8 (by decide +kernel) rfl rfl (by decide +kernel) rfl (fun c h => by cases h) (by intro zm zF zle; skip; ((repeat (refine sp ?_; intros)); exact WQ.q1 rfl)) ?_)); (try (refine WE.calm 9 (by decide +kernel) rfl rfl (by decide +kernel) rfl (fun c h => by cases h) (by intro zm zF zle; skip; ((repeat (refine sp ?_; intros)); exact WQ.q1 rfl)) ?_)); (try (refine WE.calm 10 (by decide +kernel) rfl rfl (by decide +kernel) rfl (fun c h => by cases h) (by intro zm zF zle; skip; ((repeat (refine sp ?_; intros)); exact WQ.q1 rfl)) ?_)); (try (refine WE.calm 11 (by decide +kernel) rfl rfl (by decide +kernel) rfl (fun c h => by cases h) (by intro zm zF zle; skip; ((repeat (refine sp ?_; intros)); exact WQ.q1 rfl)) ?_)); (try (refine WE.calm 12 (by decide +kernel) rfl rfl (by decide +kernel) rfl (fun c h => by cases h) (by intro zm zF zle; skip; ((repeat (refine sp ?_; intros)); exact WQ.q1 rfl)) ?_)); (try (refine WE.calm 13 (by decide +kernel) rfl rfl (by decide +kernel) rfl (fun c h => by cases h) (by intro zm zF zle; skip; ((repeat (refine sp ?_; intros)); exact WQ.q1 rfl)) ?_)); (try (refine WE.calm 14 (by decide +kernel) rfl rfl (by decide +kernel) rfl (fun c h => by cases h) (by intro zm zF zle; skip; ((repeat (refine sp ?_; intros)); exact WQ.q1 rfl)) ?_)); (try (refine WE.calm 15 (by decide +kernel) rfl rfl (by decide +kernel) rfl (fun c h => by cases h) (by intro zm zF zle; skip; ((repeat (refine sp ?_; intros)); exact WQ.q1 rfl)) ?_)); (try (refine WE.calm 16 (by decide +kernel) rfl rfl (by decide +kernel) rfl (fun c h => by cases h) (by intro zm zF zle; skip; ((repeat (refine sp ?_; intros)); exact WQ.q1 rfl)) ?_)); (try (refine WE.calm 17 (by decide +kernel) rfl rfl (by decide +kernel) rfl (fun c h => by cases h) (by intro zm zF zle; skip; ((repeat (refine sp ?_; intros)); exact WQ.q1 rfl)) ?_)); (try (refine WE.calm 18 (by decide +kernel) rfl rfl (by decide +kernel) rfl (fun c h => by cases h) (by intro zm zF zle; skip; ((repeat (refine sp ?_; intros)); exact WQ.q1 rfl)) ?_)); (try (refine WE.calm 19 (by decide +kernel) rfl rfl (by decide +kernel) rfl (fun c h => by cases h) (by intro zm zF zle; skip; ((repeat (refine sp ?_; intros)); exact WQ.q1 rfl)) ?_)); (try (refine WE.calm 20 (by decide +kernel) rfl rfl (by decide +kernel) rfl (fun c h => by cases h) (by intro zm zF zle; skip; ((repeat (refine sp ?_; intros)); exact WQ.q1 rfl)) ?_)); (try (refine WE.calm 21 (by decide +kernel) rfl rfl (by decide +kernel) rfl (fun c h => by cases h) (by intro zm zF zle; skip; ((repeat (refine sp ?_; intros)); exact WQ.q1 rfl)) ?_)); (try (refine WE.calm 22 (by decide +kernel) rfl rfl (by decide +kernel) rfl (fun c h => by cases h) (by intro zm zF zle; skip; ((repeat (refine sp ?_; intros)); exact WQ.q1 rfl)) ?_)); (try (refine WE.calm 23 (by decide +kernel) rfl rfl (by decide +kernel) rfl (fun c h => by cases h) (by intro zm zF zle; skip; ((repeat (refine sp ?_; intros)); exact WQ.q1 rfl)) ?_)); (try (refine WE.calm 24 (by decide +kernel) rfl rfl (by decide +kernel) rfl (fun c h => by cases h) (by intro zm zF zle; skip; ((repeat (refine sp ?_; intros)); exact WQ.q1 rfl)) ?_)); (try (refine WE.calm 25 (by decide +kernel) rfl rfl (by decide +kernel) rfl (fun c h => by cases h) (by intro zm zF zle; skip; ((repeat (refine sp ?_; intros)); exact WQ.q1 rfl)) ?_)); (try (refine WE.calm 26 (by decide +kernel) rfl rfl (by decide +kernel) rfl (fun c h => by cases h) (by intro zm zF zle; skip; ((repeat (refine sp ?_; intros)); exact WQ.q1 rfl)) ?_)); (try (refine WE.calm 27 (by decide +kernel) rfl rfl (by decide +kernel) rfl (fun c h => by cases h) (by intro zm zF zle; skip; ((repeat (refine sp ?_; intros)); exact WQ.q1 rfl)) ?_)); (try (refine WE.calm 28 (by decide +kernel) rfl rfl (by decide +kernel) rfl (fun c h => by cases h) (by intro zm zF zle; skip; ((repeat (refine sp ?_; intros)); exact WQ.q1 rfl)) ?_)); (try (refine WE.calm 29 (by decide +kernel) rfl rfl (by decide +kernel) rfl (fun c h => by cases h) (by intro zm zF zle; skip; ((repeat (refine sp ?_; intros)); exact WQ.q1 rfl)) ?_)); (try (refine WE.calm 30 (by decide +kernel) rfl rfl (by decide +kernel) rfl (fun c h => by cases h) (by intro zm zF zle; skip; ((repeat (refine sp ?_; intros)); exact WQ.q1 rfl)) ?_)); (try (refine WE.calm 31 (by decide +kernel) rfl rfl (by decide +kernel) rfl (fun c h => by cases h) (by intro zm zF zle; skip; ((repeat (refine sp ?_; intros)); exact WQ.q1 rfl)) ?_)); (try (refine WE.calm 32 (by decide +kernel) rfl rfl (by decide +kernel) rfl (fun c h => by cases h) (by intro zm zF zle; skip; ((repeat (refine sp ?_; intros)); exact WQ.q1 rfl)) ?_)); (try (refine WE.calm 33 (by decide +kernel) rfl rfl (by decide +kernel) rfl (fun c h => by cases h) (by intro zm zF zle; skip; ((repeat (refine sp ?_; intros)); exact WQ.q1 rfl)) ?_)); (try (refine WE.calm 34 (by decide +kernel) rfl rfl (by decide +kernel) rfl (fun c h => by cases h) (by intro zm zF zle; skip; ((repeat (refine sp ?_; intros)); exact WQ.q1 rfl)) ?_)); (try (refine WE.calm 35 (by decide +kernel) rfl rfl (by decide +kernel) rfl (fun c h => by cases h) (by intro zm zF zle; skip; ((repeat (refine sp ?_; intros)); exact WQ.q1 rfl)) ?_)); (try (refine WE.calm 36 (by decide +kernel) rfl rfl (by decide +kernel) rfl (fun c h => by cases h) (by intro zm zF zle; skip; ((repeat (refine sp ?_; intros)); exact WQ.q1 rfl)) ?_)); (try (refine WE.calm 37 (by decide +kernel) rfl rfl (by decide +kernel) rfl (fun c h => by cases h) (by intro zm zF zle; skip; ((repeat (refine sp ?_; intros)); exact WQ.q1 rfl)) ?_)); (try (refine WE.calm 38 (by decide +kernel) rfl rfl (by decide +kernel) rfl (fun c h => by cases h) (by intro zm zF zle; skip; ((repeat (refine sp ?_; intros)); exact WQ.q1 rfl)) ?_)); (try (refine WE.calm 39 (by decide +kernel) rfl rfl (by decide +kernel) rfl (fun c h => by cases h) (by intro zm zF zle; skip; ((repeat (refine sp ?_; intros)); exact WQ.q1 rfl)) ?_)); (try (refine WE.calm 40 (by decide +kernel) rfl rfl (by decide +kernel) rfl (fun c h => by cases h) (by intro zm zF zle; skip; ((repeat (refine sp ?_; intros)); exact WQ.q1 rfl)) ?_)); (try (refine WE.calm 41 (by decide +kernel) rfl rfl (by decide +kernel) rfl (fun c h => by cases h) (by intro zm zF zle; skip; ((repeat (refine sp ?_; intros)); exact WQ.q1 rfl)) ?_)))
    refine WE.done (by decide +kernel) ?_
    (try (refine st ?_; intros))
    rw [hml, hd]
    have e : B.close.l = B.l ++ [⟨0, [], B.p⟩] := by simp [Bld.close, hp, hd]
    exact q_finNorm0 (H0 := .blk b (.cells [.slice c2 (B.l.length + 1) cp2, str [], str []].toArray 98 (0, 0)) :: .row c2 cp2 59 3 (B.l.map Stp.cs ++ [[.int .i64 0, str [], str B.p]]) :: H) ⟨rfl, rfl, c2, cp2, by rw [e]; simp [Stp.cs]⟩ (hd := (fun w h => Pick.sat (by iterate 60 (try (first | exact Pick.all | (apply Pick.take; (· (repeat (first | exact Out.here | apply Out.there)))) | apply Pick.drop))) h))
  · have hml1 : (B.l.map Stp.cs ++ [[.int .i64 0, str [], str B.p]]).length = B.l.length + 1 := by simp
    (try (refine st ?_; intros))
    refine WC.drawE 14 ([.blk b (.cells [.slice c B.l.length cp, str B.p, str B.d].toArray 98 (0, 0))]) (.row c cp 59 3 (B.l.map Stp.cs) :: H) rfl (by decide +kernel) (fun w h => Pick.sat (by iterate 60 (try (first | exact Pick.all | (apply Pick.take; (· (repeat (first | exact Out.here | apply Out.there)))) | apply Pick.drop))) h) ?_
    ((try (refine WE.calm 0 (by decide +kernel) rfl rfl (by decide +kernel) rfl (fun c h => by cases h) (by intro zm zF zle; skip; ((repeat (refine sp ?_; intros)); exact WQ.q1 rfl)) ?_)); (try (refine WE.calm 1 (by decide +kernel) rfl rfl (by decide +kernel) rfl (fun c h => by cases h) (by intro zm zF zle; skip; ((repeat (refine sp ?_; intros)); exact WQ.q1 rfl)) ?_)); (try (refine WE.calm 2 (by decide +kernel) rfl rfl (by decide +kernel) rfl (fun c h => by cases h) (by intro zm zF zle; skip; ((repeat (refine sp ?_; intros)); exact WQ.q1 rfl)) ?_)); (try (refine WE.calm 3 (by decide +kernel) rfl rfl (by decide +kernel) rfl (fun c h => by cases h) (by intro zm zF zle; skip; ((repeat (refine sp ?_; intros)); exact WQ.q1 rfl)) ?_)); (try (refine WE.calm 4 (by decide +kernel) rfl rfl (by decide +kernel) rfl (fun c h => by cases h) (by intro zm zF zle; skip; ((repeat (refine sp ?_; intros)); exact WQ.q1 rfl)) ?_)); (try (refine WE.calm 5 (by decide +kernel) rfl rfl (by decide +kernel) rfl (fun c h => by cases h) (by intro zm zF zle; skip; ((repeat (refine sp ?_; intros)); exact WQ.q1 rfl)) ?_)); (try (refine WE.calm 6 (by decide +kernel) rfl rfl (by decide +kernel) rfl (fun c h => by cases h) (by intro zm zF zle; skip; ((repeat (refine sp ?_; intros)); exact WQ.q1 rfl)) ?_)); (try (refine WE.calm 7 (by decide +kernel) rfl rfl (by decide +kernel) rfl (fun c h => by cases h) (by intro zm zF zle; skip; ((repeat (refine sp ?_; intros)); exact WQ.q1 rfl)) ?_)); (try (refine WE.calm 8 (by decide +kernel) rfl rfl (by decide +kernel) rfl (fun c h => by cases h) (by intro zm zF zle; skip; ((repeat (refine sp ?_; intros)); exact WQ.q1 rfl)) ?_)); (try (refine WE.calm 9 (by decide +kernel) rfl rfl (by decide +kernel) rfl (fun c h => by cases h) (by intro zm zF zle; skip; ((repeat (refine sp ?_; intros)); exact WQ.q1 rfl)) ?_)); (try (refine WE.calm 10 (by decide +kernel) rfl rfl (by decide +kernel) rfl (fun c h => by cases h) (by intro zm zF zle; skip; ((repeat (refine sp ?_; intros)); exact WQ.q1 rfl)) ?_)); (try (refine WE.calm 11 (by decide +kernel) rfl rfl (by decide +kernel) rfl (fun c h => by cases h) (by intro zm zF zle; skip; ((repeat (refine sp ?_; intros)); exact WQ.q1 rfl)) ?_)); (try (refine WE.calm 12 (by decide +kernel) rfl rfl (by decide +kernel) rfl (fun c h => by cases h) (by intro zm zF zle; skip; ((repeat (refine sp ?_; intros)); exact WQ.q1 rfl)) ?_)); (try (refine WE.calm 13 (by decide +kernel) rfl rfl (by decide +kernel) rfl (fun c h => by cases h) (by intro zm zF zle; skip; ((repeat (refine sp ?_; intros)); exact WQ.q1 rfl)) ?_)); (try (refine WE.calm 14 (by decide +kernel) rfl rfl (by decide +kernel) rfl (fun c h => by cases h) (by intro zm zF zle; skip; ((repeat (refine sp ?_; intros)); exact WQ.q1 rfl)) ?_)); (try (refine WE.calm 15 (by decide +kernel) rfl rfl (by decide +kernel) rfl (fun c h => by cases h) (by intro zm zF zle; skip; ((repeat (refine sp ?_; intros)); exact WQ.q1 rfl)) ?_)); (try (refine WE.calm 16 (by decide +kernel) rfl rfl (by decide +kernel) rfl (fun c h => by cases h) (by intro zm zF zle; skip; ((repeat (refine sp ?_; intros)); exact WQ.q1 rfl)) ?_)); (try (refine WE.calm 17 (by decide +kernel) rfl rfl (by decide +kernel) rfl (fun c h => by cases h) (by intro zm zF zle; skip; ((repeat (refine sp ?_; intros)); exact WQ.q1 rfl)) ?_)); (try (refine WE.calm 18 (by decide +kernel) rfl rfl (by decide +kernel) rfl (fun c h => by cases h) (by intro zm zF zle; skip; ((repeat (refine sp ?_; intros)); exact WQ.q1 rfl)) ?_)); (try (refine WE.calm 19 (by decide +kernel) rfl rfl (by decide +kernel) rfl (fun c h => by cases h) (by intro zm zF zle; skip; ((repeat (refine sp ?_; intros)); exact WQ.q1 rfl)) ?_)); (try (refine WE.calm 20 (by decide +kernel) rfl rfl (by decide +kernel) rfl (fun c h => by cases h) (by intro zm zF zle; skip; ((repeat (refine sp ?_; intros)); exact WQ.q1 rfl)) ?_)); (try (refine WE.calm 21 (by decide +kernel) rfl rfl (by decide +kernel) rfl (fun c h => by cases h) (by intro zm zF zle; skip; ((repeat (refine sp ?_; intros)); exact WQ.q1 rfl)) ?_)); (try (refine WE.calm 22 (by decide +kernel) rfl rfl (by decide +kernel) rfl (fun c h => by cases h) (by intro zm zF zle; skip; ((repeat (refine sp ?_; intros)); exact WQ.q1 rfl)) ?_)); (try (refine WE.calm 23 (by decide +kernel) rfl rfl (by decide +kernel) rfl (fun c h => by cases h) (by intro zm zF zle; skip; ((repeat (refine sp ?_; intros)); exact WQ.q1 rfl)) ?_)); (try (refine WE.calm 24 (by decide +kernel) rfl rfl (by decide +kernel) rfl (fun c h => by cases h) (by intro zm zF zle; skip; ((repeat (refine sp ?_; intros)); exact WQ.q1 rfl)) ?_)); (try (refine WE.calm 25 (by decide +kernel) rfl rfl (by decide +kernel) rfl (fun c h => by cases h) (by intro zm zF zle; skip; ((repeat (refine sp ?_; intros)); exact WQ.q1 rfl)) ?_)); (try (refine WE.calm 26 (by decide +kernel) rfl rfl (by decide +kernel) rfl (fun c h => by cases h) (by intro zm zF zle; skip; ((repeat (refine sp ?_; intros)); exact WQ.q1 rfl)) ?_)); (try (refine WE.calm 27 (by decide +kernel) rfl rfl (by decide +kernel) rfl (fun c h => by cases h) (by intro zm zF zle; skip; ((repeat (refine sp ?_; intros)); exact WQ.q1 rfl)) ?_)); (try (refine WE.calm 28 (by decide +kernel) rfl rfl (by decide +kernel) rfl (fun c h => by cases h) (by intro zm zF zle; skip; ((repeat (refine sp ?_; intros)); exact WQ.q1 rfl)) ?_)); (try (refine WE.calm 29 (by decide +kernel) rfl rfl (by decide +kernel) rfl (fun c h => by cases h) (by intro zm zF zle; skip; ((repeat (refine sp ?_; intros)); exact WQ.q1 rfl)) ?_)); (try (refine WE.calm 30 (by decide +kernel) rfl rfl (by decide +kernel) rfl (fun c h => by cases h) (by intro zm zF zle; skip; ((repeat (refine sp ?_; intros)); exact WQ.q1 rfl)) ?_)); (try (refine WE.calm 31 (by decide +kernel) rfl rfl (by decide +kernel) rfl (fun c h => by cases h) (by intro zm zF zle; skip; ((repeat (refine sp ?_; intros)); exact WQ.q1 rfl)) ?_)); (try (refine WE.calm 32 (by decide +kernel) rfl rfl (by decide +kernel) rfl (fun c h => by cases h) (by intro zm zF zle; skip; ((repeat (refine sp ?_; intros)); exact WQ.q1 rfl)) ?_)); (try (refine WE.calm 33 (by decide +kernel) rfl rfl (by decide +kernel) rfl (fun c h => by cases h) (by intro zm zF zle; skip; ((repeat (refine sp ?_; intros)); exact WQ.q1 rfl)) ?_)); (try (refine WE.calm 34 (by decide +kernel) rfl rfl (by decide +kernel) rfl (fun c h => by cases h) (by intro zm zF zle; skip; ((repeat (refine sp ?_; intros)); exact WQ.q1 rfl)) ?_)); (try (refine WE.calm 35 (by decide +kernel) rfl rfl (by decide +kernel) rfl (fun c h => by cases h) (by intro zm zF zle; skip; ((repeat (refine sp ?_; intros)); exact WQ.q1 rfl)) ?_)); (try (refine WE.calm 36 (by decide +kernel) rfl rfl (by decide +kernel) rfl (fun c h => by cases h) (by intro zm zF zle; skip; ((repeat (refine sp ?_; intros)); exact WQ.q1 rfl)) ?_)); (try (refine WE.calm 37 (by decide +kernel) rfl rfl (by decide +kernel) rfl (fun c h => by cases h) (by intro zm zF zle; skip; ((repeat (refine sp ?_; intros)); exact WQ.q1 rfl)) ?_)); (try (refine WE.calm 38 (by decide +kernel) rfl rfl (by decide +kernel) rfl (fun c h => by cases h) (by intro zm zF zle; skip; ((repeat (refine sp ?_; intros)); exact WQ.q1 rfl)) ?_)); (try (refine WE.calm 39 (by decide +kernel) rfl rfl (by decide +kernel) rfl (fun c h => by cases h) (by intro zm zF zle; skip; ((repeat (refine sp ?_; intros)); exact WQ.q1 rfl)) ?_)); (try (refine WE.calm 40 (by decide +kernel) rfl rfl (by decide +kernel) rfl (fun c h => by cases h) (by intro zm zF zle; skip; ((repeat (refine sp ?_; intros)); exact WQ.q1 rfl)) ?_)); (try (refine WE.calm 41 (by decide +kernel) rfl rfl (by decide +kernel) rfl (fun c h => by cases h) (by intro zm zF zle; skip; ((repeat (refine sp ?_; intros)); exact WQ.q1 rfl)) ?_)))
    refine WE.act1 10 (by decide +kernel) rfl rfl (fun c h => by cases h) ?_
    (refine st ?_; intros; rename_i q0)
    refine WQ.acted (B := []) (U := .blk q0 (.cells [.int .i64 0, str [], str B.p].toArray 59 (0, 0)) :: .row c cp 59 3 (B.l.map Stp.cs) :: H) rfl (Mem.le.refl _) (fun w h => Pick.sat (by iterate 60 (try (first | exact Pick.all | (apply Pick.take; (· (repeat (first | exact Out.here | apply Out.there)))) | apply Pick.drop))) h) ?_
    refine WE.act1 11 (by decide +kernel) rfl rfl (fun c h => by cases h) ?_
    (refine st ?_; intros; rename_i c2 cp2)
    refine WQ.acted (B := []) (U := .row c2 cp2 59 3 (B.l.map Stp.cs ++ [[.int .i64 0, str [], str B.p]]) :: H) rfl (Mem.le.refl _) (fun w h => Pick.sat (by iterate 60 (try (first | exact Pick.all | (apply Pick.take; (· (repeat (first | exact Out.here | apply Out.there)))) | apply Pick.drop))) h) ?_
    ((try (refine WE.calm 0 (by decide +kernel) rfl rfl (by decide +kernel) rfl (fun c h => by cases h) (by intro zm zF zle; skip; ((repeat (refine sp ?_; intros)); exact WQ.q1 rfl)) ?_)); (try (refine WE.calm 1 (by decide +kernel) rfl rfl (by decide +kernel) rfl (fun c h => by cases h) (by intro zm zF zle; skip; ((repeat (refine sp ?_; intros)); exact WQ.q1 rfl)) ?_)); (try (refine WE.calm 2 (by decide +kernel) rfl rfl (by decide +kernel) rfl (fun c h => by cases h) (by intro zm zF zle; skip; ((repeat (refine sp ?_; intros)); exact WQ.q1 rfl)) ?_)); (try (refine WE.calm 3 (by decide +kernel) rfl rfl (by decide +kernel) rfl (fun c h => by cases h) (by intro zm zF zle; skip; ((repeat (refine sp ?_; intros)); exact WQ.q1 rfl)) ?_)); (try (refine WE.calm 4 (by decide +kernel) rfl rfl (by decide +kernel) rfl (fun c h => by cases h) (by intro zm zF zle; skip; ((repeat (refine sp ?_; intros)); exact WQ.q1 rfl)) ?_)); (try (refine WE.calm 5 (by decide +kernel) rfl rfl (by decide +kernel) rfl (fun c h => by cases h) (by intro zm zF zle; skip; ((repeat (refine sp ?_; intros)); exact WQ.q1 rfl)) ?_)); (try (refine WE.calm 6 (by decide +kernel) rfl rfl (by decide +kernel) rfl (fun c h => by cases h) (by intro zm zF zle; skip; ((repeat (refine sp ?_; intros)); exact WQ.q1 rfl)) ?_)); (try (refine WE.calm 7 (by decide +kernel) rfl rfl (by decide +kernel) rfl (fun c h => by cases h) (by intro zm zF zle; skip; ((repeat (refine sp ?_; intros)); exact WQ.q1 rfl)) ?_)); (try (refine WE.calm 8 (by decide +kernel) rfl rfl (by decide +kernel) rfl (fun c h => by cases h) (by intro zm zF zle; skip; ((repeat (refine sp ?_; intros)); exact WQ.q1 rfl)) ?_)); (try (refine WE.calm 9 (by decide +kernel) rfl rfl (by decide +kernel) rfl (fun c h => by cases h) (by intro zm zF zle; skip; ((repeat (refine sp ?_; intros)); exact WQ.q1 rfl)) ?_)); (try (refine WE.calm 10 (by decide +kernel) rfl rfl (by decide +kernel) rfl (fun c h => by cases h) (by intro zm zF zle; skip; ((repeat (refine sp ?_; intros)); exact WQ.q1 rfl)) ?_)); (try (refine WE.calm 11 (by decide +kernel) rfl rfl (by decide +kernel) rfl (fun c h => by cases h) (by intro zm zF zle; skip; ((repeat (refine sp ?_; intros)); exact WQ.q1 rfl)) ?_)); (try (refine WE.calm 12 (by decide +kernel) rfl rfl (by decide +kernel) rfl (fun c h => by cases h) (by intro zm zF zle; skip; ((repeat (refine sp ?_; intros)); exact WQ.q1 rfl)) ?_)); (try (refine WE.calm 13 (by decide +kernel) rfl rfl (by decide +kernel) rfl (fun c h => by cases h) (by intro zm zF zle; skip; ((repeat (refine sp ?_; intros)); exact WQ.q1 rfl)) ?_)); (try (refine WE.calm 14 (by decide +kernel) rfl rfl (by decide +kernel) rfl (fun c h => by cases h) (by intro zm zF zle; skip; ((repeat (refine sp ?_; intros)); exact WQ.q1 rfl)) ?_)); (try (refine WE.calm 15 (by decide +kernel) rfl rfl (by decide +kernel) rfl (fun c h => by cases h) (by intro zm zF zle; skip; ((repeat (refine sp ?_; intros)); exact WQ.q1 rfl)) ?_)); (try (refine WE.calm 16 (by decide +kernel) rfl rfl (by decide +kernel) rfl (fun c h => by cases h) (by intro zm zF zle; skip; ((repeat (refine sp ?_; intros)); exact WQ.q1 rfl)) ?_)); (try (refine WE.calm 17 (by decide +kernel) rfl rfl (by decide +kernel) rfl (fun c h => by cases h) (by intro zm zF zle; skip; ((repeat (refine sp ?_; intros)); exact WQ.q1 rfl)) ?_)); (try (refine WE.calm 18 (by decide +kernel) rfl rfl (by decide +kernel) rfl (fun c h => by cases h) (by intro zm zF zle; skip; ((repeat (refine sp ?_; intros)); exact WQ.q1 rfl)) ?_)); (try (refine WE.calm 19 (by decide +kernel) rfl rfl (by decide +kernel) rfl (fun c h => by cases h) (by intro zm zF zle; skip; ((repeat (refine sp ?_; intros)); exact WQ.q1 rfl)) ?_)); (try (refine WE.calm 20 (by decide +kernel) rfl rfl (by decide +kernel) rfl (fun c h => by cases h) (by intro zm zF zle; skip; ((repeat (refine sp ?_; intros)); exact WQ.q1 rfl)) ?_)); (try (refine WE.calm 21 (by decide +kernel) rfl rfl (by decide +kernel) rfl (fun c h => by cases h) (by intro zm zF zle; skip; ((repeat (refine sp ?_; intros)); exact WQ.q1 rfl)) ?_)); (try (refine WE.calm 22 (by decide +kernel) rfl rfl (by decide +kernel) rfl (fun c h => by cases h) (by intro zm zF zle; skip; ((repeat (refine sp ?_; intros)); exact WQ.q1 rfl)) ?_)); (try (refine WE.calm 23 (by decide +kernel) rfl rfl (by decide +kernel) rfl (fun c h => by cases h) (by intro zm zF zle; skip; ((repeat (refine sp ?_; intros)); exact WQ.q1 rfl)) ?_)); (try (refine WE.calm 24 (by decide +kernel) rfl rfl (by decide +kernel) rfl (fun c h => by cases h) (by intro zm zF zle; skip; ((repeat (refine sp ?_; intros)); exact WQ.q1 rfl)) ?_)); (try (refine WE.calm 25 (by decide +kernel) rfl rfl (by decide +kernel) rfl (fun c h => by cases h) (by intro zm zF zle; skip; ((repeat (refine sp ?_; intros)); exact WQ.q1 rfl)) ?_)); (try (refine WE.calm 26 (by decide +kernel) rfl rfl (by decide +kernel) rfl (fun c h => by cases h) (by intro zm zF zle; skip; ((repeat (refine sp ?_; intros)); exact WQ.q1 rfl)) ?_)); (try (refine WE.calm 27 (by decide +kernel) rfl rfl (by decide +kernel) rfl (fun c h => by cases h) (by intro zm zF zle; skip; ((repeat (refine sp ?_; intros)); exact WQ.q1 rfl)) ?_)); (try (refine WE.calm 28 (by decide +kernel) rfl rfl (by decide +kernel) rfl (fun c h => by cases h) (by intro zm zF zle; skip; ((repeat (refine sp ?_; intros)); exact WQ.q1 rfl)) ?_)); (try (refine WE.calm 29 (by decide +kernel) rfl rfl (by decide +kernel) rfl (fun c h => by cases h) (by intro zm zF zle; skip; ((repeat (refine sp ?_; intros)); exact WQ.q1 rfl)) ?_)); (try (refine WE.calm 30 (by decide +kernel) rfl rfl (by decide +kernel) rfl (fun c h => by cases h) (by intro zm zF zle; skip; ((repeat (refine sp ?_; intros)); exact WQ.q1 rfl)) ?_)); (try (refine WE.calm 31 (by decide +kernel) rfl rfl (by decide +kernel) rfl (fun c h => by cases h) (by intro zm zF zle; skip; ((repeat (refine sp ?_; intros)); exact WQ.q1 rfl)) ?_)); (try (refine WE.calm 32 (by decide +kernel) rfl rfl (by decide +kernel) rfl (fun c h => by cases h) (by intro zm zF zle; skip; ((repeat (refine sp ?_; intros)); exact WQ.q1 rfl)) ?_)); (try (refine WE.calm 33 (by decide +kernel) rfl rfl (by decide +kernel) rfl (fun c h => by cases h) (by intro zm zF zle; skip; ((repeat (refine sp ?_; intros)); exact WQ.q1 rfl)) ?_)); (try (refine WE.calm 34 (by decide +kernel) rfl rfl (by decide +kernel) rfl (fun c h => by cases h) (by intro zm zF zle; skip; ((repeat (refine sp ?_; intros)); exact WQ.q1 rfl)) ?_)); (try (refine WE.calm 35 (by decide +kernel) rfl rfl (by decide +kernel) rfl (fun c h => by cases h) (by intro zm zF zle; skip; ((repeat (refine sp ?_; intros)); exact WQ.q1 rfl)) ?_)); (try (refine WE.calm 36 (by decide +kernel) rfl rfl (by decide +kernel) rfl (fun c h => by cases h) (by intro zm zF zle; skip; ((repeat (refine sp ?_; intros)); exact WQ.q1 rfl)) ?_)); (try (refine WE.calm 37 (by decide +kernel) rfl rfl (by decide +kernel) rfl (fun c h => by cases h) (by intro zm zF zle; skip; ((repeat (refine sp ?_; intros)); exact WQ.q1 rfl)) ?_)); (try (refine WE.calm 38 (by decide +kernel) rfl rfl (by decide +kernel) rfl (fun c h => by cases h) (by intro zm zF zle; skip; ((repeat (refine sp ?_; intros)); exact WQ.q1 rfl)) ?_)); (try (refine WE.calm 39 (by decide +kernel) rfl rfl (by decide +kernel) rfl (fun c h => by cases h) (by intro zm zF zle; skip; ((repeat (refine sp ?_; intros)); exact WQ.q1 rfl)) ?_)); (try (refine WE.calm 40 (by decide +kernel) rfl rfl (by decide +kernel) rfl (fun c h => by cases h) (by intro zm zF zle; skip; ((repeat (refine sp ?_; intros)); exact WQ.q1 rfl)) ?_)); (try (refine WE.calm 41 (by decide +kernel) rfl rfl (by decide +kernel) rfl (fun c h => by cases h) (by intro zm zF zle; skip; ((repeat (refine sp ?_; intros)); exact WQ.q1 rfl)) ?_)))
    refine WE.done (by decide +kernel) ?_
    (try (refine st ?_; intros))
    rw [hml]
    refine WC.drawE 14 ([.blk b (.cells [.slice c2 (B.l.length + 1) cp2, str B.p, str B.d].toArray 98 (0, 0))]) (.row c2 cp2 59 3 (B.l.map Stp.cs ++ [[.int .i64 0, str [], str B.p]]) :: H) rfl (by decide +kernel) (fun w h => Pick.sat (by iterate 60 (try (first | exact Pick.all | (apply Pick.take; (· (repeat (first | exact Out.here | apply Out.there)))) | apply Pick.drop))) h) ?_
    ((try (refine WE.calm 0 (by decide +kernel) rfl rfl (by decide +kernel) rfl (fun c h => by cases h) (by intro zm zF zle; skip; ((repeat (refine sp ?_; intros)); exact WQ.q1 rfl)) ?_)); (try (refine WE.calm 1 (by decide +kernel) rfl rfl (by decide +kernel) rfl (fun c h => by cases h) (by intro zm zF zle; skip; ((repeat (refine sp ?_; intros)); exact WQ.q1 rfl)) ?_)); (try (refine WE.calm 2 (by decide +kernel) rfl rfl (by decide +kernel) rfl (fun c h => by cases h) (by intro zm zF zle; skip; ((repeat (refine sp ?_; intros)); exact WQ.q1 rfl)) ?_)); (try (refine WE.calm 3 (by decide +kernel) rfl rfl (by decide +kernel) rfl (fun c h => by cases h) (by intro zm zF zle; skip; ((repeat (refine sp ?_; intros)); exact WQ.q1 rfl)) ?_)); (try (refine WE.calm 4 (by decide +kernel) rfl rfl (by decide +kernel) rfl (fun c h => by cases h) (by intro zm zF zle; skip; ((repeat (refine sp ?_; intros)); exact WQ.q1 rfl)) ?_)); (try (refine WE.calm 5 (by decide +kernel) rfl rfl (by decide +kernel) rfl (fun c h => by cases h) (by intro zm zF zle; skip; ((repeat (refine sp ?_; intros)); exact WQ.q1 rfl)) ?_)); (try (refine WE.calm 6 (by decide +kernel) rfl rfl (by decide +kernel) rfl (fun c h => by cases h) (by intro zm zF zle; skip; ((repeat (refine sp ?_; intros)); exact WQ.q1 rfl)) ?_)); (try (refine WE.calm 7 (by decide +kernel) rfl rfl (by decide +kernel) rfl (fun c h => by cases h) (by intro zm zF zle; skip; ((repeat (refine sp ?_; intros)); exact WQ.q1 rfl)) ?_)); (try (refine WE.calm 8 (by decide +kernel) rfl rfl (by decide +kernel) rfl (fun c h => by cases h) (by intro zm zF zle; skip; ((repeat (refine sp ?_; intros)); exact WQ.q1 rfl)) ?_)); (try (refine WE.calm 9 (by decide +kernel) rfl rfl (by decide +kernel) rfl (fun c h => by cases h) (by intro zm zF zle; skip; ((repeat (refine sp ?_; intros)); exact WQ.q1 rfl)) ?_)); (try (refine WE.calm 10 (by decide +kernel) rfl rfl (by decide +kernel) rfl (fun c h => by cases h) (by intro zm zF zle; skip; ((repeat (refine sp ?_; intros)); exact WQ.q1 rfl)) ?_)); (try (refine WE.calm 11 (by decide +kernel) rfl rfl (by decide +kernel) rfl (fun c h => by cases h) (by intro zm zF zle; skip; ((repeat (refine sp ?_; intros)); exact WQ.q1 rfl)) ?_)); (try (refine WE.calm 12 (by decide +kernel) rfl rfl (by decide +kernel) rfl (fun c h => by cases h) (by intro zm zF zle; skip; ((repeat (refine sp ?_; intros)); exact WQ.q1 rfl)) ?_)); (try (refine WE.calm 13 (by decide +kernel) rfl rfl (by decide +kernel) rfl (fun c h => by cases h) (by intro zm zF zle; skip; ((repeat (refine sp ?_; intros)); exact WQ.q1 rfl)) ?_)); (try (refine WE.calm 14 (by decide +kernel) rfl rfl (by decide +kernel) rfl (fun c h => by cases h) (by intro zm zF zle; skip; ((repeat (refine sp ?_; intros)); exact WQ.q1 rfl)) ?_)); (try (refine WE.calm 15 (by decide +kernel) rfl rfl (by decide +kernel) rfl (fun c h => by cases h) (by intro zm zF zle; skip; ((repeat (refine sp ?_; intros)); exact WQ.q1 rfl)) ?_)); (try (refine WE.calm 16 (by decide +kernel) rfl rfl (by decide +kernel) rfl (fun c h => by cases h) (by intro zm zF zle; skip; ((repeat (refine sp ?_; intros)); exact WQ.q1 rfl)) ?_)); (try (refine WE.calm 17 (by decide +kernel) rfl rfl (by decide +kernel) rfl (fun c h => by cases h) (by intro zm zF zle; skip; ((repeat (refine sp ?_; intros)); exact WQ.q1 rfl)) ?_)); (try (refine WE.calm 18 (by decide +kernel) rfl rfl (by decide +kernel) rfl (fun c h => by cases h) (by intro zm zF zle; skip; ((repeat (refine sp ?_; intros)); exact WQ.q1 rfl)) ?_)); (try (refine WE.calm 19 (by decide +kernel) rfl rfl (by decide +kernel) rfl (fun c h => by cases h) (by intro zm zF zle; skip; ((repeat (refine sp ?_; intros)); exact WQ.q1 rfl)) ?_)); (try (refine WE.calm 20 (by decide +kernel) rfl rfl (by decide +kernel) rfl (fun c h => by cases h) (by intro zm zF zle; skip; ((repeat (refine sp ?_; intros)); exact WQ.q1 rfl)) ?_)); (try (refine WE.calm 21 (by decide +kernel) rfl rfl (by decide +kernel) rfl (fun c h => by cases h) (by intro zm zF zle; skip; ((repeat (refine sp ?_; intros)); exact WQ.q1 rfl)) ?_)); (try (refine WE.calm 22 (by decide +kernel) rfl rfl (by decide +kernel) rfl (fun c h => by cases h) (by intro zm zF zle; skip; ((repeat (refine sp ?_; intros)); exact WQ.q1 rfl)) ?_)); (try (refine WE.calm 23 (by decide +kernel) rfl rfl (by decide +kernel) rfl (fun c h => by cases h) (by intro zm zF zle; skip; ((repeat (refine sp ?_; intros)); exact WQ.q1 rfl)) ?_)); (try (refine WE.calm 24 (by decide +kernel) rfl rfl (by decide +kernel) rfl (fun c h => by cases h) (by intro zm zF zle; skip; ((repeat (refine sp ?_; intros)); exact WQ.q1 rfl)) ?_)); (try (refine WE.calm 25 (by decide +kernel) rfl rfl (by decide +kernel) rfl (fun c h => by cases h) (by intro zm zF zle; skip; ((repeat (refine sp ?_; intros)); exact WQ.q1 rfl)) ?_)); (try (refine WE.calm 26 (by decide +kernel) rfl rfl (by decide +kernel) rfl (fun c h => by cases h) (by intro zm zF zle; skip; ((repeat (refine sp ?_; intros)); exact WQ.q1 rfl)) ?_)); (try (refine WE.calm 27 (by decide +kernel) rfl rfl (by decide +kernel) rfl (fun c h => by cases h) (by intro zm zF zle; skip; ((repeat (refine sp ?_; intros)); exact WQ.q1 rfl)) ?_)); (try (refine WE.calm 28 (by decide +kernel) rfl rfl (by decide +kernel) rfl (fun c h => by cases h) (by intro zm zF zle; skip; ((repeat (refine sp ?_; intros)); exact WQ.q1 rfl)) ?_)); (try (refine WE.calm 29 (by decide +kernel) rfl rfl (by decide +kernel) rfl (fun c h => by cases h) (by intro zm zF zle; skip; ((repeat (refine sp ?_; intros)); exact WQ.q1 rfl)) ?_)); (try (refine WE.calm 30 (by decide +kernel) rfl rfl (by decide +kernel) rfl (fun c h => by cases h) (by intro zm zF zle; skip; ((repeat (refine sp ?_; intros)); exact WQ.q1 rfl)) ?_)); (try (refine WE.calm 31 (by decide +kernel) rfl rfl (by decide +kernel) rfl (fun c h => by cases h) (by intro zm zF zle; skip; ((repeat (refine sp ?_; intros)); exact WQ.q1 rfl)) ?_)); (try (refine WE.calm 32 (by decide +kernel) rfl rfl (by decide +kernel) rfl (fun c h => by cases h) (by intro zm zF zle; skip; ((repeat (refine sp ?_; intros)); exact WQ.q1 rfl)) ?_)); (try (refine WE.calm 33 (by decide +kernel) rfl rfl (by decide +kernel) rfl (fun c h => by cases h) (by intro zm zF zle; skip; ((repeat (refine sp ?_; intros)); exact WQ.q1 rfl)) ?_)); (try (refine WE.calm 34 (by decide +kernel) rfl rfl (by decide +kernel) rfl (fun c h => by cases h) (by intro zm zF zle; skip; ((repeat (refine sp ?_; intros)); exact WQ.q1 rfl)) ?_)); (try (refine WE.calm 35 (by decide +kernel) rfl rfl (by decide +kernel) rfl (fun c h => by cases h) (by intro zm zF zle; skip; ((repeat (refine sp ?_; intros)); exact WQ.q1 rfl)) ?_)); (try (refine WE.calm 36 (by decide +kernel) rfl rfl (by decide +kernel) rfl (fun c h => by cases h) (by intro zm zF zle; skip; ((repeat (refine sp ?_; intros)); exact WQ.q1 rfl)) ?_)); (try (refine WE.calm 37 (by decide +kernel) rfl rfl (by decide +kernel) rfl (fun c h => by cases h) (by intro zm zF zle; skip; ((repeat (refine sp ?_; intros)); exact WQ.q1 rfl)) ?_)); (try (refine WE.calm 38 (by decide +kernel) rfl rfl (by decide +kernel) rfl (fun c h => by cases h) (by intro zm zF zle; skip; ((repeat (refine sp ?_; intros)); exact WQ.q1 rfl)) ?_)); (try (refine WE.calm 39 (by decide +kernel) rfl rfl (by decide +kernel) rfl (fun c h => by cases h) (by intro zm zF zle; skip; ((repeat (refine sp ?_; intros)); exact WQ.q1 rfl)) ?_)); (try (refine WE.calm 40 (by decide +kernel) rfl rfl (by decide +kernel) rfl (fun c h => by cases h) (by intro zm zF zle; skip; ((repeat (refine sp ?_; intros)); exact WQ.q1 rfl)) ?_)); (try (refine WE.calm 41 (by decide +kernel) rfl rfl (by decide +kernel) rfl (fun c h => by cases h) (by intro zm zF zle; skip; ((repeat (refine sp ?_; intros)); exact WQ.q1 rfl)) ?_)))
    refine WE.act1 10 (by decide +kernel) rfl rfl (fun c h => by cases h) ?_
    (refine st ?_; intros; rename_i q0)
    refine WQ.acted (B := []) (U := .blk q0 (.cells [.int .i64 0, str B.d, str []].toArray 59 (0, 0)) :: .row c2 cp2 59 3 (B.l.map Stp.cs ++ [[.int .i64 0, str [], str B.p]]) :: H) rfl (Mem.le.refl _) (fun w h => Pick.sat (by iterate 60 (try (first | exact Pick.all | (apply Pick.take; (· (repeat (first | exact Out.here | apply Out.there)))) | apply Pick.drop))) h) ?_
    refine WE.act1 11 (by decide +kernel) rfl rfl (fun c h => by cases h) ?_
    (refine st ?_; intros; rename_i c3 cp3)
    refine WQ.acted (B := []) (U := .row c3 cp3 59 3 (B.l.map Stp.cs ++ [[.int .i64 0, str [], str B.p]] ++ [[.int .i64 0, str B.d, str []]]) :: H) rfl (Mem.le.refl _) (fun w h => Pick.sat (by iterate 60 (try (first | exact Pick.all | (apply Pick.take; (· (repeat (first | exact Out.here | apply Out.there)))) | apply Pick.drop))) h) ?_
    ((try (refine WE.calm 0 (by decide +kernel) rfl rfl (by decide +kernel) rfl (fun c h => by cases h) (by intro zm zF zle; skip; ((repeat (refine sp ?_; intros)); exact WQ.q1 rfl)) ?_)); (try (refine WE.calm 1 (by decide +kernel) rfl rfl (by decide +kernel) rfl (fun c h => by cases h) (by intro zm zF zle; skip; ((repeat (refine sp ?_; intros)); exact WQ.q1 rfl)) ?_)); (try (refine WE.calm 2 (by decide +kernel) rfl rfl (by decide +kernel) rfl (fun c h => by cases h) (by intro zm zF zle; skip; ((repeat (refine sp ?_; intros)); exact WQ.q1 rfl)) ?_)); (try (refine WE.calm 3 (by decide +kernel) rfl rfl (by decide +kernel) rfl (fun c h => by cases h) (by intro zm zF zle; skip; ((repeat (refine sp ?_; intros)); exact WQ.q1 rfl)) ?_)); (try (refine WE.calm 4 (by decide +kernel) rfl rfl (by decide +kernel) rfl (fun c h => by cases h) (by intro zm zF zle; skip; ((repeat (refine sp ?_; intros)); exact WQ.q1 rfl)) ?_)); (try (refine WE.calm 5 (by decide +kernel) rfl rfl (by decide +kernel) rfl (fun c h => by cases h) (by intro zm zF zle; skip; ((repeat (refine sp ?_; intros)); exact WQ.q1 rfl)) ?_)); (try (refine WE.calm 6 (by decide +kernel) rfl rfl (by decide +kernel) rfl (fun c h => by cases h) (by intro zm zF zle; skip; ((repeat (refine sp ?_; intros)); exact WQ.q1 rfl)) ?_)); (try (refine WE.calm 7 (by decide +kernel) rfl rfl (by decide +kernel) rfl (fun c h => by cases h) (by intro zm zF zle; skip; ((repeat (refine sp ?_; intros)); exact WQ.q1 rfl)) ?_)); (try (refine WE.calm 8 (by decide +kernel) rfl rfl (by decide +kernel) rfl (fun c h => by cases h) (by intro zm zF zle; skip; ((repeat (refine sp ?_; intros)); exact WQ.q1 rfl)) ?_)); (try (refine WE.calm 9 (by decide +kernel) rfl rfl (by decide +kernel) rfl (fun c h => by cases h) (by intro zm zF zle; skip; ((repeat (refine sp ?_; intros)); exact WQ.q1 rfl)) ?_)); (try (refine WE.calm 10 (by decide +kernel) rfl rfl (by decide +kernel) rfl (fun c h => by cases h) (by intro zm zF zle; skip; ((repeat (refine sp ?_; intros)); exact WQ.q1 rfl)) ?_)); (try (refine WE.calm 11 (by decide +kernel) rfl rfl (by decide +kernel) rfl (fun c h => by cases h) (by intro zm zF zle; skip; ((repeat (refine sp ?_; intros)); exact WQ.q1 rfl)) ?_)); (try (refine WE.calm 12 (by decide +kernel) rfl rfl (by decide +kernel) rfl (fun c h => by cases h) (by intro zm zF zle; skip; ((repeat (refine sp ?_; intros)); exact WQ.q1 rfl)) ?_)); (try (refine WE.calm 13 (by decide +kernel) rfl rfl (by decide +kernel) rfl (fun c h => by cases h) (by intro zm zF zle; skip; ((repeat (refine sp ?_; intros)); exact WQ.q1 rfl)) ?_)); (try (refine WE.calm 14 (by decide +kernel) rfl rfl (by decide +kernel) rfl (fun c h => by cases h) (by intro zm zF zle; skip; ((repeat (refine sp ?_; intros)); exact WQ.q1 rfl)) ?_)); (try (refine WE.calm 15 (by decide +kernel) rfl rfl (by decide +kernel) rfl (fun c h => by cases h) (by intro zm zF zle; skip; ((repeat (refine sp ?_; intros)); exact WQ.q1 rfl)) ?_)); (try (refine WE.calm 16 (by decide +kernel) rfl rfl (by decide +kernel) rfl (fun c h => by cases h) (by intro zm zF zle; skip; ((repeat (refine sp ?_; intros)); exact WQ.q1 rfl)) ?_)); (try (refine WE.calm 17 (by decide +kernel) rfl rfl (by decide +kernel) rfl (fun c h => by cases h) (by intro zm zF zle; skip; ((repeat (refine sp ?_; intros)); exact WQ.q1 rfl)) ?_)); (try (refine WE.calm 18 (by decide +kernel) rfl rfl (by decide +kernel) rfl (fun c h => by cases h) (by intro zm zF zle; skip; ((repeat (refine sp ?_; intros)); exact WQ.q1 rfl)) ?_)); (try (refine WE.calm 19 (by decide +kernel) rfl rfl (by decide +kernel) rfl (fun c h => by cases h) (by intro zm zF zle; skip; ((repeat (refine sp ?_; intros)); exact WQ.q1 rfl)) ?_)); (try (refine WE.calm 20 (by decide +kernel) rfl rfl (by decide +kernel) rfl (fun c h => by cases h) (by intro zm zF zle; skip; ((repeat (refine sp ?_; intros)); exact WQ.q1 rfl)) ?_)); (try (refine WE.calm 21 (by decide +kernel) rfl rfl (by decide +kernel) rfl (fun c h => by cases h) (by intro zm zF zle; skip; ((repeat (refine sp ?_; intros)); exact WQ.q1 rfl)) ?_)); (try (refine WE.calm 22 (by decide +kernel) rfl rfl (by decide +kernel) rfl (fun c h => by cases h) (by intro zm zF zle; skip; ((repeat (refine sp ?_; intros)); exact WQ.q1 rfl)) ?_)); (try (refine WE.calm 23 (by decide +kernel) rfl rfl (by decide +kernel) rfl (fun c h => by cases h) (by intro zm zF zle; skip; ((repeat (refine sp ?_; intros)); exact WQ.q1 rfl)) ?_)); (try (refine WE.calm 24 (by decide +kernel) rfl rfl (by decide +kernel) rfl (fun c h => by cases h) (by intro zm zF zle; skip; ((repeat (refine sp ?_; intros)); exact WQ.q1 rfl)) ?_)); (try (refine WE.calm 25 (by decide +kernel) rfl rfl (by decide +kernel) rfl (fun c h => by cases h) (by intro zm zF zle; skip; ((repeat (refine sp ?_; intros)); exact WQ.q1 rfl)) ?_)); (try (refine WE.calm 26 (by decide +kernel) rfl rfl (by decide +kernel) rfl (fun c h => by cases h) (by intro zm zF zle; skip; ((repeat (refine sp ?_; intros)); exact WQ.q1 rfl)) ?_)); (try (refine WE.calm 27 (by decide +kernel) rfl rfl (by decide +kernel) rfl (fun c h => by cases h) (by intro zm zF zle; skip; ((repeat (refine sp ?_; intros)); exact WQ.q1 rfl)) ?_)); (try (refine WE.calm 28 (by decide +kernel) rfl rfl (by decide +kernel) rfl (fun c h => by cases h) (by intro zm zF zle; skip; ((repeat (refine sp ?_; intros)); exact WQ.q1 rfl)) ?_)); (try (refine WE.calm 29 (by decide +kernel) rfl rfl (by decide +kernel) rfl (fun c h => by cases h) (by intro zm zF zle; skip; ((repeat (refine sp ?_; intros)); exact WQ.q1 rfl)) ?_)); (try (refine WE.calm 30 (by decide +kernel) rfl rfl (by decide +kernel) rfl (fun c h => by cases h) (by intro zm zF zle; skip; ((repeat (refine sp ?_; intros)); exact WQ.q1 rfl)) ?_)); (try (refine WE.calm 31 (by decide +kernel) rfl rfl (by decide +kernel) rfl (fun c h => by cases h) (by intro zm zF zle; skip; ((repeat (refine sp ?_; intros)); exact WQ.q1 rfl)) ?_)); (try (refine WE.calm 32 (by decide +kernel) rfl rfl (by decide +kernel) rfl (fun c h => by cases h) (by intro zm zF zle; skip; ((repeat (refine sp ?_; intros)); exact WQ.q1 rfl)) ?_)); (try (refine WE.calm 33 (by decide +kernel) rfl rfl (by decide +kernel) rfl (fun c h => by cases h) (by intro zm zF zle; skip; ((repeat (refine sp ?_; intros)); exact WQ.q1 rfl)) ?_)); (try (refine WE.calm 34 (by decide +kernel) rfl rfl (by decide +kernel) rfl (fun c h => by cases h) (by intro zm zF zle; skip; ((repeat (refine sp ?_; intros)); exact WQ.q1 rfl)) ?_)); (try (refine WE.calm 35 (by decide +kernel) rfl rfl (by decide +kernel) rfl (fun c h => by cases h) (by intro zm zF zle; skip; ((repeat (refine sp ?_; intros)); exact WQ.q1 rfl)) ?_)); (try (refine WE.calm 36 (by decide +kernel) rfl rfl (by decide +kernel) rfl (fun c h => by cases h) (by intro zm zF zle; skip; ((repeat (refine sp ?_; intros)); exact WQ.q1 rfl)) ?_)); (try (refine WE.calm 37 (by decide +kernel) rfl rfl (by decide +kernel) rfl (fun c h => by cases h) (by intro zm zF zle; skip; ((repeat (refine sp ?_; intros)); exact WQ.q1 rfl)) ?_)); (try (refine WE.calm 38 (by decide +kernel) rfl rfl (by decide +kernel) rfl (fun c h => by cases h) (by intro zm zF zle; skip; ((repeat (refine sp ?_; intros)); exact WQ.q1 rfl)) ?_)); (try (refine WE.calm 39 (by decide +kernel) rfl rfl (by decide +kernel) rfl (fun c h => by cases h) (by intro zm zF zle; skip; ((repeat (refine sp ?_; intros)); exact WQ.q1 rfl)) ?_)); (try (refine WE.calm 40 (by decide +kernel) rfl rfl (by decide +kernel) rfl (fun c h => by cases h) (by intro zm zF zle; skip; ((repeat (refine sp ?_; intros)); exact WQ.q1 rfl)) ?_)); (try (refine WE.calm 41 (by decide +kernel) rfl rfl (by decide +kernel) rfl (fun c h => by cases h) (by intro zm zF zle; skip; ((repeat (refine sp ?_; intros)); exact WQ.q1 rfl)) ?_)))
    refine WE.done (by decide +kernel) ?_
    (try (refine st ?_; intros))
    rw [hml1]
    have e : B.close.l = B.l ++ [⟨0, [], B.p⟩] ++ [⟨0, B.d, []⟩] := by simp [Bld.close, hp, hd]
    exact q_finNorm0 (H0 := .blk b (.cells [.slice c3 (B.l.length + 1 + 1) cp3, str [], str []].toArray 98 (0, 0)) :: .row c3 cp3 59 3 (B.l.map Stp.cs ++ [[.int .i64 0, str [], str B.p]] ++ [[.int .i64 0, str B.d, str []]]) :: H) ⟨rfl, rfl, c3, cp3, by rw [e]; simp [Stp.cs]⟩ (hd := (fun w h => Pick.sat (by iterate 60 (try (first | exact Pick.all | (apply Pick.take; (· (repeat (first | exact Out.here | apply Out.there)))) | apply Pick.drop))) h))
end Go.Proofs.Ytelgegefmjlimaa

/-
  Plain facts on changes: how large a builder grows. No condition.
-/
namespace Go.Eng
open Go
/-- no number of it is above N -/
structure BFit (N : Nat) (B : Bld) : Prop where
  len : B.l.length ≤ N
  k : ∀ s ∈ B.l, 0 ≤ s.k ∧ s.k ≤ N
  p : B.p.length ≤ N
  d : B.d.length ≤ N
theorem BFit.mono {N M : Nat} {B : Bld} (h : BFit N B) (hm : N ≤ M) : BFit M B :=
  ⟨by have := h.len; omega, fun s hs => by have := h.k s hs; omega, by have := h.p; omega, by have := h.d; omega⟩
theorem BFit.start : BFit 0 Bld.start := ⟨Nat.le_refl _, fun s hs => by simp [Bld.start] at hs, Nat.le_refl _, Nat.le_refl _⟩
theorem BFit.close {N : Nat} {B : Bld} (h : BFit N B) : BFit (N + 2) B.close := by
  refine ⟨?_, fun s hs => ?_, by simp [Bld.close], by simp [Bld.close]⟩
  · have := h.len
    unfold Bld.close
    split <;> split <;> simp <;> omega
  · unfold Bld.close at hs
    simp only [List.mem_append] at hs
    rcases hs with (hs | hs) | hs
    · have := h.k s hs; omega
    · split at hs <;> simp at hs; subst hs; simp; omega
    · split at hs <;> simp at hs; subst hs; simp; omega
theorem addKeep_k {N : Nat} {l : List Stp} {n : Nat} (h : ∀ s ∈ l, 0 ≤ s.k ∧ s.k ≤ N) : (∀ s ∈ addKeep l n, 0 ≤ s.k ∧ s.k ≤ ((N + n : Nat) : Int)) ∧ (addKeep l n).length ≤ l.length + 1 := by
  unfold addKeep
  cases hl : l.getLast? with
  | none => simp; omega
  | some s =>
    obtain ⟨ys, e⟩ := List.getLast?_eq_some_iff.1 hl
    have hs := h s (by rw [e]; simp)
    have e2 : l.dropLast = ys := by rw [e]; simp
    simp only [e2]
    split
    · refine ⟨fun x hx => ?_, by rw [e]; simp⟩
      simp only [List.mem_append, List.mem_singleton] at hx
      rcases hx with hx | rfl
      · have := h x (by rw [e]; simp [hx]); omega
      · simp; omega
    · refine ⟨fun x hx => ?_, by simp⟩
      simp only [List.mem_append, List.mem_singleton] at hx
      rcases hx with hx | rfl
      · have := h x hx; omega
      · simp; omega
theorem BFit.keep {N n : Nat} {B : Bld} (h : BFit N B) : BFit (N + n + 3) (B.keep n) := by
  unfold Bld.keep
  split
  · exact h.mono (by omega)
  · have hc := h.close
    obtain ⟨h1, h2⟩ := addKeep_k (n := n) hc.k
    exact ⟨by have := hc.len; simp only; omega, fun s hs => by have := h1 s hs; omega, by simp, by simp⟩
theorem BFit.atom {N : Nat} {B : Bld} (h : BFit N B) (a : Atm) : BFit (N + 4) (B.atom a) := by
  cases a with
  | k => exact h.keep (n := 1)
  | d c => exact ⟨by have := h.len; simp only [Bld.atom]; omega, fun s hs => by have := h.k s hs; omega, by have := h.p; simp only [Bld.atom]; omega, by have := h.d; simp [Bld.atom]; omega⟩
  | p c => exact ⟨by have := h.len; simp only [Bld.atom]; omega, fun s hs => by have := h.k s hs; omega, by have := h.p; simp [Bld.atom]; omega, by have := h.d; simp only [Bld.atom]; omega⟩
theorem BFit.run : ∀ (l : List Atm) {N : Nat} {B : Bld}, BFit N B → BFit (N + 4 * l.length) (B.run l)
  | [], _, _, h => h
  | a :: l, N, B, h => by
    have := BFit.run l (h.atom a)
    exact this.mono (by simp; omega)
theorem BFit.runs (l : List Atm) : BFit (4 * l.length) (Bld.start.run l) := (BFit.run l BFit.start).mono (by omega)
theorem atoms_len (s : Stp) : s.atoms.length = s.k.toNat + s.d.length + s.p.length := by simp [Stp.atoms]; omega
theorem atoms_le : ∀ l : List Atm, l.length ≤ fromA l + toA l
  | [] => Nat.le_refl _
  | .k :: l => by have := atoms_le l; simp only [fromA, toA, List.length_cons]; omega
  | .d _ :: l => by have := atoms_le l; simp only [fromA, toA, List.length_cons]; omega
  | .p _ :: l => by have := atoms_le l; simp only [fromA, toA, List.length_cons]; omega
theorem steps_le : ∀ l : List Stp, (∀ s ∈ l, stpOk s) → l.length ≤ (atomsOf l).length
  | [], _ => Nat.le_refl _
  | s :: l, h => by
    have := steps_le l (fun x hx => h x (List.mem_cons_of_mem _ hx))
    have h1 : 1 ≤ s.atoms.length := by
      rw [atoms_len]
      rcases h s List.mem_cons_self with ⟨h, _, _⟩ | ⟨_, h, _⟩ | ⟨_, _, h⟩
      · omega
      · have := List.length_pos_iff.2 h; omega
      · have := List.length_pos_iff.2 h; omega
    rw [atoms_cons, List.length_append, List.length_cons]; omega
theorem snoc_cases {α : Type} (l : List α) : l = [] ∨ ∃ ys s, l = ys ++ [s] := by
  rcases List.eq_nil_or_concat l with h | ⟨ys, s, h⟩
  · exact .inl h
  · exact .inr ⟨ys, s, by simpa using h⟩
end Go.Eng

/-
  The walks of package edit, sixth part: the builder's keep, step and done. No condition.
-/
namespace Go.Proofs.Ytelgegefmjlimaa
open Go Go.Eng
set_option maxRecDepth 100000
set_option maxHeartbeats 4000000
set_option linter.all false
attribute [local irreducible] WL WC WQ QFun QLoop Does Q1 QRound QAssign Go.Addr.add
theorem keep_any {b : Nat} {c : Option Addr} {cp : Nat} (B : Bld) (n : Nat) (hn : n ≤ 100000000000) (hB : BFit 100000000000 B) (w0 : World) (m : Mem) (H : SHeap) :
    Does Try.prog 55 #[.pointer (some ⟨b, 0, none⟩), .int .i64 (n : Int)] w0 m (.blk b (.cells [.slice c B.l.length cp, str B.p, str B.d].toArray 98 (0, 0)) :: .row c cp 59 3 (B.l.map Stp.cs) :: H)
      (fun v m' H' => v = .tuple #[] ∧ m' = m ∧ ∃ c' cp', H' = .blk b (.cells [.slice c' (B.keep n).l.length cp', str (B.keep n).p, str (B.keep n).d].toArray 98 (0, 0)) :: .row c' cp' 59 3 ((B.keep n).l.map Stp.cs) :: H) := by
  refine Does.of_body (args := [.pointer (some ⟨b, 0, none⟩), .int .i64 (n : Int)]) Try.func55 rfl Try.ntmps55 rfl ?_
  have hlen := hB.len
  by_cases h0 : n = 0
  · subst h0
    (try (refine st ?_; intros))
    exact q_fin0 (H0 := .blk b (.cells [.slice c B.l.length cp, str B.p, str B.d].toArray 98 (0, 0)) :: .row c cp 59 3 (B.l.map Stp.cs) :: H) ⟨rfl, rfl, c, cp, rfl⟩ (hd := (fun w h => Pick.sat (by iterate 60 (try (first | exact Pick.all | (apply Pick.take; (· (repeat (first | exact Out.here | apply Out.there)))) | apply Pick.drop))) h))
  · (try (refine st ?_; intros))
    refine w_callF Try.func72 ?_ (hs := close_any B (by omega) _ _ _)
    rintro v m1 H1 ⟨rfl, rfl, c1, cp1, rfl⟩
    have hkeep : B.keep n = ⟨addKeep B.close.l n, [], []⟩ := by unfold Bld.keep; rw [if_neg (by omega)]
    have hc := hB.close
    rw [hkeep]
    have hcl := hc.len
    have hck := hc.k
    generalize B.close.l = L at *
    have hml : (L.map Stp.cs).length = L.length := by simp
    rcases snoc_cases L with hL | ⟨ys, s, hL⟩
    · have hl0 : L.length = 0 := by rw [hL]; rfl
      (refine st ?_; intros; rename_i x2 c2 cp2)
      rw [hml]
      have e : addKeep L n = L ++ [⟨n, [], []⟩] := by rw [hL]; rfl
      exact q_finNorm0 (H0 := .blk b (.cells [.slice c2 (L.length + 1) cp2, str [], str []].toArray 98 (0, 0)) :: .row c2 cp2 59 3 (L.map Stp.cs ++ [[.int .i64 n, str [], str []]]) :: H) ⟨rfl, rfl, c2, cp2, by rw [e]; simp [Stp.cs]⟩ (hd := (fun w h => Pick.sat (by iterate 60 (try (first | exact Pick.all | (apply Pick.take; (· (repeat (first | exact Out.here | apply Out.there)))) | apply Pick.drop))) h))
    · have hl1 : L.length = ys.length + 1 := by rw [hL]; simp
      have hget : (L.map Stp.cs)[L.length - 1]? = some s.cs := by rw [hL]; simp
      have hsk := hck s (by rw [hL]; simp)
      refine WL.rowSome (a := c1) (by (repeat (first | exact List.Mem.head _ | apply List.Mem.tail))) (by omega) ?_
      rintro c0 rfl
      by_cases hs : 0 < s.k
      · (try (refine st ?_; intros))
        have e : (addKeep L n).length = L.length ∧ (addKeep L n).map Stp.cs = (L.map Stp.cs).set (L.length - 1) [.int .i64 (s.k + n), str s.d, str s.p] := by
          rw [hL]; constructor <;> simp [addKeep, hs, Stp.cs]
        exact q_fin0 (H0 := .blk b (.cells [.slice (some c0) L.length cp1, str [], str []].toArray 98 (0, 0)) :: .row (some c0) cp1 59 3 ((L.map Stp.cs).set (L.length - 1) [.int .i64 (s.k + n), str s.d, str s.p]) :: H) ⟨rfl, rfl, some c0, cp1, by rw [e.1, e.2]⟩ (hd := (fun w h => Pick.sat (by iterate 60 (try (first | exact Pick.all | (apply Pick.take; (· (repeat (first | exact Out.here | apply Out.there)))) | apply Pick.drop))) h))
      · (refine st ?_; intros; rename_i x2 c2 cp2)
        rw [hml]
        have e : addKeep L n = L ++ [⟨n, [], []⟩] := by rw [hL]; simp [addKeep, hs]
        exact q_finNorm0 (H0 := .blk b (.cells [.slice c2 (L.length + 1) cp2, str [], str []].toArray 98 (0, 0)) :: .row c2 cp2 59 3 (L.map Stp.cs ++ [[.int .i64 n, str [], str []]]) :: H) ⟨rfl, rfl, c2, cp2, by rw [e]; simp [Stp.cs]⟩ (hd := (fun w h => Pick.sat (by iterate 60 (try (first | exact Pick.all | (apply Pick.take; (· (repeat (first | exact Out.here | apply Out.there)))) | apply Pick.drop))) h))
end Go.Proofs.Ytelgegefmjlimaa

/-
  The walks of package edit, eighth part: the builder's step and done, the one form of a change. No condition.
-/
namespace Go.Eng
def Stp.v (s : Stp) : Value := .agg #[.int .i64 s.k, str s.d, str s.p]
end Go.Eng
namespace Go.Proofs.Ytelgegefmjlimaa
open Go Go.Eng
set_option maxRecDepth 100000
set_option maxHeartbeats 4000000
set_option linter.all false
attribute [local irreducible] WL WC WQ QFun QLoop Does Q1 QRound QAssign Go.Addr.add
theorem step_any {b : Nat} {c : Option Addr} {cp : Nat} (B : Bld) (s : Stp) (hk : s.k ≤ 100000000000) (hd : s.d.length ≤ 100000000000) (hp : s.p.length ≤ 100000000000) (hB : BFit 100000000000 B) (w0 : World) (m : Mem) (H : SHeap) :
    Does Try.prog 45 #[.pointer (some ⟨b, 0, none⟩), s.v] w0 m (.blk b (.cells [.slice c B.l.length cp, str B.p, str B.d].toArray 98 (0, 0)) :: .row c cp 59 3 (B.l.map Stp.cs) :: H)
      (fun v m' H' => v = .tuple #[] ∧ m' = m ∧ ∃ c' cp', H' = .blk b (.cells [.slice c' (B.step s).l.length cp', str (B.step s).p, str (B.step s).d].toArray 98 (0, 0)) :: .row c' cp' 59 3 ((B.step s).l.map Stp.cs) :: H) := by
  refine Does.of_body (args := [.pointer (some ⟨b, 0, none⟩), .agg #[.int .i64 s.k, str s.d, str s.p]]) Try.func45 rfl Try.ntmps45 rfl ?_
  have h1 := hB.p
  have h2 := hB.d
  by_cases h0 : 0 < s.k
  · obtain ⟨n, hn⟩ : ∃ n : Nat, s.k = (n : Int) := ⟨s.k.toNat, by omega⟩
    have e : B.step s = B.keep n := by unfold Bld.step; rw [if_pos h0, hn]
    rw [e, hn]
    have h0' : 0 < (n : Int) := by omega
    (refine st ?_; intros; rename_i b3)
    refine WL.heap (H' := .blk b (.cells [.slice c B.l.length cp, str B.p, str B.d].toArray 98 (0, 0)) :: .row c cp 59 3 (B.l.map Stp.cs) :: H) (fun w h => Pick.sat (by iterate 60 (try (first | exact Pick.all | (apply Pick.take; (· (repeat (first | exact Out.here | apply Out.there)))) | apply Pick.drop))) h) ?_
    refine w_callF Try.func55 ?_ (hs := keep_any B n (by omega) hB _ _ _)
    rintro v m1 H1 ⟨rfl, rfl, c1, cp1, rfl⟩
    (try (refine st ?_; intros))
    exact q_finNorm0 (H0 := _ :: _ :: H) ⟨rfl, rfl, c1, cp1, rfl⟩ (hd := (fun w h => Pick.sat (by iterate 60 (try (first | exact Pick.all | (apply Pick.take; (· (repeat (first | exact Out.here | apply Out.there)))) | apply Pick.drop))) h))
  · by_cases h3 : s.d = []
    · have e : B.step s = ⟨B.l, B.p ++ s.p, B.d⟩ := by unfold Bld.step; rw [if_neg h0, if_neg (fun h => h h3)]
      rw [e]
      (try (refine st ?_; intros))
      exact q_finNorm0 (H0 := .blk b (.cells [.slice c B.l.length cp, str (B.p ++ s.p), str B.d].toArray 98 (0, 0)) :: .row c cp 59 3 (B.l.map Stp.cs) :: H) ⟨rfl, rfl, c, cp, rfl⟩ (hd := (fun w h => Pick.sat (by iterate 60 (try (first | exact Pick.all | (apply Pick.take; (· (repeat (first | exact Out.here | apply Out.there)))) | apply Pick.drop))) h))
    · have e : B.step s = ⟨B.l, B.p, B.d ++ s.d⟩ := by unfold Bld.step; rw [if_neg h0, if_pos h3]
      rw [e]
      (try (refine st ?_; intros))
      exact q_finNorm0 (H0 := .blk b (.cells [.slice c B.l.length cp, str B.p, str (B.d ++ s.d)].toArray 98 (0, 0)) :: .row c cp 59 3 (B.l.map Stp.cs) :: H) ⟨rfl, rfl, c, cp, rfl⟩ (hd := (fun w h => Pick.sat (by iterate 60 (try (first | exact Pick.all | (apply Pick.take; (· (repeat (first | exact Out.here | apply Out.there)))) | apply Pick.drop))) h))
theorem done_any {b : Nat} {c : Option Addr} {cp : Nat} (B : Bld) (hB : B.l.length ≤ 1000000000000) (w0 : World) (m : Mem) (H : SHeap) :
    Does Try.prog 48 #[.pointer (some ⟨b, 0, none⟩)] w0 m (.blk b (.cells [.slice c B.l.length cp, str B.p, str B.d].toArray 98 (0, 0)) :: .row c cp 59 3 (B.l.map Stp.cs) :: H)
      (fun v m' H' => m' = m ∧ ∃ c' cp', v = .slice c' B.close.l.length cp' ∧ H' = .row c' cp' 59 3 (B.close.l.map Stp.cs) :: H) := by
  refine Does.of_body (args := [.pointer (some ⟨b, 0, none⟩)]) Try.func48 rfl Try.ntmps48 rfl ?_
  (try (refine st ?_; intros))
  refine w_callF Try.func72 ?_ (hs := close_any B hB _ _ _)
  rintro v m1 H1 ⟨rfl, rfl, c1, cp1, rfl⟩
  (try (refine st ?_; intros))
  exact q_fin0 (H0 := .row c1 cp1 59 3 (B.close.l.map Stp.cs) :: H) ⟨rfl, c1, cp1, rfl, rfl⟩ (hd := (fun w h => Pick.sat (by iterate 60 (try (first | exact Pick.all | (apply Pick.take; (· (repeat (first | exact Out.here | apply Out.there)))) | apply Pick.drop))) h))
theorem plain_any {a : Option Addr} {cap : Nat} {l : List Stp} (hok : ∀ s ∈ l, stpOk s) (hl : (atomsOf l).length ≤ 1000000000) (w0 : World) (m : Mem) (H : SHeap) (hr : RowR w0 m H 3 a (l.map Stp.cs)) :
    Does Try.prog 42 #[.slice a l.length cap] w0 m H (fun v m' H' => m' = m ∧ ∃ c' cp', v = .slice c' (plainOf l).length cp' ∧ H' = .row c' cp' 59 3 ((plainOf l).map Stp.cs) :: H) := by
  refine Does.of_body (args := [.slice a l.length cap]) Try.func42 rfl Try.ntmps42 rfl ?_
  have hln : (l.map Stp.cs).length = l.length := by simp
  have hlen := steps_le l hok
  (refine st ?_; intros; rename_i b)
  refine WC.newRow (T := 59) (sz := 3) ?_
  refine WC.loopH [(8, .int .i64 ((0) : Int)), (7, .int .i64 (l.length : Int)), (6, .slice a l.length cap), (3, .pointer (some ⟨b, 0, none⟩))] ?_ ?_ (fun j r ds m' H' => ∃ i c cp B, j = l.length - i ∧ r = [(8, .int .i64 (i : Int)), (7, .int .i64 (l.length : Int)), (6, .slice a l.length cap), (3, .pointer (some ⟨b, 0, none⟩))] ∧ ds = [] ∧ m = m' ∧ H' = .blk b (.cells [.slice c B.l.length cp, str B.p, str B.d].toArray 98 (0, 0)) :: .row c cp 59 3 (B.l.map Stp.cs) :: H ∧ (i ≤ l.length) ∧ (B = Bld.start.run (atomsOf (l.take i)))) (l.length - (0)) ⟨0, none, 0, Bld.start, rfl, rfl, rfl, rfl, rfl, by omega, by simp [atomsOf, Bld.run]⟩ ?_
  · (repeat (first | exact Env.Sub.nil | refine Env.Sub.cons rfl ?_))
  · exact (fun w h => Pick.sat (by iterate 60 (try (first | exact Pick.all | (apply Pick.take; (· (repeat (first | exact Out.here | apply Out.there)))) | apply Pick.drop))) h)
  rintro j r ds m' H' ⟨i, c, cp, B, rfl, rfl, rfl, rfl, rfl, hi, hB⟩
  have htl : (atomsOf (l.take i)).length ≤ (atomsOf l).length := by
    have e : atomsOf l = atomsOf (l.take i) ++ atomsOf (l.drop i) := by rw [← atoms_append, List.take_append_drop]
    rw [e]; simp
  have hfit : BFit 10000000000 B := by rw [hB]; exact (BFit.runs _).mono (by omega)
  by_cases hlt : i < l.length
  · obtain ⟨x, hx, hget, htk, hmem, hdr⟩ := at_idx (f := Stp.cs) hlt
    have hr1 := (hr.more (i := .row c cp 59 3 (B.l.map Stp.cs))).more (i := .blk b (.cells [.slice c B.l.length cp, str B.p, str B.d].toArray 98 (0, 0)))
    have hxl : x.atoms.length ≤ (atomsOf l).length := by
      have e : atomsOf l = atomsOf (l.take (i + 1)) ++ atomsOf (l.drop (i + 1)) := by rw [← atoms_append, List.take_append_drop]
      rw [e, htk, atoms_append, atoms_one]; simp only [List.length_append]; omega
    rw [atoms_len] at hxl
    refine WC.rSome hr1 (by omega) ?_
    rintro a0 rfl
    (refine st ?_; intros; rename_i bx)
    refine WL.heap (H' := .blk b (.cells [.slice c B.l.length cp, str B.p, str B.d].toArray 98 (0, 0)) :: .row c cp 59 3 (B.l.map Stp.cs) :: H) (fun w h => Pick.sat (by iterate 60 (try (first | exact Pick.all | (apply Pick.take; (· (repeat (first | exact Out.here | apply Out.there)))) | apply Pick.drop))) h) ?_
    refine w_callF Try.func45 ?_ (hs := step_any B x (by omega) (by omega) (by omega) (hfit.mono (by omega)) _ _ _)
    rintro v m1 H1 ⟨rfl, rfl, c1, cp1, rfl⟩
    (try (refine st ?_; intros))
    refine WQ.next (l.length - (i + 1)) ⟨i + 1, c1, cp1, B.step x, rfl, rfl, rfl, rfl, rfl, ?_, ?_⟩ (by omega) (by (repeat (first | exact Env.Sub.nil | refine Env.Sub.cons rfl ?_))) (fun w h => Pick.sat (by iterate 60 (try (first | exact Pick.all | (apply Pick.take; (· (repeat (first | exact Out.here | apply Out.there)))) | apply Pick.drop))) h)
    · omega
    · rw [htk, atoms_append, run_append, ← hB, atoms_one, run_step _ _ (hok x hmem)]
  · obtain rfl : i = l.length := by omega
    have hlen2 := hfit.len
    (try (refine st ?_; intros))
    refine w_callF Try.func48 ?_ (hs := done_any B (by omega) _ _ _)
    rintro v m1 H1 ⟨rfl, c1, cp1, rfl, rfl⟩
    (try (refine st ?_; intros))
    have e : B.close.l = plainOf l := by
      rw [hB, List.take_length, plainOf]
      have : ∀ (l : List Stp) (b : Bld), (∀ s ∈ l, stpOk s) → b.run (atomsOf l) = l.foldl Bld.step b := by
        intro l
        induction l with
        | nil => intro b _; rfl
        | cons s l ih => intro b h; rw [atoms_cons, run_append, run_step _ _ (h s List.mem_cons_self), ih _ (fun x hx => h x (List.mem_cons_of_mem _ hx)), List.foldl_cons]
      rw [this l _ hok]
    rw [e]
    exact q_fin0 (H0 := .row c1 cp1 59 3 ((plainOf l).map Stp.cs) :: H) ⟨rfl, c1, cp1, rfl, rfl⟩ (hd := (fun w h => Pick.sat (by iterate 60 (try (first | exact Pick.all | (apply Pick.take; (· (repeat (first | exact Out.here | apply Out.there)))) | apply Pick.drop))) h))
end Go.Proofs.Ytelgegefmjlimaa

/-
  What a function hands back that makes a change. No condition.
-/
namespace Go.Eng
open Go Go.RowKit
def ListP (T : TypeId) (r : Int ⊕ List Stp) (k : IntKind) (m : Mem) (H : SHeap) : Value → Mem → SHeap → Prop := fun v m' H' => m' = m ∧ match r with
  | .inl e => v = .tuple #[.slice none 0 0, .int k e] ∧ H' = H
  | .inr l => ∃ c cp, v = .tuple #[.slice c l.length cp, .int k 0] ∧ H' = .row c cp T 3 (l.map Stp.cs) :: H
end Go.Eng

/-
  The walks of package runes and of its reference, first part: a rune's width, the piece that is read at a place. No condition.
-/
namespace Go.Proofs.Ytelgegefmjlimaa
open Go Go.Eng
set_option maxRecDepth 100000
set_option maxHeartbeats 4000000
set_option linter.all false
attribute [local irreducible] WL WC WQ QFun QLoop Does Q1 QRound QAssign Go.Addr.add
/-- runes.Width, of whatever number -/
def widthS (r : Int) : Int := if r ≠ 65533 ∧ fmb (rn r) = [239, 191, 189] then 0 else (wd (rn r) : Int)
theorem width_any (r : Int) (w0 : World) (m : Mem) (H : SHeap) : Does Try.prog 80 #[.int .i32 r] w0 m H (Gives (.int .i64 (widthS r)) m H) := by
  refine Does.of_body (args := [.int .i32 r]) Try.func80 rfl Try.ntmps80 rfl ?_
  (try (refine st ?_; intros))
  (first | refine c_ways (fun h1 => ?_) (fun h1 => ?_) | refine c_nways (fun h1 => ?_) (fun h1 => ?_) | refine w_gways (fun h1 => ?_) (fun h1 => ?_) | refine w_gnways (fun h1 => ?_) (fun h1 => ?_))
  · (try (refine st ?_; intros))
    (first | refine c_ways (fun h2 => ?_) (fun h2 => ?_) | refine c_nways (fun h2 => ?_) (fun h2 => ?_) | refine w_gways (fun h2 => ?_) (fun h2 => ?_) | refine w_gnways (fun h2 => ?_) (fun h2 => ?_))
    · (try (refine st ?_; intros))
      rw [encode_eq] at h2
      exact WQ.fin _ (res_tmp rfl rfl) (.mk (by rw [widthS, if_pos ⟨h1, h2⟩]))
    · (try (refine st ?_; intros))
      rw [encode_eq] at h2 ⊢
      exact WQ.fin _ (res_tmp rfl rfl) (.mk (by rw [widthS, if_neg (fun h => h2 h.2), fmb_length]))
  · (try (refine st ?_; intros))
    rw [encode_eq]
    exact WQ.fin _ (res_tmp rfl rfl) (.mk (by rw [widthS, if_neg (fun h => h.1 h1), fmb_length]))

theorem widthS_ok {c : Nat} (h : okr c) : widthS (c : Int) = (wd c : Int) := by
  unfold widthS
  rw [rn_nat h, if_neg]
  rintro ⟨h1, h2⟩
  apply h1
  have h3 : wd c = 3 := by rw [← fmb_length c, h2]; rfl
  have hc : ¬ c < 128 ∧ ¬ c < 2048 ∧ c < 65536 := by
    unfold wd at h3
    split at h3
    · cases h3
    · split at h3
      · cases h3
      · split at h3
        · omega
        · cases h3
  have h4 := nb_fmb c 0 (by omega) (by omega)
  have h5 := nb_fmb c 1 (by omega) (by omega)
  have h6 := nb_fmb c 2 (by omega) (by omega)
  rw [h2] at h4 h5 h6
  unfold fm at h4 h5 h6
  rw [if_neg hc.1, if_neg hc.2.1, if_pos hc.2.2] at h4 h5 h6
  simp [nb, gb] at h4 h5 h6
  omega
theorem fmb_lost : fmb 65533 = [239, 191, 189] := by decide
/-- what the text bears there is the form of U+FFFD just if it is decoded as one of three bytes -/
theorem lost_iff (l : List UInt8) (hl : 0 < l.length) (h : (dl l).1 = 65533) : (¬ l.length < 3 ∧ l.take 3 = [239, 191, 189]) ↔ ¬ dl l = (65533, 1) := by
  have hw : wd 65533 = 3 := by decide
  constructor
  · rintro ⟨h1, h2⟩ h3
    have := dl_of_begins (l := l) (c := 65533) (by right; decide) ((begins_iff l 65533 (by decide)).2 (by rw [hw, h2, fmb_lost]))
    rw [h3, hw] at this
    cases this
  · intro h3
    rcases dl_cases l hl with ⟨_, _, hb⟩ | ⟨he, _⟩
    · rw [h] at hb
      have := (begins_iff l 65533 (by decide)).1 hb
      rw [hw, fmb_lost] at this
      have hb1 := hb.1
      rw [hw] at hb1
      exact ⟨by omega, this⟩
    · exact absurd he h3
theorem readP_some {l : List UInt8} {k : Nat} (hk : k < l.length) (h : ¬ dl (l.drop k) = (65533, 1)) : okr (dl (l.drop k)).1 ∧ widthS ((dl (l.drop k)).1 : Int) = ((dl (l.drop k)).2 : Int) := by
  rcases dl_cases (l.drop k) (by simp; omega) with ⟨h1, h2, _⟩ | ⟨he, _⟩
  · exact ⟨h1, by rw [widthS_ok h1, h2]⟩
  · exact absurd he h

theorem take_drop_swap (l : List UInt8) (k j : Nat) : (l.take (k + j)).drop k = (l.drop k).take j := by
  rw [List.drop_take]; congr 1; omega
theorem read_any (l : List UInt8) (k : Nat) (hl : l.length ≤ 9223372036854775804) (hk : k < l.length) (w0 : World) (m : Mem) (H : SHeap) :
    Does Try.prog 78 #[str l, .int .i64 (k : Int)] w0 m H (Gives (readP l k).v m H) := by
  have hlen : (l.drop k).length = l.length - k := List.length_drop
  have hli := lost_iff (l.drop k) (by omega)
  have hso := fun h => (readP_some hk h).2
  rw [hlen] at hli
  refine Does.of_body (args := [str l, .int .i64 (k : Int)]) Try.func78 rfl Try.ntmps78 rfl ?_
  (try (refine st ?_; intros))
  apply WC.loop1
  (try (refine st ?_; intros))
  refine WL.rename 15 (u := .int .i32 ((dl (l.drop k)).1 : Int)) rfl rfl ?_
  refine WL.rename 6 (u := .int .i32 ((dl (l.drop k)).1 : Int)) rfl rfl ?_
  refine w_callF Try.func80 ?_ (hs := width_any _ _ _ _)
  rintro _ _ _ ⟨rfl, rfl, rfl⟩
  by_cases hA : dl (l.drop k) = (65533, 1)
  · have h1 : (dl (l.drop k)).1 = 65533 := by rw [hA]
    (try (refine st ?_; intros))
    (first | refine c_ways (fun h2 => ?_) (fun h2 => ?_) | refine c_nways (fun h2 => ?_) (fun h2 => ?_) | refine w_gways (fun h2 => ?_) (fun h2 => ?_) | refine w_gnways (fun h2 => ?_) (fun h2 => ?_))
    · (try (refine st ?_; intros))
      (refine q_fin0 ?_)
      refine Gives.mk ?_
      unfold readP; rw [if_pos hA]; rfl
    · (try (refine st ?_; intros))
      (first | refine c_ways (fun h3 => ?_) (fun h3 => ?_) | refine c_nways (fun h3 => ?_) (fun h3 => ?_) | refine w_gways (fun h3 => ?_) (fun h3 => ?_) | refine w_gnways (fun h3 => ?_) (fun h3 => ?_))
      · (try (refine st ?_; intros))
        (refine q_fin0 ?_)
        refine Gives.mk ?_
        unfold readP; rw [if_pos hA]; rfl
      · exfalso
        rw [take_drop_swap] at h3
        exact (hli h1).1 ⟨by omega, h3⟩ hA
  · have hw := hso hA
    (try (refine st ?_; intros))
    (first | refine c_ways (fun h2 => ?_) (fun h2 => ?_) | refine c_nways (fun h2 => ?_) (fun h2 => ?_) | refine w_gways (fun h2 => ?_) (fun h2 => ?_) | refine w_gnways (fun h2 => ?_) (fun h2 => ?_))
    · have h1 : (dl (l.drop k)).1 = 65533 := by omega
      obtain ⟨h4, h5⟩ := (hli h1).2 hA
      (try (refine st ?_; intros))
      (first | refine c_ways (fun h3 => ?_) (fun h3 => ?_) | refine c_nways (fun h3 => ?_) (fun h3 => ?_) | refine w_gways (fun h3 => ?_) (fun h3 => ?_) | refine w_gnways (fun h3 => ?_) (fun h3 => ?_))
      · exfalso
        rw [take_drop_swap] at h3
        exact h3 h5
      · (try (refine st ?_; intros))
        (refine q_fin0 ?_)
        refine Gives.mk ?_
        unfold readP; rw [if_neg hA, hw]; rfl
    · (try (refine st ?_; intros))
      (refine q_fin0 ?_)
      refine Gives.mk ?_
      unfold readP; rw [if_neg hA, hw]; rfl
end Go.Proofs.Ytelgegefmjlimaa

/-
  Plain facts on the pieces of a text, second part: pieces lie in step with the forms; the last piece. No condition.
-/
set_option linter.all false
namespace Go.Eng
open Go
set_option linter.all false
theorem fm_lead {c : Nat} (hc : c ≤ 1114111) : (fm c).getD 0 0 < 128 ∨ (192 ≤ (fm c).getD 0 0) := by
  unfold fm
  split
  · left; simpa
  · split
    · right; simp
    · split
      · right; simp; omega
      · right; simp; omega
theorem fm_cont {c i : Nat} (h1 : 1 ≤ i) (h2 : i < wd c) : 128 ≤ (fm c).getD i 0 ∧ (fm c).getD i 0 < 192 := by
  unfold fm
  unfold wd at h2
  split at h2
  · omega
  · rename_i h3
    rw [if_neg h3]
    split at h2
    · rename_i h4
      rw [if_pos h4]
      have : i = 1 := by omega
      subst this
      simp; omega
    · rename_i h4
      rw [if_neg h4]
      split at h2
      · rename_i h5
        rw [if_pos h5]
        obtain rfl | rfl : i = 1 ∨ i = 2 := by omega
        · simp; omega
        · simp; omega
      · rename_i h5
        rw [if_neg h5]
        obtain rfl | rfl | rfl : i = 1 ∨ i = 2 ∨ i = 3 := by omega
        · simp; omega
        · simp; omega
        · simp; omega
theorem head_lead {l : List UInt8} (hl : 0 < l.length) (h : ¬ dl l = (65533, 1)) : gb l 0 < 128 ∨ 192 ≤ gb l 0 := by
  rcases dl_cases l hl with ⟨h1, h2, h3⟩ | ⟨h1, _⟩
  · have := h3.2 0 (wd_pos _).1
    rw [show gb l 0 = nb l 0 from rfl, this]
    exact fm_lead (okr_le h1)
  · exact absurd h1 h
theorem tail_cont {l : List UInt8} (hl : 0 < l.length) {i : Nat} (h1 : 1 ≤ i) (h2 : i < (dl l).2) : 128 ≤ gb l i ∧ gb l i < 192 := by
  rcases dl_cases l hl with ⟨g1, g2, g3⟩ | ⟨g1, _⟩
  · rw [g2] at h2
    have := g3.2 i h2
    rw [show gb l i = nb l i from rfl, this]
    exact fm_cont h1 h2
  · rw [g1] at h2; simp at h2; omega
/-- a place where a piece begins -/
def Reach (l : List UInt8) (j : Nat) : Prop := ∃ pre, pieces l = pre ++ from_ l j
theorem Reach.zero (l : List UInt8) : Reach l 0 := ⟨[], rfl⟩
theorem Reach.step {l : List UInt8} {j : Nat} (h : Reach l j) (hj : j < l.length) : Reach l (j + (readP l j).w) := by
  obtain ⟨pre, h⟩ := h
  exact ⟨pre ++ [readP l j], by rw [h, from_cons hj]; simp⟩
theorem reach_lead {l : List UInt8} {j : Nat} (hj : j < l.length) (hlead : gb l j < 128 ∨ 192 ≤ gb l j) : ∀ d i, j - i ≤ d → i ≤ j → Reach l i → Reach l j
  | 0, i, hd, hi, h => by
    have : i = j := by omega
    subst this; exact h
  | d + 1, i, hd, hi, h => by
    by_cases e : i = j
    · subst e; exact h
    · have hil : i < l.length := by omega
      have hw := readP_w hil
      have h2 : i + (readP l i).w ≤ j := by
        rw [readP_w_eq]
        rcases Nat.lt_or_ge j (i + (dl (l.drop i)).2) with hlt | hge
        · exfalso
          have := tail_cont (l := l.drop i) (by simp; omega) (i := j - i) (by omega) (by omega)
          rw [show gb (l.drop i) (j - i) = gb l (i + (j - i)) from nb_drop l i (j - i), show i + (j - i) = j by omega] at this
          omega
        · exact hge
      exact reach_lead hj hlead d _ (by omega) h2 (h.step hil)
/-- what begins whole at a place begins a piece -/
theorem reach_whole {l : List UInt8} {j : Nat} (hj : j < l.length) (h : (readP l j).b = false) : Reach l j := by
  have h1 : ¬ dl (l.drop j) = (65533, 1) := by
    intro h2
    simp [readP, h2] at h
  have := head_lead (l := l.drop j) (by simp; omega) h1
  rw [show gb (l.drop j) 0 = gb l (j + 0) from nb_drop l j 0] at this
  exact reach_lead hj this j 0 (by omega) (by omega) (Reach.zero l)
theorem readP_b {l : List UInt8} {j : Nat} (h : (readP l j).b = true) : (readP l j).w = 1 := by
  unfold readP at h ⊢
  split
  · rfl
  · rename_i h2
    rw [if_neg h2] at h
    cases h
theorem exists_last (l : List UInt8) : ∀ d i, l.length - i ≤ d → i < l.length → Reach l i → ∃ j, Reach l j ∧ j < l.length ∧ j + (readP l j).w = l.length
  | 0, i, hd, hi, _ => by omega
  | d + 1, i, hd, hi, h => by
    have hw := readP_w hi
    by_cases e : i + (readP l i).w = l.length
    · exact ⟨i, h, hi, e⟩
    · exact exists_last l d _ (by omega) (by omega) (h.step hi)
def lastP (l : List UInt8) : Pc := (pieces l).getLastD ⟨0, 0, 0, false⟩
theorem lastP_of {l : List UInt8} {j : Nat} (h : Reach l j) (hj : j < l.length) (he : j + (readP l j).w = l.length) : lastP l = readP l j := by
  obtain ⟨pre, h⟩ := h
  rw [from_cons hj, he, from_nil (by omega)] at h
  simp [lastP, h]
theorem lastP_whole {l : List UInt8} {w : Nat} (hw : w ≤ l.length) (h1 : 1 ≤ w) (hb : (readP l (l.length - w)).b = false) (he : (readP l (l.length - w)).w = w) : lastP l = readP l (l.length - w) :=
  lastP_of (reach_whole (by omega) hb) (by omega) (by omega)
theorem lastP_one {l : List UInt8} (hl : 0 < l.length) (h : ∀ w, 2 ≤ w → w ≤ 4 → w ≤ l.length → ¬ ((readP l (l.length - w)).b = false ∧ (readP l (l.length - w)).w = w)) : lastP l = readP l (l.length - 1) := by
  obtain ⟨j, h1, h2, h3⟩ := exists_last l l.length 0 (by omega) hl (Reach.zero l)
  have hw := readP_w h2
  rw [lastP_of h1 h2 h3]
  by_cases e : (readP l j).w = 1
  · rw [show l.length - 1 = j by omega]
  · exfalso
    refine h (readP l j).w (by omega) (by omega) (by omega) ?_
    rw [show l.length - (readP l j).w = j by omega]
    refine ⟨?_, rfl⟩
    cases hb : (readP l j).b with
    | false => rfl
    | true => exact absurd (readP_b hb) e
end Go.Eng

/-
  Plain facts on the pieces of a text, third part: which places are boundaries, and what stands around a place. No condition.
-/
set_option linter.all false
namespace Go.Eng
open Go
set_option linter.all false
theorem from_split (l : List UInt8) : ∀ d k, l.length - k ≤ d → ∀ pre p post, from_ l k = pre ++ p :: post → k ≤ p.at_ ∧ p.at_ < l.length ∧ p = readP l p.at_ ∧ p :: post = from_ l p.at_ ∧ (∀ q ∈ pre, q.at_ < p.at_)
  | 0, k, hd, pre, p, post, h => by
    rw [from_nil (by omega)] at h; simp at h
  | d + 1, k, hd, pre, p, post, h => by
    by_cases hk : k < l.length
    · have hw := readP_w hk
      have h' := h
      rw [from_cons hk] at h
      cases pre with
      | nil =>
        simp only [List.nil_append, List.cons.injEq] at h
        obtain ⟨rfl, h2⟩ := h
        have ha := readP_at l k
        refine ⟨by omega, by omega, by rw [ha], by rw [ha, from_cons hk, h2], by simp⟩
      | cons q pre =>
        simp only [List.cons_append, List.cons.injEq] at h
        obtain ⟨rfl, h2⟩ := h
        obtain ⟨g1, g2, g3, g4, g5⟩ := from_split l d _ (by omega) pre p post h2
        refine ⟨by omega, g2, g3, g4, fun q hq => ?_⟩
        rcases List.mem_cons.1 hq with rfl | hq
        · rw [readP_at]; omega
        · exact g5 q hq
    · rw [from_nil hk] at h; simp at h
theorem pieces_split {l : List UInt8} {pre post : List Pc} {p : Pc} (h : pieces l = pre ++ p :: post) : p.at_ < l.length ∧ p = readP l p.at_ ∧ p :: post = from_ l p.at_ ∧ (∀ q ∈ pre, q.at_ < p.at_) :=
  (from_split l l.length 0 (by omega) pre p post h).2
theorem reach_of_mem {l : List UInt8} {p : Pc} (h : p ∈ pieces l) : Reach l p.at_ ∧ p.at_ < l.length ∧ p = readP l p.at_ := by
  obtain ⟨pre, post, e⟩ := List.append_of_mem h
  obtain ⟨h1, h2, h3, _⟩ := pieces_split e
  exact ⟨⟨pre, by rw [e, h3]⟩, h1, h2⟩
theorem reach_mem {l : List UInt8} {k : Nat} (h : Reach l k) (hk : k < l.length) : readP l k ∈ pieces l := by
  obtain ⟨pre, e⟩ := h
  rw [e, from_cons hk]; simp
/-- what lies ahead of a place where a piece begins, and what from it on -/
theorem reach_parts {l : List UInt8} {k : Nat} (h : Reach l k) : ∃ pre, pieces l = pre ++ from_ l k ∧ (∀ q ∈ pre, q.at_ < k ∨ l.length ≤ k) ∧ (∀ q ∈ from_ l k, k ≤ q.at_) := by
  obtain ⟨pre, e⟩ := h
  refine ⟨pre, e, fun q hq => ?_, fun q hq => ?_⟩
  · by_cases hk : k < l.length
    · rw [from_cons hk] at e
      have := (pieces_split e).2.2.2 q hq
      rw [readP_at] at this
      exact .inl this
    · exact .inr (by omega)
  · obtain ⟨a, b, e2⟩ := List.append_of_mem hq
    exact (from_split l l.length k (by omega) a q b e2).1
/-- within a piece no piece begins -/
theorem not_reach_within {l : List UInt8} {i j : Nat} (hi : i < l.length) (h : Reach l i) (h1 : i < j) (h2 : j < i + (readP l i).w) : ¬ Reach l j := by
  intro hj
  have hw := readP_w hi
  have hjl : j < l.length := by omega
  obtain ⟨pre, e, g1, g2⟩ := reach_parts h
  have hm := reach_mem hj hjl
  rw [e, List.mem_append] at hm
  rcases hm with hm | hm
  · rcases g1 _ hm with g | g
    · rw [readP_at] at g; omega
    · omega
  · rw [from_cons hi] at hm
    rcases List.mem_cons.1 hm with hm | hm
    · have := congrArg Pc.at_ hm
      rw [readP_at, readP_at] at this; omega
    · obtain ⟨a, b, e2⟩ := List.append_of_mem hm
      have := (from_split l l.length _ (by omega) a _ b e2).1
      rw [readP_at] at this; omega
theorem exists_around {l : List UInt8} {j : Nat} (hj : j < l.length) : ∀ d i, j - i ≤ d → i ≤ j → Reach l i → ∃ k, Reach l k ∧ k ≤ j ∧ j < k + (readP l k).w
  | 0, i, hd, hi, h => by
    have hw := readP_w (l := l) (k := i) (by omega)
    exact ⟨i, h, hi, by omega⟩
  | d + 1, i, hd, hi, h => by
    have hw := readP_w (l := l) (k := i) (by omega)
    by_cases e : j < i + (readP l i).w
    · exact ⟨i, h, hi, e⟩
    · exact exists_around hj d _ (by omega) (by omega) (h.step (by omega))
/-- a place within a form: where the form begins -/
def Within (l : List UInt8) (at_ i : Nat) : Prop := i < at_ ∧ at_ < i + (readP l i).w ∧ (readP l i).b = false
theorem within_reach {l : List UInt8} {at_ i : Nat} (ha : at_ ≤ l.length) (h : Within l at_ i) : Reach l i ∧ i < l.length ∧ at_ ≤ i + 3 ∧ at_ < l.length := by
  obtain ⟨h1, h2, h3⟩ := h
  have hi : i < l.length := by omega
  have hw := readP_w hi
  exact ⟨reach_whole hi h3, hi, by omega, by omega⟩
theorem within_unique {l : List UInt8} {at_ i j : Nat} (ha : at_ ≤ l.length) (h : Within l at_ i) (h' : Within l at_ j) : i = j := by
  obtain ⟨r1, i1, _⟩ := within_reach ha h
  obtain ⟨r2, j1, _⟩ := within_reach ha h'
  obtain ⟨a1, a2, a3⟩ := h
  obtain ⟨b1, b2, b3⟩ := h'
  rcases Nat.lt_trichotomy i j with g | g | g
  · exact absurd r2 (not_reach_within i1 r1 g (by omega))
  · exact g
  · exact absurd r1 (not_reach_within j1 r2 g (by omega))
theorem within_iff {l : List UInt8} {at_ : Nat} (ha : at_ ≤ l.length) : (∃ i, Within l at_ i) ↔ ¬ (at_ = l.length ∨ Reach l at_) := by
  constructor
  · rintro ⟨i, h⟩ hr
    obtain ⟨r1, i1, i2, i3⟩ := within_reach ha h
    rcases hr with hr | hr
    · omega
    · exact not_reach_within i1 r1 h.1 h.2.1 hr
  · intro hn
    have hlt : at_ < l.length := by
      rcases Nat.lt_or_ge at_ l.length with h | h
      · exact h
      · exact absurd (.inl (by omega)) hn
    obtain ⟨k, h1, h2, h3⟩ := exists_around hlt at_ 0 (by omega) (by omega) (Reach.zero l)
    refine ⟨k, ?_, h3, ?_⟩
    · rcases Nat.lt_or_ge k at_ with h | h
      · exact h
      · have : k = at_ := by omega
        subst this
        exact absurd (.inr h1) hn
    · cases hb : (readP l k).b with
      | false => rfl
      | true =>
        have := readP_b hb
        have : k = at_ := by omega
        subst this
        exact absurd (.inr h1) hn
end Go.Eng

/-
  Plain facts: pieces that two texts have alike, their order; a rune's first piece. No condition.
-/
set_option linter.all false
namespace Go.Eng
open Go
/-- a piece's place in the order of pieces -/
def wt (l : List UInt8) (p : Pc) : Nat := if p.b then 16777216 + gb l p.at_ else p.r
def cm : List Nat → List Nat → Nat
  | x :: X, y :: Y => if x = y then cm X Y + 1 else 0
  | _, _ => 0
def cmpL : List Nat → List Nat → Int
  | [], [] => 0
  | [], _ :: _ => -1
  | _ :: _, [] => 1
  | x :: X, y :: Y => if x = y then cmpL X Y else if x < y then -1 else 1
theorem cm_pre : ∀ (P X Y : List Nat), cm (P ++ X) (P ++ Y) = P.length + cm X Y
  | [], X, Y => by simp
  | p :: P, X, Y => by simp [cm, cm_pre P X Y]; omega
theorem cmpL_pre : ∀ (P X Y : List Nat), cmpL (P ++ X) (P ++ Y) = cmpL X Y
  | [], X, Y => rfl
  | p :: P, X, Y => by simp [cmpL, cmpL_pre P X Y]
/-- two rows that have nothing alike at their heads -/
def stop : List Nat → List Nat → Prop
  | x :: _, y :: _ => x ≠ y
  | _, _ => True
theorem cm_stop {X Y : List Nat} (h : stop X Y) : cm X Y = 0 := by
  cases X <;> cases Y <;> simp_all [cm, stop]
theorem cm_split : ∀ X Y : List Nat, ∃ P X' Y', X = P ++ X' ∧ Y = P ++ Y' ∧ cm X Y = P.length ∧ stop X' Y'
  | [], Y => ⟨[], [], Y, rfl, rfl, by simp [cm], trivial⟩
  | x :: X, [] => ⟨[], x :: X, [], rfl, rfl, by simp [cm], trivial⟩
  | x :: X, y :: Y => by
    by_cases h : x = y
    · subst h
      obtain ⟨P, X', Y', rfl, rfl, h1, h2⟩ := cm_split X Y
      exact ⟨x :: P, X', Y', rfl, rfl, by simp [cm, h1], h2⟩
    · exact ⟨[], x :: X, y :: Y, rfl, rfl, by simp [cm, h], h⟩
theorem readP_cases {l : List UInt8} {k : Nat} (hk : k < l.length) : ((readP l k).b = true ∧ (readP l k).w = 1 ∧ (readP l k).r = 65533) ∨ ((readP l k).b = false ∧ (readP l k).w = wd (readP l k).r ∧ (readP l k).r ≤ 1114111) := by
  unfold readP
  split
  · exact .inl ⟨rfl, rfl, rfl⟩
  · rename_i h
    rcases dl_cases (l.drop k) (by simp; omega) with ⟨h1, h2, _⟩ | ⟨h2, _⟩
    · exact .inr ⟨rfl, h2, okr_le h1⟩
    · exact absurd h2 h
theorem wt_read {l : List UInt8} {k : Nat} : wt l (readP l k) = if (readP l k).b then 16777216 + gb l k else (readP l k).r := by unfold wt; rw [readP_at]
/-- so far all is alike -/
def Sh (a b : List UInt8) (n k : Nat) : Prop := ∃ pa pb, pieces a = pa ++ from_ a k ∧ pieces b = pb ++ from_ b k ∧ pa.length = n ∧ pb.length = n ∧ pa.map (wt a) = pb.map (wt b) ∧ k ≤ a.length ∧ k ≤ b.length
theorem Sh.start (a b : List UInt8) : Sh a b 0 0 := ⟨[], [], rfl, rfl, rfl, rfl, rfl, by omega, by omega⟩
theorem wt_same {a b : List UInt8} {k : Nat} (ha : k < a.length) (hb : k < b.length) : wt a (readP a k) = wt b (readP b k) ↔ readP a k = readP b k ∧ ((readP a k).b = true → gb a k = gb b k) := by
  rw [wt_read, wt_read]
  have h1 := readP_at a k
  have h2 := readP_at b k
  have h3 := gb_lt a k
  have h4 := gb_lt b k
  have e1 := readP_cases ha
  have e2 := readP_cases hb
  generalize readP a k = p at *
  generalize readP b k = q at *
  obtain ⟨pa, pw, pr, pb⟩ := p
  obtain ⟨qa, qw, qr, qb⟩ := q
  simp only at *
  subst h1; subst h2
  simp only [Pc.mk.injEq]
  rcases e1 with ⟨rfl, rfl, rfl⟩ | ⟨rfl, rfl, h5⟩ <;> rcases e2 with ⟨rfl, rfl, rfl⟩ | ⟨rfl, rfl, h6⟩
  · simp
  · simp; omega
  · simp; omega
  · simp; intro h; rw [h]
theorem Sh.next {a b : List UInt8} {n k : Nat} (h : Sh a b n k) (ha : k < a.length) (hb : k < b.length) (hw : wt a (readP a k) = wt b (readP b k)) : Sh a b (n + 1) (k + (readP a k).w) := by
  obtain ⟨pa, pb, h1, h2, h3, h4, h5, h6, h7⟩ := h
  have he := ((wt_same ha hb).1 hw).1
  rw [from_cons ha] at h1
  rw [from_cons hb] at h2
  have w1 := readP_w ha
  have w2 := readP_w hb
  refine ⟨pa ++ [readP a k], pb ++ [readP b k], by simpa using h1, by rw [he]; simpa using h2, by simp [h3], by simp [h4], by simp [h5, hw], by omega, by rw [he]; omega⟩
theorem Sh.done {a b : List UInt8} {n k : Nat} (h : Sh a b n k) (hs : k = a.length ∨ k = b.length ∨ wt a (readP a k) ≠ wt b (readP b k)) :
    n = cm ((pieces a).map (wt a)) ((pieces b).map (wt b)) ∧ cmpL ((pieces a).map (wt a)) ((pieces b).map (wt b)) = if k = a.length ∧ k = b.length then 0 else if k = a.length then -1 else if k = b.length then 1 else if wt a (readP a k) < wt b (readP b k) then -1 else 1 := by
  obtain ⟨pa, pb, h1, h2, h3, h4, h5, h6, h7⟩ := h
  rw [h1, h2, List.map_append, List.map_append, ← h5, cm_pre, cmpL_pre, List.length_map, h3]
  rcases Nat.lt_or_eq_of_le h6 with ha | ha
  · rw [from_cons ha]
    rcases Nat.lt_or_eq_of_le h7 with hb | hb
    · rw [from_cons hb]
      have hne : wt a (readP a k) ≠ wt b (readP b k) := by omega
      simp only [List.map_cons, cm, cmpL, if_neg hne]
      refine ⟨by omega, ?_⟩
      simp [show ¬ k = a.length by omega, show ¬ k = b.length by omega]
    · rw [from_nil (l := b) (k := k) (by omega)]
      simp only [List.map_cons, List.map_nil, cm, cmpL]
      refine ⟨by omega, ?_⟩
      rw [if_neg (by omega), if_neg (by omega), if_pos hb]
  · rw [from_nil (l := a) (k := k) (by omega)]
    rcases Nat.lt_or_eq_of_le h7 with hb | hb
    · rw [from_cons hb]
      simp only [List.map_cons, List.map_nil, cm, cmpL]
      refine ⟨by omega, ?_⟩
      rw [if_neg (by omega), if_pos ha]
    · rw [from_nil (l := b) (k := k) (by omega)]
      simp only [List.map_nil, cm, cmpL]
      refine ⟨by omega, ?_⟩
      rw [if_pos ⟨ha, hb⟩]
/-- the place of a rune's first piece -/
def idx : List Pc → Int → Int
  | [], _ => -1
  | p :: ps, r => if (p.r : Int) = r ∧ p.b = false then (p.at_ : Int) else idx ps r
def noIdx (ps : List Pc) (r : Int) : Prop := ∀ p ∈ ps, ¬ ((p.r : Int) = r ∧ p.b = false)
theorem idx_pre : ∀ {ps : List Pc} {r : Int} (X : List Pc), noIdx ps r → idx (ps ++ X) r = idx X r
  | [], _, _, _ => rfl
  | p :: ps, r, X, h => by
    rw [List.cons_append, idx, if_neg (h p List.mem_cons_self)]
    exact idx_pre X (fun q hq => h q (List.mem_cons_of_mem _ hq))
theorem noIdx_snoc {ps : List Pc} {r : Int} {p : Pc} (h : noIdx ps r) (hp : ¬ ((p.r : Int) = r ∧ p.b = false)) : noIdx (ps ++ [p]) r := by
  intro q hq
  rcases List.mem_append.1 hq with hq | hq
  · exact h q hq
  · rw [List.mem_singleton.1 hq]; exact hp
end Go.Eng

/-
  Plain facts on the pieces of a text, fourth part: the boundaries as a row of numbers, and the ones next to a place. No condition.
-/
set_option linter.all false
namespace Go.Eng
open Go
set_option linter.all false
/-- the boundaries of a text -/
def endsOf (l : List UInt8) : List Nat := (pieces l).map Pc.at_ ++ [l.length]
def leOf (k : Nat) : List Nat → Nat → Nat
  | [], a => a
  | x :: xs, a => leOf k xs (if x ≤ k then x else a)
def geOf (k : Nat) : List Nat → Nat → Nat
  | [], a => a
  | x :: xs, a => if k ≤ x then x else geOf k xs a
theorem leOf_append (k : Nat) : ∀ (xs ys : List Nat) (a : Nat), leOf k (xs ++ ys) a = leOf k ys (leOf k xs a)
  | [], ys, a => rfl
  | x :: xs, ys, a => leOf_append k xs ys _
theorem leOf_above (k : Nat) : ∀ (xs : List Nat) (a : Nat), (∀ x ∈ xs, k < x) → leOf k xs a = a
  | [], a, _ => rfl
  | x :: xs, a, h => by
    have := h x List.mem_cons_self
    rw [leOf, if_neg (by omega)]
    exact leOf_above k xs a fun y hy => h y (List.mem_cons_of_mem _ hy)
theorem geOf_append (k : Nat) : ∀ (xs ys : List Nat) (a : Nat), (∀ x ∈ xs, x < k) → geOf k (xs ++ ys) a = geOf k ys a
  | [], ys, a, _ => rfl
  | x :: xs, ys, a, h => by
    have := h x List.mem_cons_self
    rw [List.cons_append, geOf, if_neg (by omega)]
    exact geOf_append k xs ys a fun y hy => h y (List.mem_cons_of_mem _ hy)
theorem ends_parts {l : List UInt8} {k : Nat} (h : Reach l k) (hk : k < l.length) : ∃ A B, endsOf l = A ++ k :: (k + (readP l k).w) :: B ∧ (∀ x ∈ A, x < k) ∧ (∀ x ∈ B, k + (readP l k).w < x) := by
  obtain ⟨pre, e, g1, g2⟩ := reach_parts h
  have hw := readP_w hk
  by_cases he : k + (readP l k).w < l.length
  · refine ⟨pre.map Pc.at_, (from_ l (k + (readP l k).w + (readP l (k + (readP l k).w)).w)).map Pc.at_ ++ [l.length], ?_, ?_, ?_⟩
    · rw [endsOf, e, from_cons hk, from_cons he]
      simp [readP_at]
    · intro x hx
      obtain ⟨q, hq, rfl⟩ := List.mem_map.1 hx
      rcases g1 q hq with g | g
      · exact g
      · omega
    · intro x hx
      have hw2 := readP_w he
      rcases List.mem_append.1 hx with hx | hx
      · obtain ⟨q, hq, rfl⟩ := List.mem_map.1 hx
        obtain ⟨a, b, e2⟩ := List.append_of_mem hq
        have := (from_split l l.length _ (by omega) a q b e2).1
        omega
      · rw [List.mem_singleton.1 hx]; exact he
  · have he2 : k + (readP l k).w = l.length := by omega
    refine ⟨pre.map Pc.at_, [], ?_, ?_, by simp⟩
    · rw [endsOf, e, from_cons hk, from_nil he]
      simp [readP_at, he2]
    · intro x hx
      obtain ⟨q, hq, rfl⟩ := List.mem_map.1 hx
      rcases g1 q hq with g | g
      · exact g
      · omega
theorem around_within {l : List UInt8} {k i : Nat} (hk : k ≤ l.length) (h : Within l k i) : leOf k (endsOf l) 0 = i ∧ geOf k (endsOf l) 0 = i + (readP l i).w := by
  obtain ⟨hr, hi, _, _⟩ := within_reach hk h
  obtain ⟨h1, h2, _⟩ := h
  obtain ⟨A, B, e, hA, hB⟩ := ends_parts hr hi
  rw [e]
  constructor
  · rw [leOf_append, leOf, if_pos (by omega), leOf, if_neg (by omega)]
    exact leOf_above k B i fun x hx => by have := hB x hx; omega
  · rw [geOf_append k A _ _ (fun x hx => by have := hA x hx; omega), geOf, if_neg (by omega), geOf, if_pos (by omega)]
theorem around_bound {l : List UInt8} {k : Nat} (hk : k ≤ l.length) (h : ¬ ∃ i, Within l k i) : leOf k (endsOf l) 0 = k ∧ geOf k (endsOf l) 0 = k := by
  have h' : k = l.length ∨ Reach l k := Classical.byContradiction fun hn => h ((within_iff hk).2 hn)
  by_cases e : k = l.length
  · subst e
    constructor
    · rw [endsOf, leOf_append, leOf, if_pos (Nat.le_refl _)]; rfl
    · rw [endsOf, geOf_append _ _ _ _ (fun x hx => ?_), geOf, if_pos (Nat.le_refl _)]
      obtain ⟨q, hq, rfl⟩ := List.mem_map.1 hx
      exact (reach_of_mem hq).2.1
  · have hr : Reach l k := h'.resolve_left e
    have hw := readP_w (l := l) (k := k) (by omega)
    obtain ⟨A, B, e, hA, hB⟩ := ends_parts hr (by omega)
    rw [e]
    constructor
    · rw [leOf_append, leOf, if_pos (Nat.le_refl _), leOf, if_neg (by omega)]
      exact leOf_above k B k fun x hx => by have := hB x hx; omega
    · rw [geOf_append k A _ _ (fun x hx => hA x hx), geOf, if_pos (Nat.le_refl _)]
theorem mem_ends {l : List UInt8} {k : Nat} (hk : k ≤ l.length) : k ∈ endsOf l ↔ ¬ ∃ i, Within l k i := by
  rw [within_iff hk, Classical.not_not, endsOf, List.mem_append, List.mem_singleton]
  constructor
  · rintro (h | h)
    · obtain ⟨q, hq, rfl⟩ := List.mem_map.1 h
      exact .inr (reach_of_mem hq).1
    · exact .inl h
  · rintro (h | h)
    · exact .inr h
    · rcases Nat.lt_or_ge k l.length with g | g
      · exact .inl (List.mem_map.2 ⟨_, reach_mem h g, readP_at l k⟩)
      · exact .inr (by omega)
theorem ends_le {l : List UInt8} {x : Nat} (h : x ∈ endsOf l) : x ≤ l.length := by
  rw [endsOf, List.mem_append, List.mem_singleton] at h
  rcases h with h | h
  · obtain ⟨q, hq, rfl⟩ := List.mem_map.1 h
    exact Nat.le_of_lt (reach_of_mem hq).2.1
  · omega
end Go.Eng

/-
  Plain facts: pieces of a text's beginning; a text's pieces as texts; from the end on. No condition.
-/
set_option linter.all false
namespace Go.Eng
open Go
theorem begins_take {l : List UInt8} {c n : Nat} (h : begins (l.take n) c) : begins l c := by
  obtain ⟨h1, h2⟩ := h
  simp only [List.length_take] at h1
  refine ⟨by omega, fun k hk => ?_⟩
  rw [← h2 k hk]
  simp only [nb, gb, List.getD_eq_getElem?_getD, List.length_take]
  rw [List.getElem?_take_of_lt (by omega)]
theorem begins_of_take {l : List UInt8} {c n : Nat} (h : begins l c) (hn : wd c ≤ n) : begins (l.take n) c := by
  obtain ⟨h1, h2⟩ := h
  refine ⟨by simp only [List.length_take]; omega, fun k hk => ?_⟩
  rw [← h2 k hk]
  simp only [nb, gb, List.getD_eq_getElem?_getD, List.length_take]
  rw [List.getElem?_take_of_lt (by omega)]
theorem read_take {l : List UInt8} {k n : Nat} (hk : k + (readP l k).w ≤ n) (hn : n ≤ l.length) (hkl : k < l.length) : readP (l.take n) k = readP l k := by
  have hw := readP_w hkl
  have hd : (l.take n).drop k = (l.drop k).take (n - k) := by rw [List.drop_take]
  have hlen : ((l.drop k).take (n - k)).length = n - k := by simp; omega
  have key : dl ((l.drop k).take (n - k)) = dl (l.drop k) := by
    rcases dl_cases (l.drop k) (by simp; omega) with ⟨h1, h2, h3⟩ | ⟨h1, h2⟩
    · have hwd : (readP l k).w = wd (dl (l.drop k)).1 := by rw [readP_w_eq, h2]
      rw [dl_of_begins h1 (begins_of_take h3 (by omega)), ← h2]
    · rw [h1]
      rcases dl_cases ((l.drop k).take (n - k)) (by omega) with ⟨g1, _, g3⟩ | ⟨g1, _⟩
      · exact absurd (begins_take g3) (h2 _ g1)
      · exact g1
  unfold readP
  rw [hd, key]
theorem from_take {l : List UInt8} {n : Nat} (hn : n ≤ l.length) : ∀ (pre : List Pc) (k : Nat), from_ l k = pre ++ from_ l n → k ≤ n → from_ (l.take n) k = pre
  | [], k, h, hk => by
    rcases Nat.lt_or_eq_of_le hk with hlt | rfl
    · exfalso
      simp only [List.nil_append] at h
      rw [from_cons (by omega)] at h
      by_cases hnl : n < l.length
      · rw [from_cons hnl] at h
        have := congrArg (fun x => (x.head?.map Pc.at_)) h
        simp only [List.head?_cons, Option.map_some, readP_at, Option.some.injEq] at this
        omega
      · rw [from_nil (k := n) hnl] at h; cases h
    · rw [from_nil (by simp; omega)]
  | p :: pre, k, h, hk => by
    have hkl : k < l.length := by
      rcases Nat.lt_or_ge k l.length with h1 | h1
      · exact h1
      · rw [from_nil (by omega)] at h; cases h
    rw [from_cons hkl, List.cons_append] at h
    simp only [List.cons.injEq] at h
    obtain ⟨rfl, h⟩ := h
    have hw := readP_w hkl
    have hle : k + (readP l k).w ≤ n := by
      rcases Nat.lt_or_ge n (k + (readP l k).w) with hlt | hge
      · exfalso
        -- no piece behind k begins at n
        rcases Nat.lt_or_eq_of_le hn with hnl | hnl
        · have hm : readP l n ∈ from_ l (k + (readP l k).w) := by rw [h, from_cons hnl]; exact List.mem_append_right _ List.mem_cons_self
          obtain ⟨A, B, e⟩ := List.append_of_mem hm
          have := (from_split l l.length _ (by omega) _ _ _ e).1
          rw [readP_at] at this; omega
        · omega
      · exact hge
    have hlt : k < (l.take n).length := by simp; omega
    rw [from_cons hlt, read_take hle hn hkl, from_take hn pre _ h hle]
theorem pieces_take {l : List UInt8} {n : Nat} {pre : List Pc} (hn : n ≤ l.length) (h : pieces l = pre ++ from_ l n) : pieces (l.take n) = pre := from_take hn pre 0 h (Nat.zero_le _)
/-- a piece's bytes -/
def txt (l : List UInt8) (p : Pc) : List UInt8 := (l.take (p.at_ + p.w)).drop p.at_
theorem txt_len (l : List UInt8) (p : Pc) : (txt l p).length ≤ p.w := by simp [txt]; omega
theorem mem_w {l : List UInt8} {p : Pc} (h : p ∈ pieces l) : p.at_ < l.length ∧ 1 ≤ p.w ∧ p.w ≤ 4 ∧ p.at_ + p.w ≤ l.length := by
  obtain ⟨_, h2, h3⟩ := reach_of_mem h
  have := readP_w h2
  rw [← h3] at this
  omega
def mendOf (l w : List UInt8) (ps : List Pc) : List UInt8 := ps.flatMap fun p => if p.b then w else txt l p
theorem mendOf_snoc (l w : List UInt8) (ps : List Pc) (p : Pc) : mendOf l w (ps ++ [p]) = mendOf l w ps ++ (if p.b then w else txt l p) := by simp [mendOf]
def textsOf (l : List UInt8) (ps : List Pc) : List UInt8 := ps.flatMap (txt l)
theorem textsOf_snoc (l : List UInt8) (ps : List Pc) (p : Pc) : textsOf l (ps ++ [p]) = textsOf l ps ++ txt l p := by simp [textsOf]
/-- where the first so many pieces end -/
def cutK (l : List UInt8) (n : Int) : Nat := if n ≤ 0 then 0 else (endsOf l).getD n.toNat l.length
end Go.Eng

/-
  The walks of runes.last, Before, shared, Common and Cut, for a seat that does not reach the rest of runes. No condition.
-/
namespace Go.Proofs.Ytelgegefmjlimaa
open Go Go.Eng
set_option maxRecDepth 100000
set_option maxHeartbeats 4000000
set_option linter.all false
attribute [local irreducible] WL WC WQ QFun QLoop Does Q1 QRound QAssign Go.Addr.add
theorem sq_ER1_1 {G : Prop} (h : G := by (repeat (first | (refine sp ?_; (repeat intro zzc)) | (refine iF 78 rfl ?_; refine w_callG Try.func78 ?_ (hs := read_z _ (by (first | with_reducible exact natz _ | with_reducible exact natz0 | with_reducible exact natz1 | with_reducible exact natz2 | with_reducible exact natz3 | with_reducible exact natz4 | with_reducible exact natz8 | (apply natz_add; (· first | with_reducible exact natz _ | with_reducible exact natz0 | with_reducible exact natz1 | with_reducible exact natz2 | with_reducible exact natz3 | with_reducible exact natz4 | with_reducible exact natz8); (· first | with_reducible exact natz _ | with_reducible exact natz0 | with_reducible exact natz1 | with_reducible exact natz2 | with_reducible exact natz3 | with_reducible exact natz4 | with_reducible exact natz8)) | (apply natz_sub; (· first | with_reducible exact natz _ | with_reducible exact natz0 | with_reducible exact natz1 | with_reducible exact natz2 | with_reducible exact natz3 | with_reducible exact natz4 | with_reducible exact natz8); (· first | with_reducible exact natz _ | with_reducible exact natz0 | with_reducible exact natz1 | with_reducible exact natz2 | with_reducible exact natz3 | with_reducible exact natz4 | with_reducible exact natz8); (· omega)) | exact (Int.toNat_of_nonneg (by omega)).symm)) (by omega) (by omega) _ _ _)))); exact WQ.q1 rfl) : G := h
theorem st_ER1_1 {G G' : Prop} (next : G') (h : Bx G' → G := by intro zzn; (first | ((refine st ?_; (repeat intro zzc)); (try ((first | (refine iF 78 rfl ?_; refine w_callG Try.func78 ?_ (hs := read_z _ (by (first | with_reducible exact natz _ | with_reducible exact natz0 | with_reducible exact natz1 | with_reducible exact natz2 | with_reducible exact natz3 | with_reducible exact natz4 | with_reducible exact natz8 | (apply natz_add; (· first | with_reducible exact natz _ | with_reducible exact natz0 | with_reducible exact natz1 | with_reducible exact natz2 | with_reducible exact natz3 | with_reducible exact natz4 | with_reducible exact natz8); (· first | with_reducible exact natz _ | with_reducible exact natz0 | with_reducible exact natz1 | with_reducible exact natz2 | with_reducible exact natz3 | with_reducible exact natz4 | with_reducible exact natz8)) | (apply natz_sub; (· first | with_reducible exact natz _ | with_reducible exact natz0 | with_reducible exact natz1 | with_reducible exact natz2 | with_reducible exact natz3 | with_reducible exact natz4 | with_reducible exact natz8); (· first | with_reducible exact natz _ | with_reducible exact natz0 | with_reducible exact natz1 | with_reducible exact natz2 | with_reducible exact natz3 | with_reducible exact natz4 | with_reducible exact natz8); (· omega)) | exact (Int.toNat_of_nonneg (by omega)).symm)) (by omega) (by omega) _ _ _)) | ((refine iDraw ?_; (first | refine WC.drawAll rfl (by decide +kernel) ?_ | refine WC.draw 1 rfl (by decide +kernel) ?_ | refine WC.draw 2 rfl (by decide +kernel) ?_ | refine WC.draw 3 rfl (by decide +kernel) ?_ | refine WC.draw 4 rfl (by decide +kernel) ?_ | refine WC.draw 5 rfl (by decide +kernel) ?_ | refine WC.draw 6 rfl (by decide +kernel) ?_ | refine WC.draw 7 rfl (by decide +kernel) ?_ | refine WC.draw 8 rfl (by decide +kernel) ?_ | refine WC.draw 9 rfl (by decide +kernel) ?_ | refine WC.draw 10 rfl (by decide +kernel) ?_ | refine WC.draw 11 rfl (by decide +kernel) ?_ | refine WC.draw 12 rfl (by decide +kernel) ?_ | refine WC.draw 13 rfl (by decide +kernel) ?_ | refine WC.draw 14 rfl (by decide +kernel) ?_ | refine WC.draw 15 rfl (by decide +kernel) ?_ | refine WC.draw 16 rfl (by decide +kernel) ?_ | refine WC.draw 17 rfl (by decide +kernel) ?_ | refine WC.draw 18 rfl (by decide +kernel) ?_ | refine WC.draw 19 rfl (by decide +kernel) ?_ | refine WC.draw 20 rfl (by decide +kernel) ?_ | refine WC.draw 21 rfl (by decide +kernel) ?_ | refine WC.draw 22 rfl (by decide +kernel) ?_ | refine WC.draw 23 rfl (by decide +kernel) ?_ | refine WC.draw 24 rfl (by decide +kernel) ?_)); (repeat (refine WD.cons rfl (fun c h => by cases h) sq_ER1_1 ?_)); refine WD.nil ?_)); (try (refine st ?_; (repeat intro zzc)))))) | ((first | (refine iF 78 rfl ?_; refine w_callG Try.func78 ?_ (hs := read_z _ (by (first | with_reducible exact natz _ | with_reducible exact natz0 | with_reducible exact natz1 | with_reducible exact natz2 | with_reducible exact natz3 | with_reducible exact natz4 | with_reducible exact natz8 | (apply natz_add; (· first | with_reducible exact natz _ | with_reducible exact natz0 | with_reducible exact natz1 | with_reducible exact natz2 | with_reducible exact natz3 | with_reducible exact natz4 | with_reducible exact natz8); (· first | with_reducible exact natz _ | with_reducible exact natz0 | with_reducible exact natz1 | with_reducible exact natz2 | with_reducible exact natz3 | with_reducible exact natz4 | with_reducible exact natz8)) | (apply natz_sub; (· first | with_reducible exact natz _ | with_reducible exact natz0 | with_reducible exact natz1 | with_reducible exact natz2 | with_reducible exact natz3 | with_reducible exact natz4 | with_reducible exact natz8); (· first | with_reducible exact natz _ | with_reducible exact natz0 | with_reducible exact natz1 | with_reducible exact natz2 | with_reducible exact natz3 | with_reducible exact natz4 | with_reducible exact natz8); (· omega)) | exact (Int.toNat_of_nonneg (by omega)).symm)) (by omega) (by omega) _ _ _)) | ((refine iDraw ?_; (first | refine WC.drawAll rfl (by decide +kernel) ?_ | refine WC.draw 1 rfl (by decide +kernel) ?_ | refine WC.draw 2 rfl (by decide +kernel) ?_ | refine WC.draw 3 rfl (by decide +kernel) ?_ | refine WC.draw 4 rfl (by decide +kernel) ?_ | refine WC.draw 5 rfl (by decide +kernel) ?_ | refine WC.draw 6 rfl (by decide +kernel) ?_ | refine WC.draw 7 rfl (by decide +kernel) ?_ | refine WC.draw 8 rfl (by decide +kernel) ?_ | refine WC.draw 9 rfl (by decide +kernel) ?_ | refine WC.draw 10 rfl (by decide +kernel) ?_ | refine WC.draw 11 rfl (by decide +kernel) ?_ | refine WC.draw 12 rfl (by decide +kernel) ?_ | refine WC.draw 13 rfl (by decide +kernel) ?_ | refine WC.draw 14 rfl (by decide +kernel) ?_ | refine WC.draw 15 rfl (by decide +kernel) ?_ | refine WC.draw 16 rfl (by decide +kernel) ?_ | refine WC.draw 17 rfl (by decide +kernel) ?_ | refine WC.draw 18 rfl (by decide +kernel) ?_ | refine WC.draw 19 rfl (by decide +kernel) ?_ | refine WC.draw 20 rfl (by decide +kernel) ?_ | refine WC.draw 21 rfl (by decide +kernel) ?_ | refine WC.draw 22 rfl (by decide +kernel) ?_ | refine WC.draw 23 rfl (by decide +kernel) ?_ | refine WC.draw 24 rfl (by decide +kernel) ?_)); (repeat (refine WD.cons rfl (fun c h => by cases h) sq_ER1_1 ?_)); refine WD.nil ?_)); (try (refine st ?_; (repeat intro zzc))))); (repeat ((first | (refine iF 78 rfl ?_; refine w_callG Try.func78 ?_ (hs := read_z _ (by (first | with_reducible exact natz _ | with_reducible exact natz0 | with_reducible exact natz1 | with_reducible exact natz2 | with_reducible exact natz3 | with_reducible exact natz4 | with_reducible exact natz8 | (apply natz_add; (· first | with_reducible exact natz _ | with_reducible exact natz0 | with_reducible exact natz1 | with_reducible exact natz2 | with_reducible exact natz3 | with_reducible exact natz4 | with_reducible exact natz8); (· first | with_reducible exact natz _ | with_reducible exact natz0 | with_reducible exact natz1 | with_reducible exact natz2 | with_reducible exact natz3 | with_reducible exact natz4 | with_reducible exact natz8)) | (apply natz_sub; (· first | with_reducible exact natz _ | with_reducible exact natz0 | with_reducible exact natz1 | with_reducible exact natz2 | with_reducible exact natz3 | with_reducible exact natz4 | with_reducible exact natz8); (· first | with_reducible exact natz _ | with_reducible exact natz0 | with_reducible exact natz1 | with_reducible exact natz2 | with_reducible exact natz3 | with_reducible exact natz4 | with_reducible exact natz8); (· omega)) | exact (Int.toNat_of_nonneg (by omega)).symm)) (by omega) (by omega) _ _ _)) | ((refine iDraw ?_; (first | refine WC.drawAll rfl (by decide +kernel) ?_ | refine WC.draw 1 rfl (by decide +kernel) ?_ | refine WC.draw 2 rfl (by decide +kernel) ?_ | refine WC.draw 3 rfl (by decide +kernel) ?_ | refine WC.draw 4 rfl (by decide +kernel) ?_ | refine WC.draw 5 rfl (by decide +kernel) ?_ | refine WC.draw 6 rfl (by decide +kernel) ?_ | refine WC.draw 7 rfl (by decide +kernel) ?_ | refine WC.draw 8 rfl (by decide +kernel) ?_ | refine WC.draw 9 rfl (by decide +kernel) ?_ | refine WC.draw 10 rfl (by decide +kernel) ?_ | refine WC.draw 11 rfl (by decide +kernel) ?_ | refine WC.draw 12 rfl (by decide +kernel) ?_ | refine WC.draw 13 rfl (by decide +kernel) ?_ | refine WC.draw 14 rfl (by decide +kernel) ?_ | refine WC.draw 15 rfl (by decide +kernel) ?_ | refine WC.draw 16 rfl (by decide +kernel) ?_ | refine WC.draw 17 rfl (by decide +kernel) ?_ | refine WC.draw 18 rfl (by decide +kernel) ?_ | refine WC.draw 19 rfl (by decide +kernel) ?_ | refine WC.draw 20 rfl (by decide +kernel) ?_ | refine WC.draw 21 rfl (by decide +kernel) ?_ | refine WC.draw 22 rfl (by decide +kernel) ?_ | refine WC.draw 23 rfl (by decide +kernel) ?_ | refine WC.draw 24 rfl (by decide +kernel) ?_)); (repeat (refine WD.cons rfl (fun c h => by cases h) sq_ER1_1 ?_)); refine WD.nil ?_)); (try (refine st ?_; (repeat intro zzc))))); (repeat revert zzc); exact zzn.out) : G := h ⟨next⟩
theorem read_z (l : List UInt8) {z : Int} {k : Nat} (hz : z = (k : Int)) (hl : l.length ≤ 9223372036854775804) (hk : k < l.length) (w0 : World) (m : Mem) (H : SHeap) :
    Does Try.prog 78 #[str l, .int .i64 z] w0 m H (Gives (readP l k).v m H) := by subst hz; exact read_any l k hl hk w0 m H
theorem last_any (l : List UInt8) (hl : l.length ≤ 9223372036854775804) (h0 : 0 < l.length) (w0 : World) (m : Mem) (H : SHeap) :
    Does Try.prog 79 #[str l] w0 m H (Gives (lastP l).v m H) := by
  refine Does.of_body (args := [str l]) Try.func79 rfl Try.ntmps79 rfl ?_
  (refine st_ER1_1 ?_; intros; rename_i bk)
  refine WC.loopW [(4, .int .i64 2), (3, .int .i64 (l.length : Int)), (0, str l), (2, .pointer (some ⟨bk, 0, none⟩))] ?_ (fun j r ds m' H' => ∃ w : Nat, j = 5 - w ∧ 2 ≤ w ∧ w ≤ 5 ∧ r = [(4, .int .i64 (w : Int)), (3, .int .i64 (l.length : Int)), (0, str l), (2, .pointer (some ⟨bk, 0, none⟩))] ∧ ds = [] ∧ m' = m ∧ H' = .blk bk (.cells [.int .i64 0, .int .i64 0, .int .i32 0, .bool false].toArray 144 (0, 0)) :: H ∧
      ∀ v, 2 ≤ v → v < w → v ≤ l.length → ¬ ((readP l (l.length - v)).b = false ∧ (readP l (l.length - v)).w = v)) 3 ⟨2, rfl, by omega, by omega, rfl, rfl, rfl, rfl, fun v h1 h2 => by omega⟩ ?_
  · (repeat (first | exact Env.Sub.nil | refine Env.Sub.cons rfl ?_))
  rintro j r ds m' H' ⟨w, rfl, h1, h2, rfl, rfl, rfl, rfl, hno⟩
  (try (refine st_ER1_1 ?_; intros))
  (first | refine c_ways (fun h3 => ?_) (fun h3 => ?_) | refine c_nways (fun h3 => ?_) (fun h3 => ?_) | refine w_gways (fun h3 => ?_) (fun h3 => ?_) | refine w_gnways (fun h3 => ?_) (fun h3 => ?_))
  · (try (refine st_ER1_1 ?_; intros))
    (first | refine c_ways (fun h4 => ?_) (fun h4 => ?_) | refine c_nways (fun h4 => ?_) (fun h4 => ?_) | refine w_gways (fun h4 => ?_) (fun h4 => ?_) | refine w_gnways (fun h4 => ?_) (fun h4 => ?_))
    · cases hb : (readP l (l.length - w)).b with
      | true =>
        (try (refine st_ER1_1 ?_; intros))
        refine WL.rename 25 (u := .bool false) rfl (by rw [hb]; rfl) ?_
        (try (refine st_ER1_1 ?_; intros))
        exact WQ.next (5 - (w + 1)) ⟨w + 1, rfl, by omega, by omega, rfl, rfl, rfl, rfl, fun v g1 g2 g3 => by
          rcases Nat.lt_or_ge v w with g | g
          · exact hno v g1 g g3
          · obtain rfl : v = w := by omega
            exact fun h => by rw [hb] at h; exact absurd h.1 (by simp)⟩ (by omega) (by (repeat (first | exact Env.Sub.nil | refine Env.Sub.cons rfl ?_))) (fun w h => h.drop)
      | false =>
        (try (refine st_ER1_1 ?_; intros))
        refine WL.rename 25 (u := .bool true) rfl (by rw [hb]; rfl) ?_
        (try (refine st_ER1_1 ?_; intros))
        (first | refine c_ways (fun h5 => ?_) (fun h5 => ?_) | refine c_nways (fun h5 => ?_) (fun h5 => ?_) | refine w_gways (fun h5 => ?_) (fun h5 => ?_) | refine w_gnways (fun h5 => ?_) (fun h5 => ?_))
        · (try (refine st_ER1_1 ?_; intros))
          (refine q_fin0 ?_)
          rw [lastP_whole (w := w) (by omega) (by omega) hb (by omega)]
          exact Gives.mk rfl
        · (try (refine st_ER1_1 ?_; intros))
          exact WQ.next (5 - (w + 1)) ⟨w + 1, rfl, by omega, by omega, rfl, rfl, rfl, rfl, fun v g1 g2 g3 => by
          rcases Nat.lt_or_ge v w with g | g
          · exact hno v g1 g g3
          · obtain rfl : v = w := by omega
            exact fun h => h5 (by rw [h.2])⟩ (by omega) (by (repeat (first | exact Env.Sub.nil | refine Env.Sub.cons rfl ?_))) (fun w h => h.drop)
    · (try (refine st_ER1_1 ?_; intros))
      (refine q_fin0 ?_)
      rw [← lastP_one h0 (fun v g1 g2 g3 => hno v g1 (by omega) g3)]
      exact Gives.mk rfl
  · (try (refine st_ER1_1 ?_; intros))
    (refine q_fin0 ?_)
    rw [← lastP_one h0 (fun v g1 g2 g3 => hno v g1 (by omega) g3)]
    exact Gives.mk rfl
theorem last_z {v : Value} {l : List UInt8} (hv : v = str l) (hl : l.length ≤ 9223372036854775804) (h0 : 0 < l.length) (w0 : World) (m : Mem) (H : SHeap) :
    Does Try.prog 79 #[v] w0 m H (Gives (lastP l).v m H) := by subst hv; exact last_any l hl h0 w0 m H
theorem sq_ER1_2 {G : Prop} (h : G := by (repeat (first | (refine sp ?_; (repeat intro zzc)) | (refine iF 78 rfl ?_; refine w_callG Try.func78 ?_ (hs := read_z _ (by (first | with_reducible exact natz _ | with_reducible exact natz0 | with_reducible exact natz1 | with_reducible exact natz2 | with_reducible exact natz3 | with_reducible exact natz4 | with_reducible exact natz8 | (apply natz_add; (· first | with_reducible exact natz _ | with_reducible exact natz0 | with_reducible exact natz1 | with_reducible exact natz2 | with_reducible exact natz3 | with_reducible exact natz4 | with_reducible exact natz8); (· first | with_reducible exact natz _ | with_reducible exact natz0 | with_reducible exact natz1 | with_reducible exact natz2 | with_reducible exact natz3 | with_reducible exact natz4 | with_reducible exact natz8)) | (apply natz_sub; (· first | with_reducible exact natz _ | with_reducible exact natz0 | with_reducible exact natz1 | with_reducible exact natz2 | with_reducible exact natz3 | with_reducible exact natz4 | with_reducible exact natz8); (· first | with_reducible exact natz _ | with_reducible exact natz0 | with_reducible exact natz1 | with_reducible exact natz2 | with_reducible exact natz3 | with_reducible exact natz4 | with_reducible exact natz8); (· omega)) | exact (Int.toNat_of_nonneg (by omega)).symm)) (by omega) (by omega) _ _ _)) | (refine iF 79 rfl ?_; refine w_callG Try.func79 ?_ (hs := last_any _ (by simp; omega) (by simp; omega) _ _ _)))); exact WQ.q1 rfl) : G := h
theorem st_ER1_2 {G G' : Prop} (next : G') (h : Bx G' → G := by intro zzn; (first | ((refine st ?_; (repeat intro zzc)); (try ((first | (refine iF 78 rfl ?_; refine w_callG Try.func78 ?_ (hs := read_z _ (by (first | with_reducible exact natz _ | with_reducible exact natz0 | with_reducible exact natz1 | with_reducible exact natz2 | with_reducible exact natz3 | with_reducible exact natz4 | with_reducible exact natz8 | (apply natz_add; (· first | with_reducible exact natz _ | with_reducible exact natz0 | with_reducible exact natz1 | with_reducible exact natz2 | with_reducible exact natz3 | with_reducible exact natz4 | with_reducible exact natz8); (· first | with_reducible exact natz _ | with_reducible exact natz0 | with_reducible exact natz1 | with_reducible exact natz2 | with_reducible exact natz3 | with_reducible exact natz4 | with_reducible exact natz8)) | (apply natz_sub; (· first | with_reducible exact natz _ | with_reducible exact natz0 | with_reducible exact natz1 | with_reducible exact natz2 | with_reducible exact natz3 | with_reducible exact natz4 | with_reducible exact natz8); (· first | with_reducible exact natz _ | with_reducible exact natz0 | with_reducible exact natz1 | with_reducible exact natz2 | with_reducible exact natz3 | with_reducible exact natz4 | with_reducible exact natz8); (· omega)) | exact (Int.toNat_of_nonneg (by omega)).symm)) (by omega) (by omega) _ _ _)) | (refine iF 79 rfl ?_; refine w_callG Try.func79 ?_ (hs := last_any _ (by simp; omega) (by simp; omega) _ _ _)) | ((refine iDraw ?_; (first | refine WC.drawAll rfl (by decide +kernel) ?_ | refine WC.draw 1 rfl (by decide +kernel) ?_ | refine WC.draw 2 rfl (by decide +kernel) ?_ | refine WC.draw 3 rfl (by decide +kernel) ?_ | refine WC.draw 4 rfl (by decide +kernel) ?_ | refine WC.draw 5 rfl (by decide +kernel) ?_ | refine WC.draw 6 rfl (by decide +kernel) ?_ | refine WC.draw 7 rfl (by decide +kernel) ?_ | refine WC.draw 8 rfl (by decide +kernel) ?_ | refine WC.draw 9 rfl (by decide +kernel) ?_ | refine WC.draw 10 rfl (by decide +kernel) ?_ | refine WC.draw 11 rfl (by decide +kernel) ?_ | refine WC.draw 12 rfl (by decide +kernel) ?_ | refine WC.draw 13 rfl (by decide +kernel) ?_ | refine WC.draw 14 rfl (by decide +kernel) ?_ | refine WC.draw 15 rfl (by decide +kernel) ?_ | refine WC.draw 16 rfl (by decide +kernel) ?_ | refine WC.draw 17 rfl (by decide +kernel) ?_ | refine WC.draw 18 rfl (by decide +kernel) ?_ | refine WC.draw 19 rfl (by decide +kernel) ?_ | refine WC.draw 20 rfl (by decide +kernel) ?_ | refine WC.draw 21 rfl (by decide +kernel) ?_ | refine WC.draw 22 rfl (by decide +kernel) ?_ | refine WC.draw 23 rfl (by decide +kernel) ?_ | refine WC.draw 24 rfl (by decide +kernel) ?_)); (repeat (refine WD.cons rfl (fun c h => by cases h) sq_ER1_2 ?_)); refine WD.nil ?_)); (try (refine st ?_; (repeat intro zzc)))))) | ((first | (refine iF 78 rfl ?_; refine w_callG Try.func78 ?_ (hs := read_z _ (by (first | with_reducible exact natz _ | with_reducible exact natz0 | with_reducible exact natz1 | with_reducible exact natz2 | with_reducible exact natz3 | with_reducible exact natz4 | with_reducible exact natz8 | (apply natz_add; (· first | with_reducible exact natz _ | with_reducible exact natz0 | with_reducible exact natz1 | with_reducible exact natz2 | with_reducible exact natz3 | with_reducible exact natz4 | with_reducible exact natz8); (· first | with_reducible exact natz _ | with_reducible exact natz0 | with_reducible exact natz1 | with_reducible exact natz2 | with_reducible exact natz3 | with_reducible exact natz4 | with_reducible exact natz8)) | (apply natz_sub; (· first | with_reducible exact natz _ | with_reducible exact natz0 | with_reducible exact natz1 | with_reducible exact natz2 | with_reducible exact natz3 | with_reducible exact natz4 | with_reducible exact natz8); (· first | with_reducible exact natz _ | with_reducible exact natz0 | with_reducible exact natz1 | with_reducible exact natz2 | with_reducible exact natz3 | with_reducible exact natz4 | with_reducible exact natz8); (· omega)) | exact (Int.toNat_of_nonneg (by omega)).symm)) (by omega) (by omega) _ _ _)) | (refine iF 79 rfl ?_; refine w_callG Try.func79 ?_ (hs := last_any _ (by simp; omega) (by simp; omega) _ _ _)) | ((refine iDraw ?_; (first | refine WC.drawAll rfl (by decide +kernel) ?_ | refine WC.draw 1 rfl (by decide +kernel) ?_ | refine WC.draw 2 rfl (by decide +kernel) ?_ | refine WC.draw 3 rfl (by decide +kernel) ?_ | refine WC.draw 4 rfl (by decide +kernel) ?_ | refine WC.draw 5 rfl (by decide +kernel) ?_ | refine WC.draw 6 rfl (by decide +kernel) ?_ | refine WC.draw 7 rfl (by decide +kernel) ?_ | refine WC.draw 8 rfl (by decide +kernel) ?_ | refine WC.draw 9 rfl (by decide +kernel) ?_ | refine WC.draw 10 rfl (by decide +kernel) ?_ | refine WC.draw 11 rfl (by decide +kernel) ?_ | refine WC.draw 12 rfl (by decide +kernel) ?_ | refine WC.draw 13 rfl (by decide +kernel) ?_ | refine WC.draw 14 rfl (by decide +kernel) ?_ | refine WC.draw 15 rfl (by decide +kernel) ?_ | refine WC.draw 16 rfl (by decide +kernel) ?_ | refine WC.draw 17 rfl (by decide +kernel) ?_ | refine WC.draw 18 rfl (by decide +kernel) ?_ | refine WC.draw 19 rfl (by decide +kernel) ?_ | refine WC.draw 20 rfl (by decide +kernel) ?_ | refine WC.draw 21 rfl (by decide +kernel) ?_ | refine WC.draw 22 rfl (by decide +kernel) ?_ | refine WC.draw 23 rfl (by decide +kernel) ?_ | refine WC.draw 24 rfl (by decide +kernel) ?_)); (repeat (refine WD.cons rfl (fun c h => by cases h) sq_ER1_2 ?_)); refine WD.nil ?_)); (try (refine st ?_; (repeat intro zzc))))); (repeat ((first | (refine iF 78 rfl ?_; refine w_callG Try.func78 ?_ (hs := read_z _ (by (first | with_reducible exact natz _ | with_reducible exact natz0 | with_reducible exact natz1 | with_reducible exact natz2 | with_reducible exact natz3 | with_reducible exact natz4 | with_reducible exact natz8 | (apply natz_add; (· first | with_reducible exact natz _ | with_reducible exact natz0 | with_reducible exact natz1 | with_reducible exact natz2 | with_reducible exact natz3 | with_reducible exact natz4 | with_reducible exact natz8); (· first | with_reducible exact natz _ | with_reducible exact natz0 | with_reducible exact natz1 | with_reducible exact natz2 | with_reducible exact natz3 | with_reducible exact natz4 | with_reducible exact natz8)) | (apply natz_sub; (· first | with_reducible exact natz _ | with_reducible exact natz0 | with_reducible exact natz1 | with_reducible exact natz2 | with_reducible exact natz3 | with_reducible exact natz4 | with_reducible exact natz8); (· first | with_reducible exact natz _ | with_reducible exact natz0 | with_reducible exact natz1 | with_reducible exact natz2 | with_reducible exact natz3 | with_reducible exact natz4 | with_reducible exact natz8); (· omega)) | exact (Int.toNat_of_nonneg (by omega)).symm)) (by omega) (by omega) _ _ _)) | (refine iF 79 rfl ?_; refine w_callG Try.func79 ?_ (hs := last_any _ (by simp; omega) (by simp; omega) _ _ _)) | ((refine iDraw ?_; (first | refine WC.drawAll rfl (by decide +kernel) ?_ | refine WC.draw 1 rfl (by decide +kernel) ?_ | refine WC.draw 2 rfl (by decide +kernel) ?_ | refine WC.draw 3 rfl (by decide +kernel) ?_ | refine WC.draw 4 rfl (by decide +kernel) ?_ | refine WC.draw 5 rfl (by decide +kernel) ?_ | refine WC.draw 6 rfl (by decide +kernel) ?_ | refine WC.draw 7 rfl (by decide +kernel) ?_ | refine WC.draw 8 rfl (by decide +kernel) ?_ | refine WC.draw 9 rfl (by decide +kernel) ?_ | refine WC.draw 10 rfl (by decide +kernel) ?_ | refine WC.draw 11 rfl (by decide +kernel) ?_ | refine WC.draw 12 rfl (by decide +kernel) ?_ | refine WC.draw 13 rfl (by decide +kernel) ?_ | refine WC.draw 14 rfl (by decide +kernel) ?_ | refine WC.draw 15 rfl (by decide +kernel) ?_ | refine WC.draw 16 rfl (by decide +kernel) ?_ | refine WC.draw 17 rfl (by decide +kernel) ?_ | refine WC.draw 18 rfl (by decide +kernel) ?_ | refine WC.draw 19 rfl (by decide +kernel) ?_ | refine WC.draw 20 rfl (by decide +kernel) ?_ | refine WC.draw 21 rfl (by decide +kernel) ?_ | refine WC.draw 22 rfl (by decide +kernel) ?_ | refine WC.draw 23 rfl (by decide +kernel) ?_ | refine WC.draw 24 rfl (by decide +kernel) ?_)); (repeat (refine WD.cons rfl (fun c h => by cases h) sq_ER1_2 ?_)); refine WD.nil ?_)); (try (refine st ?_; (repeat intro zzc))))); (repeat revert zzc); exact zzn.out) : G := h ⟨next⟩
theorem before_in (l : List UInt8) (k : Nat) (hl : l.length ≤ 9223372036854775804) (h1 : 1 ≤ k) (hk : k ≤ l.length) (w0 : World) (m : Mem) (H : SHeap) :
    Does Try.prog 74 #[str l, .int .i64 (k : Int)] w0 m H (Gives (.tuple #[(lastP (l.take k)).v, .int .i64 0]) m H) := by
  refine Does.of_body (args := [str l, .int .i64 (k : Int)]) Try.func74 rfl Try.ntmps74 rfl ?_
  (try (refine st_ER1_2 ?_; intros))
  (refine q_fin0 ?_)
  exact Gives.mk rfl
end Go.Proofs.Ytelgegefmjlimaa

