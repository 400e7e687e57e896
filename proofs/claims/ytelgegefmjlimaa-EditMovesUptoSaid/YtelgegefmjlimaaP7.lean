/-
  Parts of a walk, joined: E4 ET7 E6 E8 E2 E9. No condition.
-/
import Derived.Test.YtelgegefmjlimaaP6
/-
  The walks of package edit, fourth part: the builder's close. No condition.
-/
namespace Go.Proofs.Ytelgegefmjlimaa
open Go Go.Eng
set_option maxRecDepth 100000
set_option maxHeartbeats 4000000
set_option linter.all false
attribute [local irreducible] WL WC WQ QFun QLoop Does Q1 QRound QAssign Go.Addr.add
theorem close_any {b : Nat} {c : Option Addr} {cp : Nat} (B : Bld) (hB : B.l.length ≤ 1000000000000) (w0 : World) (m : Mem) (H : SHeap) :
    Does Try.prog 72 #[.pointer (some ⟨b, 0, none⟩)] w0 m (.blk b (.cells [.slice c B.l.length cp, str B.p, str B.d].toArray 98 (0, 0)) :: .row c cp 59 3 (B.l.map Stp.cs) :: H)
      (fun v m' H' => v = .tuple #[] ∧ m' = m ∧ ∃ c' cp', H' = .blk b (.cells [.slice c' B.close.l.length cp', str [], str []].toArray 98 (0, 0)) :: .row c' cp' 59 3 (B.close.l.map Stp.cs) :: H) := by
  refine Does.of_body (args := [.pointer (some ⟨b, 0, none⟩)]) Try.func72 rfl Try.ntmps72 rfl ?_
  have hml : (B.l.map Stp.cs).length = B.l.length := by simp
  by_cases hp : B.p = [] <;> by_cases hd : B.d = []
  · (try (refine st ?_; intros))
    have e : B.close.l = B.l := by simp [Bld.close, hp, hd]
    rw [hp, hd]
    exact q_finNorm0 (H0 := .blk b (.cells [.slice c B.l.length cp, str [], str []].toArray 98 (0, 0)) :: .row c cp 59 3 (B.l.map Stp.cs) :: H) ⟨rfl, rfl, c, cp, by rw [e]⟩ (hd := (fun w h => Pick.sat (by iterate 60 (try (first | exact Pick.all | (apply Pick.take; (· (repeat (first | exact Out.here | apply Out.there)))) | apply Pick.drop))) h))
  · (try (refine st ?_; intros))
    refine WC.drawE 14 ([.blk b (.cells [.slice c B.l.length cp, str B.p, str B.d].toArray 98 (0, 0))]) (.row c cp 59 3 (B.l.map Stp.cs) :: H) rfl (by decide +kernel) (fun w h => Pick.sat (by iterate 60 (try (first | exact Pick.all | (apply Pick.take; (· (repeat (first | exact Out.here | apply Out.there)))) | apply Pick.drop))) h) ?_
    ((try (refine WE.calm 0 (by decide +kernel) rfl rfl (by decide +kernel) rfl (fun c h => by cases h) (by intro zm zF zle; skip; ((repeat (refine sp ?_; intros)); exact WQ.q1 rfl)) ?_)); (try (refine WE.calm 1 (by decide +kernel) rfl rfl (by decide +kernel) rfl (fun c h => by cases h) (by intro zm zF zle; skip; ((repeat (refine sp ?_; intros)); exact WQ.q1 rfl)) ?_)); (try (refine WE.calm 2 (by decide +kernel) rfl rfl (by decide +kernel) rfl (fun c h => by cases h) (by intro zm zF zle; skip; ((repeat (refine sp ?_; intros)); exact WQ.q1 rfl)) ?_)); (try (refine WE.calm 3 (by decide +kernel) rfl rfl (by decide +kernel) rfl (fun c h => by cases h) (by intro zm zF zle; skip; ((repeat (refine sp ?_; intros)); exact WQ.q1 rfl)) ?_)); (try (refine WE.calm 4 (by decide +kernel) rfl rfl (by decide +kernel) rfl (fun c h => by cases h) (by intro zm zF zle; skip; ((repeat (refine sp ?_; intros)); exact WQ.q1 rfl)) ?_)); (try (refine WE.calm 5 (by decide +kernel) rfl rfl (by decide +kernel) rfl (fun c h => by cases h) (by intro zm zF zle; skip; ((repeat (refine sp ?_; intros)); exact WQ.q1 rfl)) ?_)); (try (refine WE.calm 6 (by decide +kernel) rfl rfl (by decide +kernel) rfl (fun c h => by cases h) (by intro zm zF zle; skip; ((repeat (refine sp ?_; intros)); exact WQ.q1 rfl)) ?_)); (try (refine WE.calm 7 (by decide +kernel) rfl rfl (by decide +kernel) rfl (fun c h => by cases h) (by intro zm zF zle; skip; ((repeat (refine sp ?_; intros)); exact WQ.q1 rfl)) ?_)); (try (refine WE.calm 8 (by decide +kernel) rfl rfl (by decide +kernel) rfl (fun c h => by cases h) (by intro zm zF zle; skip; ((repeat (refine sp ?_; intros)); exact WQ.q1 rfl)) ?_)); (try (refine WE.calm 9 (by decide +kernel) rfl rfl (by decide +kernel) rfl (fun c h => by cases h) (by intro zm zF zle; skip; ((repeat (refine sp ?_; intros)); exact WQ.q1 rfl)) ?_)); (try (refine WE.calm 10 (by decide +kernel) rfl rfl (by decide +kernel) rfl (fun c h => by cases h) (by intro zm zF zle; skip; ((repeat (refine sp ?_; intros)); exact WQ.q1 rfl)) ?_)); (try (refine WE.calm 11 (by decide +kernel) rfl rfl (by decide +kernel) rfl (fun c h => by cases h) (by intro zm zF zle; skip; ((repeat (refine sp ?_; intros)); exact WQ.q1 rfl)) ?_)); (try (refine WE.calm 12 (by decide +kernel) rfl rfl (by decide +kernel) rfl (fun c h => by cases h) (by intro zm zF zle; skip; ((repeat (refine sp ?_; intros)); exact WQ.q1 rfl)) ?_)); (try (refine WE.calm 13 (by decide +kernel) rfl rfl (by decide +kernel) rfl (fun c h => by cases h) (by intro zm zF zle; skip; ((repeat (refine sp ?_; intros)); exact WQ.q1 rfl)) ?_)); (try (refine WE.calm 14 (by decide +kernel) rfl rfl (by decide +kernel) rfl (fun c h => by cases h) (by intro zm zF zle; skip; ((repeat (refine sp ?_; intros)); exact WQ.q1 rfl)) ?_)); (try (refine WE.calm 15 (by decide +kernel) rfl rfl (by decide +kernel) rfl (fun c h => by cases h) (by intro zm zF zle; skip; ((repeat (refine sp ?_; intros)); exact WQ.q1 rfl)) ?_)); (try (refine WE.calm 16 (by decide +kernel) rfl rfl (by decide +kernel) rfl (fun c h => by cases h) (by intro zm zF zle; skip; ((repeat (refine sp ?_; intros)); exact WQ.q1 rfl)) ?_)); (try (refine WE.calm 17 (by decide +kernel) rfl rfl (by decide +kernel) rfl (fun c h => by cases h) (by intro zm zF zle; skip; ((repeat (refine sp ?_; intros)); exact WQ.q1 rfl)) ?_)); (try (refine WE.calm 18 (by decide +kernel) rfl rfl (by decide +kernel) rfl (fun c h => by cases h) (by intro zm zF zle; skip; ((repeat (refine sp ?_; intros)); exact WQ.q1 rfl)) ?_)); (try (refine WE.calm 19 (by decide +kernel) rfl rfl (by decide +kernel) rfl (fun c h => by cases h) (by intro zm zF zle; skip; ((repeat (refine sp ?_; intros)); exact WQ.q1 rfl)) ?_)); (try (refine WE.calm 20 (by decide +kernel) rfl rfl (by decide +kernel) rfl (fun c h => by cases h) (by intro zm zF zle; skip; ((repeat (refine sp ?_; intros)); exact WQ.q1 rfl)) ?_)); (try (refine WE.calm 21 (by decide +kernel) rfl rfl (by decide +kernel) rfl (fun c h => by cases h) (by intro zm zF zle; skip; ((repeat (refine sp ?_; intros)); exact WQ.q1 rfl)) ?_)); (try (refine WE.calm 22 (by decide +kernel) rfl rfl (by decide +kernel) rfl (fun c h => by cases h) (by intro zm zF zle; skip; ((repeat (refine sp ?_; intros)); exact WQ.q1 rfl)) ?_)); (try (refine WE.calm 23 (by decide +kernel) rfl rfl (by decide +kernel) rfl (fun c h => by cases h) (by intro zm zF zle; skip; ((repeat (refine sp ?_; intros)); exact WQ.q1 rfl)) ?_)); (try (refine WE.calm 24 (by decide +kernel) rfl rfl (by decide +kernel) rfl (fun c h => by cases h) (by intro zm zF zle; skip; ((repeat (refine sp ?_; intros)); exact WQ.q1 rfl)) ?_)); (try (refine WE.calm 25 (by decide +kernel) rfl rfl (by decide +kernel) rfl (fun c h => by cases h) (by intro zm zF zle; skip; ((repeat (refine sp ?_; intros)); exact WQ.q1 rfl)) ?_)); (try (refine WE.calm 26 (by decide +kernel) rfl rfl (by decide +kernel) rfl (fun c h => by cases h) (by intro zm zF zle; skip; ((repeat (refine sp ?_; intros)); exact WQ.q1 rfl)) ?_)); (try (refine WE.calm 27 (by decide +kernel) rfl rfl (by decide +kernel) rfl (fun c h => by cases h) (by intro zm zF zle; skip; ((repeat (refine sp ?_; intros)); exact WQ.q1 rfl)) ?_)); (try (refine WE.calm 28 (by decide +kernel) rfl rfl (by decide +kernel) rfl (fun c h => by cases h) (by intro zm zF zle; skip; ((repeat (refine sp ?_; intros)); exact WQ.q1 rfl)) ?_)); (try (refine WE.calm 29 (by decide +kernel) rfl rfl (by decide +kernel) rfl (fun c h => by cases h) (by intro zm zF zle; skip; ((repeat (refine sp ?_; intros)); exact WQ.q1 rfl)) ?_)); (try (refine WE.calm 30 (by decide +kernel) rfl rfl (by decide +kernel) rfl (fun c h => by cases h) (by intro zm zF zle; skip; ((repeat (refine sp ?_; intros)); exact WQ.q1 rfl)) ?_)); (try (refine WE.calm 31 (by decide +kernel) rfl rfl (by decide +kernel) rfl (fun c h => by cases h) (by intro zm zF zle; skip; ((repeat (refine sp ?_; intros)); exact WQ.q1 rfl)) ?_)); (try (refine WE.calm 32 (by decide +kernel) rfl rfl (by decide +kernel) rfl (fun c h => by cases h) (by intro zm zF zle; skip; ((repeat (refine sp ?_; intros)); exact WQ.q1 rfl)) ?_)); (try (refine WE.calm 33 (by decide +kernel) rfl rfl (by decide +kernel) rfl (fun c h => by cases h) (by intro zm zF zle; skip; ((repeat (refine sp ?_; intros)); exact WQ.q1 rfl)) ?_)); (try (refine WE.calm 34 (by decide +kernel) rfl rfl (by decide +kernel) rfl (fun c h => by cases h) (by intro zm zF zle; skip; ((repeat (refine sp ?_; intros)); exact WQ.q1 rfl)) ?_)); (try (refine WE.calm 35 (by decide +kernel) rfl rfl (by decide +kernel) rfl (fun c h => by cases h) (by intro zm zF zle; skip; ((repeat (refine sp ?_; intros)); exact WQ.q1 rfl)) ?_)); (try (refine WE.calm 36 (by decide +kernel) rfl rfl (by decide +kernel) rfl (fun c h => by cases h) (by intro zm zF zle; skip; ((repeat (refine sp ?_; intros)); exact WQ.q1 rfl)) ?_)); (try (refine WE.calm 37 (by decide +kernel) rfl rfl (by decide +kernel) rfl (fun c h => by cases h) (by intro zm zF zle; skip; ((repeat (refine sp ?_; intros)); exact WQ.q1 rfl)) ?_)); (try (refine WE.calm 38 (by decide +kernel) rfl rfl (by decide +kernel) rfl (fun c h => by cases h) (by intro zm zF zle; skip; ((repeat (refine sp ?_; intros)); exact WQ.q1 rfl)) ?_)); (try (refine WE.calm 39 (by decide +kernel) rfl rfl (by decide +kernel) rfl (fun c h => by cases h) (by intro zm zF zle; skip; ((repeat (refine sp ?_; intros)); exact WQ.q1 rfl)) ?_)); (try (refine WE.calm 40 (by decide +kernel) rfl rfl (by decide +kernel) rfl (fun c h => by cases h) (by intro zm zF zle; skip; ((repeat (refine sp ?_; intros)); exact WQ.q1 rfl)) ?_)); (try (refine WE.calm 41 (by decide +kernel) rfl rfl (by decide +kernel) rfl (fun c h => by cases h) (by intro zm zF zle; skip; ((repeat (refine sp ?_; intros)); exact WQ.q1 rfl)) ?_)))
    refine WE.act1 10 (by decide +kernel) rfl rfl (fun c h => by cases h) ?_
    (refine st ?_; intros; rename_i q0)
    refine WQ.acted (B := []) (U := .blk q0 (.cells [.int .i64 0, str B.d, str []].toArray 59 (0, 0)) :: .row c cp 59 3 (B.l.map Stp.cs) :: H) rfl (Mem.le.refl _) (fun w h => Pick.sat (by iterate 60 (try (first | exact Pick.all | (apply Pick.take; (· (repeat (first | exact Out.here | apply Out.there)))) | apply Pick.drop))) h) ?_
    refine WE.act1 11 (by decide +kernel) rfl rfl (fun c h => by cases h) ?_
    (refine st ?_; intros; rename_i c2 cp2)
    refine WQ.acted (B := []) (U := .row c2 cp2 59 3 (B.l.map Stp.cs ++ [[.int .i64 0, str B.d, str []]]) :: H) rfl (Mem.le.refl _) (fun w h => Pick.sat (by iterate 60 (try (first | exact Pick.all | (apply Pick.take; (· (repeat (first | exact Out.here | apply Out.there)))) | apply Pick.drop))) h) ?_
    ((try (refine WE.calm 0 (by decide +kernel) rfl rfl (by decide +kernel) rfl (fun c h => by cases h) (by intro zm zF zle; skip; ((repeat (refine sp ?_; intros)); exact WQ.q1 rfl)) ?_)); (try (refine WE.calm 1 (by decide +kernel) rfl rfl (by decide +kernel) rfl (fun c h => by cases h) (by intro zm zF zle; skip; ((repeat (refine sp ?_; intros)); exact WQ.q1 rfl)) ?_)); (try (refine WE.calm 2 (by decide +kernel) rfl rfl (by decide +kernel) rfl (fun c h => by cases h) (by intro zm zF zle; skip; ((repeat (refine sp ?_; intros)); exact WQ.q1 rfl)) ?_)); (try (refine WE.calm 3 (by decide +kernel) rfl rfl (by decide +kernel) rfl (fun c h => by cases h) (by intro zm zF zle; skip; ((repeat (refine sp ?_; intros)); exact WQ.q1 rfl)) ?_)); (try (refine WE.calm 4 (by decide +kernel) rfl rfl (by decide +kernel) rfl (fun c h => by cases h) (by intro zm zF zle; skip; ((repeat (refine sp ?_; intros)); exact WQ.q1 rfl)) ?_)); (try (refine WE.calm 5 (by decide +kernel) rfl rfl (by decide +kernel) rfl (fun c h => by cases h) (by intro zm zF zle; skip; ((repeat (refine sp ?_; intros)); exact WQ.q1 rfl)) ?_)); (try (refine WE.calm 6 (by decide +kernel) rfl rfl (by decide +kernel) rfl (fun c h => by cases h) (by intro zm zF zle; skip; ((repeat (refine sp ?_; intros)); exact WQ.q1 rfl)) ?_)); (try (refine WE.calm 7 (by decide +kernel) rfl rfl (by decide +kernel) rfl (fun c h => by cases h) (by intro zm zF zle; skip; ((repeat (refine sp ?_; intros)); exact WQ.q1 rfl)) ?_)); (try (refine WE.calm 8 (by decide +kernel) rfl rfl (by decide +kernel) rfl (fun c h => by cases h) (by intro zm zF zle; skip; ((repeat (refine sp ?_; intros)); exact WQ.q1 rfl)) ?_)); (try (refine WE.calm 9 (by decide +kernel) rfl rfl (by decide +kernel) rfl (fun c h => by cases h) (by intro zm zF zle; skip; ((repeat (refine sp ?_; intros)); exact WQ.q1 rfl)) ?_)); (try (refine WE.calm 10 (by decide +kernel) rfl rfl (by decide +kernel) rfl (fun c h => by cases h) (by intro zm zF zle; skip; ((repeat (refine sp ?_; intros)); exact WQ.q1 rfl)) ?_)); (try (refine WE.calm 11 (by decide +kernel) rfl rfl (by decide +kernel) rfl (fun c h => by cases h) (by intro zm zF zle; skip; ((repeat (refine sp ?_; intros)); exact WQ.q1 rfl)) ?_)); (try (refine WE.calm 12 (by decide +kernel) rfl rfl (by decide +kernel) rfl (fun c h => by cases h) (by intro zm zF zle; skip; ((repeat (refine sp ?_; intros)); exact WQ.q1 rfl)) ?_)); (try (refine WE.calm 13 (by decide +kernel) rfl rfl (by decide +kernel) rfl (fun c h => by cases h) (by intro zm zF zle; skip; ((repeat (refine sp ?_; intros)); exact WQ.q1 rfl)) ?_)); (try (refine WE.calm 14 (by decide +kernel) rfl rfl (by decide +kernel) rfl (fun c h => by cases h) (by intro zm zF zle; skip; ((repeat (refine sp ?_; intros)); exact WQ.q1 rfl)) ?_)); (try (refine WE.calm 15 (by decide +kernel) rfl rfl (by decide +kernel) rfl (fun c h => by cases h) (by intro zm zF zle; skip; ((repeat (refine sp ?_; intros)); exact WQ.q1 rfl)) ?_)); (try (refine WE.calm 16 (by decide +kernel) rfl rfl (by decide +kernel) rfl (fun c h => by cases h) (by intro zm zF zle; skip; ((repeat (refine sp ?_; intros)); exact WQ.q1 rfl)) ?_)); (try (refine WE.calm 17 (by decide +kernel) rfl rfl (by decide +kernel) rfl (fun c h => by cases h) (by intro zm zF zle; skip; ((repeat (refine sp ?_; intros)); exact WQ.q1 rfl)) ?_)); (try (refine WE.calm 18 (by decide +kernel) rfl rfl (by decide +kernel) rfl (fun c h => by cases h) (by intro zm zF zle; skip; ((repeat (refine sp ?_; intros)); exact WQ.q1 rfl)) ?_)); (try (refine WE.calm 19 (by decide +kernel) rfl rfl (by decide +kernel) rfl (fun c h => by cases h) (by intro zm zF zle; skip; ((repeat (refine sp ?_; intros)); exact WQ.q1 rfl)) ?_)); (try (refine WE.calm 20 (by decide +kernel) rfl rfl (by decide +kernel) rfl (fun c h => by cases h) (by intro zm zF zle; skip; ((repeat (refine sp ?_; intros)); exact WQ.q1 rfl)) ?_)); (try (refine WE.calm 21 (by decide +kernel) rfl rfl (by decide +kernel) rfl (fun c h => by cases h) (by intro zm zF zle; skip; ((repeat (refine sp ?_; intros)); exact WQ.q1 rfl)) ?_)); (try (refine WE.calm 22 (by decide +kernel) rfl rfl (by decide +kernel) rfl (fun c h => by cases h) (by intro zm zF zle; skip; ((repeat (refine sp ?_; intros)); exact WQ.q1 rfl)) ?_)); (try (refine WE.calm 23 (by decide +kernel) rfl rfl (by decide +kernel) rfl (fun c h => by cases h) (by intro zm zF zle; skip; ((repeat (refine sp ?_; intros)); exact WQ.q1 rfl)) ?_)); (try (refine WE.calm 24 (by decide +kernel) rfl rfl (by decide +kernel) rfl (fun c h => by cases h) (by intro zm zF zle; skip; ((repeat (refine sp ?_; intros)); exact WQ.q1 rfl)) ?_)); (try (refine WE.calm 25 (by decide +kernel) rfl rfl (by decide +kernel) rfl (fun c h => by cases h) (by intro zm zF zle; skip; ((repeat (refine sp ?_; intros)); exact WQ.q1 rfl)) ?_)); (try (refine WE.calm 26 (by decide +kernel) rfl rfl (by decide +kernel) rfl (fun c h => by cases h) (by intro zm zF zle; skip; ((repeat (refine sp ?_; intros)); exact WQ.q1 rfl)) ?_)); (try (refine WE.calm 27 (by decide +kernel) rfl rfl (by decide +kernel) rfl (fun c h => by cases h) (by intro zm zF zle; skip; ((repeat (refine sp ?_; intros)); exact WQ.q1 rfl)) ?_)); (try (refine WE.calm 28 (by decide +kernel) rfl rfl (by decide +kernel) rfl (fun c h => by cases h) (by intro zm zF zle; skip; ((repeat (refine sp ?_; intros)); exact WQ.q1 rfl)) ?_)); (try (refine WE.calm 29 (by decide +kernel) rfl rfl (by decide +kernel) rfl (fun c h => by cases h) (by intro zm zF zle; skip; ((repeat (refine sp ?_; intros)); exact WQ.q1 rfl)) ?_)); (try (refine WE.calm 30 (by decide +kernel) rfl rfl (by decide +kernel) rfl (fun c h => by cases h) (by intro zm zF zle; skip; ((repeat (refine sp ?_; intros)); exact WQ.q1 rfl)) ?_)); (try (refine WE.calm 31 (by decide +kernel) rfl rfl (by decide +kernel) rfl (fun c h => by cases h) (by intro zm zF zle; skip; ((repeat (refine sp ?_; intros)); exact WQ.q1 rfl)) ?_)); (try (refine WE.calm 32 (by decide +kernel) rfl rfl (by decide +kernel) rfl (fun c h => by cases h) (by intro zm zF zle; skip; ((repeat (refine sp ?_; intros)); exact WQ.q1 rfl)) ?_)); (try (refine WE.calm 33 (by decide +kernel) rfl rfl (by decide +kernel) rfl (fun c h => by cases h) (by intro zm zF zle; skip; ((repeat (refine sp ?_; intros)); exact WQ.q1 rfl)) ?_)); (try (refine WE.calm 34 (by decide +kernel) rfl rfl (by decide +kernel) rfl (fun c h => by cases h) (by intro zm zF zle; skip; ((repeat (refine sp ?_; intros)); exact WQ.q1 rfl)) ?_)); (try (refine WE.calm 35 (by decide +kernel) rfl rfl (by decide +kernel) rfl (fun c h => by cases h) (by intro zm zF zle; skip; ((repeat (refine sp ?_; intros)); exact WQ.q1 rfl)) ?_)); (try (refine WE.calm 36 (by decide +kernel) rfl rfl (by decide +kernel) rfl (fun c h => by cases h) (by intro zm zF zle; skip; ((repeat (refine sp ?_; intros)); exact WQ.q1 rfl)) ?_)); (try (refine WE.calm 37 (by decide +kernel) rfl rfl (by decide +kernel) rfl (fun c h => by cases h) (by intro zm zF zle; skip; ((repeat (refine sp ?_; intros)); exact WQ.q1 rfl)) ?_)); (try (refine WE.calm 38 (by decide +kernel) rfl rfl (by decide +kernel) rfl (fun c h => by cases h) (by intro zm zF zle; skip; ((repeat (refine sp ?_; intros)); exact WQ.q1 rfl)) ?_)); (try (refine WE.calm 39 (by decide +kernel) rfl rfl (by decide +kernel) rfl (fun c h => by cases h) (by intro zm zF zle; skip; ((repeat (refine sp ?_; intros)); exact WQ.q1 rfl)) ?_)); (try (refine WE.calm 40 (by decide +kernel) rfl rfl (by decide +kernel) rfl (fun c h => by cases h) (by intro zm zF zle; skip; ((repeat (refine sp ?_; intros)); exact WQ.q1 rfl)) ?_)); (try (refine WE.calm 41 (by decide +kernel) rfl rfl (by decide +kernel) rfl (fun c h => by cases h) (by intro zm zF zle; skip; ((repeat (refine sp ?_; intros)); exact WQ.q1 rfl)) ?_)))
    refine WE.done (by decide +kernel) ?_
    (try (refine st ?_; intros))
    rw [hml, hp]
    have e : B.close.l = B.l ++ [⟨0, B.d, []⟩] := by simp [Bld.close, hp, hd]
    exact q_finNorm0 (H0 := .blk b (.cells [.slice c2 (B.l.length + 1) cp2, str [], str []].toArray 98 (0, 0)) :: .row c2 cp2 59 3 (B.l.map Stp.cs ++ [[.int .i64 0, str B.d, str []]]) :: H) ⟨rfl, rfl, c2, cp2, by rw [e]; simp [Stp.cs]⟩ (hd := (fun w h => Pick.sat (by iterate 60 (try (first | exact Pick.all | (apply Pick.take; (· (repeat (first | exact Out.here | apply Out.there)))) | apply Pick.drop))) h))
  · (try (refine st ?_; intros))
    refine WC.drawE 14 ([.blk b (.cells [.slice c B.l.length cp, str B.p, str B.d].toArray 98 (0, 0))]) (.row c cp 59 3 (B.l.map Stp.cs) :: H) rfl (by decide +kernel) (fun w h => Pick.sat (by iterate 60 (try (first | exact Pick.all | (apply Pick.take; (· (repeat (first | exact Out.here | apply Out.there)))) | apply Pick.drop))) h) ?_
    ((try (refine WE.calm 0 (by decide +kernel) rfl rfl (by decide +kernel) rfl (fun c h => by cases h) (by intro zm zF zle; skip; ((repeat (refine sp ?_; intros)); exact WQ.q1 rfl)) ?_)); (try (refine WE.calm 1 (by decide +kernel) rfl rfl (by decide +kernel) rfl (fun c h => by cases h) (by intro zm zF zle; skip; ((repeat (refine sp ?_; intros)); exact WQ.q1 rfl)) ?_)); (try (refine WE.calm 2 (by decide +kernel) rfl rfl (by decide +kernel) rfl (fun c h => by cases h) (by intro zm zF zle; skip; ((repeat (refine sp ?_; intros)); exact WQ.q1 rfl)) ?_)); (try (refine WE.calm 3 (by decide +kernel) rfl rfl (by decide +kernel) rfl (fun c h => by cases h) (by intro zm zF zle; skip; ((repeat (refine sp ?_; intros)); exact WQ.q1 rfl)) ?_)); (try (refine WE.calm 4 (by decide +kernel) rfl rfl (by decide +kernel) rfl (fun c h => by cases h) (by intro zm zF zle; skip; ((repeat (refine sp ?_; intros)); exact WQ.q1 rfl)) ?_)); (try (refine WE.calm 5 (by decide +kernel) rfl rfl (by decide +kernel) rfl (fun c h => by cases h) (by intro zm zF zle; skip; ((repeat (refine sp ?_; intros)); exact WQ.q1 rfl)) ?_)); (try (refine WE.calm 6 (by decide +kernel) rfl rfl (by decide +kernel) rfl (fun c h => by cases h) (by intro zm zF zle; skip; ((repeat (refine sp ?_; intros)); exact WQ.q1 rfl)) ?_)); (try (refine WE.calm 7 (by decide +kernel) rfl rfl (by decide +kernel) rfl (fun c h => by cases h) (by intro zm zF zle; skip; ((repeat (refine sp ?_; intros)); exact WQ.q1 rfl)) ?_)); (try (refine WE.calm 8 (by decide +kernel) rfl rfl (by decide +kernel) rfl (fun c h => by cases h) (by intro zm zF zle; skip; ((repeat (refine sp ?_; intros)); exact WQ.q1 rfl)) ?_)); (try (refine WE.calm 9 (by decide +kernel) rfl rfl (by decide +kernel) rfl (fun c h => by cases h) (by intro zm zF zle; skip; ((repeat (refine sp ?_; intros)); exact WQ.q1 rfl)) ?_)); (try (refine WE.calm 10 (by decide +kernel) rfl rfl (by decide +kernel) rfl (fun c h => by cases h) (by intro zm zF zle; skip; ((repeat (refine sp ?_; intros)); exact WQ.q1 rfl)) ?_)); (try (refine WE.calm 11 (by decide +kernel) rfl rfl (by decide +kernel) rfl (fun c h => by cases h) (by intro zm zF zle; skip; ((repeat (refine sp ?_; intros)); exact WQ.q1 rfl)) ?_)); (try (refine WE.calm 12 (by decide +kernel) rfl rfl (by decide +kernel) rfl (fun c h => by cases h) (by intro zm zF zle; skip; ((repeat (refine sp ?_; intros)); exact WQ.q1 rfl)) ?_)); (try (refine WE.calm 13 (by decide +kernel) rfl rfl (by decide +kernel) rfl (fun c h => by cases h) (by intro zm zF zle; skip; ((repeat (refine sp ?_; intros)); exact WQ.q1 rfl)) ?_)); (try (refine WE.calm 14 (by decide +kernel) rfl rfl (by decide +kernel) rfl (fun c h => by cases h) (by intro zm zF zle; skip; ((repeat (refine sp ?_; intros)); exact WQ.q1 rfl)) ?_)); (try (refine WE.calm 15 (by decide +kernel) rfl rfl (by decide +kernel) rfl (fun c h => by cases h) (by intro zm zF zle; skip; ((repeat (refine sp ?_; intros)); exact WQ.q1 rfl)) ?_)); (try (refine WE.calm 16 (by decide +kernel) rfl rfl (by decide +kernel) rfl (fun c h => by cases h) (by intro zm zF zle; skip; ((repeat (refine sp ?_; intros)); exact WQ.q1 rfl)) ?_)); (try (refine WE.calm 17 (by decide +kernel) rfl rfl (by decide +kernel) rfl (fun c h => by cases h) (by intro zm zF zle; skip; ((repeat (refine sp ?_; intros)); exact WQ.q1 rfl)) ?_)); (try (refine WE.calm 18 (by decide +kernel) rfl rfl (by decide +kernel) rfl (fun c h => by cases h) (by intro zm zF zle; skip; ((repeat (refine sp ?_; intros)); exact WQ.q1 rfl)) ?_)); (try (refine WE.calm 19 (by decide +kernel) rfl rfl (by decide +kernel) rfl (fun c h => by cases h) (by intro zm zF zle; skip; ((repeat (refine sp ?_; intros)); exact WQ.q1 rfl)) ?_)); (try (refine WE.calm 20 (by decide +kernel) rfl rfl (by decide +kernel) rfl (fun c h => by cases h) (by intro zm zF zle; skip; ((repeat (refine sp ?_; intros)); exact WQ.q1 rfl)) ?_)); (try (refine WE.calm 21 (by decide +kernel) rfl rfl (by decide +kernel) rfl (fun c h => by cases h) (by intro zm zF zle; skip; ((repeat (refine sp ?_; intros)); exact WQ.q1 rfl)) ?_)); (try (refine WE.calm 22 (by decide +kernel) rfl rfl (by decide +kernel) rfl (fun c h => by cases h) (by intro zm zF zle; skip; ((repeat (refine sp ?_; intros)); exact WQ.q1 rfl)) ?_)); (try (refine WE.calm 23 (by decide +kernel) rfl rfl (by decide +kernel) rfl (fun c h => by cases h) (by intro zm zF zle; skip; ((repeat (refine sp ?_; intros)); exact WQ.q1 rfl)) ?_)); (try (refine WE.calm 24 (by decide +kernel) rfl rfl (by decide +kernel) rfl (fun c h => by cases h) (by intro zm zF zle; skip; ((repeat (refine sp ?_; intros)); exact WQ.q1 rfl)) ?_)); (try (refine WE.calm 25 (by decide +kernel) rfl rfl (by decide +kernel) rfl (fun c h => by cases h) (by intro zm zF zle; skip; ((repeat (refine sp ?_; intros)); exact WQ.q1 rfl)) ?_)); (try (refine WE.calm 26 (by decide +kernel) rfl rfl (by decide +kernel) rfl (fun c h => by cases h) (by intro zm zF zle; skip; ((repeat (refine sp ?_; intros)); exact WQ.q1 rfl)) ?_)); (try (refine WE.calm 27 (by decide +kernel) rfl rfl (by decide +kernel) rfl (fun c h => by cases h) (by intro zm zF zle; skip; ((repeat (refine sp ?_; intros)); exact WQ.q1 rfl)) ?_)); (try (refine WE.calm 28 (by decide +kernel) rfl rfl (by decide +kernel) rfl (fun c h => by cases h) (by intro zm zF zle; skip; ((repeat (refine sp ?_; intros)); exact WQ.q1 rfl)) ?_)); (try (refine WE.calm 29 (by decide +kernel) rfl rfl (by decide +kernel) rfl (fun c h => by cases h) (by intro zm zF zle; skip; ((repeat (refine sp ?_; intros)); exact WQ.q1 rfl)) ?_)); (try (refine WE.calm 30 (by decide +kernel) rfl rfl (by decide +kernel) rfl (fun c h => by cases h) (by intro zm zF zle; skip; ((repeat (refine sp ?_; intros)); exact WQ.q1 rfl)) ?_)); (try (refine WE.calm 31 (by decide +kernel) rfl rfl (by decide +kernel) rfl (fun c h => by cases h) (by intro zm zF zle; skip; ((repeat (refine sp ?_; intros)); exact WQ.q1 rfl)) ?_)); (try (refine WE.calm 32 (by decide +kernel) rfl rfl (by decide +kernel) rfl (fun c h => by cases h) (by intro zm zF zle; skip; ((repeat (refine sp ?_; intros)); exact WQ.q1 rfl)) ?_)); (try (refine WE.calm 33 (by decide +kernel) rfl rfl (by decide +kernel) rfl (fun c h => by cases h) (by intro zm zF zle; skip; ((repeat (refine sp ?_; intros)); exact WQ.q1 rfl)) ?_)); (try (refine WE.calm 34 (by decide +kernel) rfl rfl (by decide +kernel) rfl (fun c h => by cases h) (by intro zm zF zle; skip; ((repeat (refine sp ?_; intros)); exact WQ.q1 rfl)) ?_)); (try (refine WE.calm 35 (by decide +kernel) rfl rfl (by decide +kernel) rfl (fun c h => by cases h) (by intro zm zF zle; skip; ((repeat (refine sp ?_; intros)); exact WQ.q1 rfl)) ?_)); (try (refine WE.calm 36 (by decide +kernel) rfl rfl (by decide +kernel) rfl (fun c h => by cases h) (by intro zm zF zle; skip; ((repeat (refine sp ?_; intros)); exact WQ.q1 rfl)) ?_)); (try (refine WE.calm 37 (by decide +kernel) rfl rfl (by decide +kernel) rfl (fun c h => by cases h) (by intro zm zF zle; skip; ((repeat (refine sp ?_; intros)); exact WQ.q1 rfl)) ?_)); (try (refine WE.calm 38 (by decide +kernel) rfl rfl (by decide +kernel) rfl (fun c h => by cases h) (by intro zm zF zle; skip; ((repeat (refine sp ?_; intros)); exact WQ.q1 rfl)) ?_)); (try (refine WE.calm 39 (by decide +kernel) rfl rfl (by decide +kernel) rfl (fun c h => by cases h) (by intro zm zF zle; skip; ((repeat (refine sp ?_; intros)); exact WQ.q1 rfl)) ?_)); (try (refine WE.calm 40 (by decide +kernel) rfl rfl (by decide +kernel) rfl (fun c h => by cases h) (by intro zm zF zle; skip; ((repeat (refine sp ?_; intros)); exact WQ.q1 rfl)) ?_)); (try (refine WE.calm 41 (by decide +kernel) rfl rfl (by decide +kernel) rfl (fun c h => by cases h) (by intro zm zF zle; skip; ((repeat (refine sp ?_; intros)); exact WQ.q1 rfl)) ?_)))
    refine WE.act1 10 (by decide +kernel) rfl rfl (fun c h => by cases h) ?_
    (refine st ?_; intros; rename_i q0)
    refine WQ.acted (B := []) (U := .blk q0 (.cells [.int .i64 0, str [], str B.p].toArray 59 (0, 0)) :: .row c cp 59 3 (B.l.map Stp.cs) :: H) rfl (Mem.le.refl _) (fun w h => Pick.sat (by iterate 60 (try (first | exact Pick.all | (apply Pick.take; (· (repeat (first | exact Out.here | apply Out.there)))) | apply Pick.drop))) h) ?_
    refine WE.act1 11 (by decide +kernel) rfl rfl (fun c h => by cases h) ?_
    (refine st ?_; intros; rename_i c2 cp2)
    refine WQ.acted (B := []) (U := .row c2 cp2 59 3 (B.l.map Stp.cs ++ [[.int .i64 0, str [], str B.p]]) :: H) rfl (Mem.le.refl _) (fun w h => Pick.sat (by iterate 60 (try (first | exact Pick.all | (apply Pick.take; (· (repeat (first | exact Out.here | apply Out.there)))) | apply Pick.drop))) h) ?_
    ((try (refine WE.calm 0 (by decide +kernel) rfl rfl (by decide +kernel) rfl (fun c h => by cases h) (by intro zm zF zle; skip; ((repeat (refine sp ?_; intros)); exact WQ.q1 rfl)) ?_)); (try (refine WE.calm 1 (by decide +kernel) rfl rfl (by decide +kernel) rfl (fun c h => by cases h) (by intro zm zF zle; skip; ((repeat (refine sp ?_; intros)); exact WQ.q1 rfl)) ?_)); (try (refine WE.calm 2 (by decide +kernel) rfl rfl (by decide +kernel) rfl (fun c h => by cases h) (by intro zm zF zle; skip; ((repeat (refine sp ?_; intros)); exact WQ.q1 rfl)) ?_)); (try (refine WE.calm 3 (by decide +kernel) rfl rfl (by decide +kernel) rfl (fun c h => by cases h) (by intro zm zF zle; skip; ((repeat (refine sp ?_; intros)); exact WQ.q1 rfl)) ?_)); (try (refine WE.calm 4 (by decide +kernel) rfl rfl (by decide +kernel) rfl (fun c h => by cases h) (by intro zm zF zle; skip; ((repeat (refine sp ?_; intros)); exact WQ.q1 rfl)) ?_)); (try (refine WE.calm 5 (by decide +kernel) rfl rfl (by decide +kernel) rfl (fun c h => by cases h) (by intro zm zF zle; skip; ((repeat (refine sp ?_; intros)); exact WQ.q1 rfl)) ?_)); (try (refine WE.calm 6 (by decide +kernel) rfl rfl (by decide +kernel) rfl (fun c h => by cases h) (by intro zm zF zle; skip; ((repeat (refine sp ?_; intros)); exact WQ.q1 rfl)) ?_)); (try (refine WE.calm 7 (by decide +kernel) rfl rfl (by decide +kernel) rfl (fun c h => by cases h) (by intro zm zF zle; skip; ((repeat (refine sp ?_; intros)); exact WQ.q1 rfl)) ?_)); (try (refine WE.calm 8 (by decide +kernel) rfl rfl (by decide +kernel) rfl (fun c h => by cases h) (by intro zm zF zle; skip; ((repeat (refine sp ?_; intros)); exact WQ.q1 rfl)) ?_)); (try (refine WE.calm 9 (by decide +kernel) rfl rfl (by decide +kernel) rfl (fun c h => by cases h) (by intro zm zF zle; skip; ((repeat (refine sp ?_; intros)); exact WQ.q1 rfl)) ?_)); (try (refine WE.calm 10 (by decide +kernel) rfl rfl (by decide +kernel) rfl (fun c h => by cases h) (by intro zm zF zle; skip; ((repeat (refine sp ?_; intros)); exact WQ.q1 rfl)) ?_)); (try (refine WE.calm 11 (by decide +kernel) rfl rfl (by decide +kernel) rfl (fun c h => by cases h) (by intro zm zF zle; skip; ((repeat (refine sp ?_; intros)); exact WQ.q1 rfl)) ?_)); (try (refine WE.calm 12 (by decide +kernel) rfl rfl (by decide +kernel) rfl (fun c h => by cases h) (by intro zm zF zle; skip; ((repeat (refine sp ?_; intros)); exact WQ.q1 rfl)) ?_)); (try (refine WE.calm 13 (by decide +kernel) rfl rfl (by decide +kernel) rfl (fun c h => by cases h) (by intro zm zF zle; skip; ((repeat (refine sp ?_; intros)); exact WQ.q1 rfl)) ?_)); (try (refine WE.calm 14 (by decide +kernel) rfl rfl (by decide +kernel) rfl (fun c h => by cases h) (by intro zm zF zle; skip; ((repeat (refine sp ?_; intros)); exact WQ.q1 rfl)) ?_)); (try (refine WE.calm 15 (by decide +kernel) rfl rfl (by decide +kernel) rfl (fun c h => by cases h) (by intro zm zF zle; skip; ((repeat (refine sp ?_; intros)); exact WQ.q1 rfl)) ?_)); (try (refine WE.calm 16 (by decide +kernel) rfl rfl (by decide +kernel) rfl (fun c h => by cases h) (by intro zm zF zle; skip; ((repeat (refine sp ?_; intros)); exact WQ.q1 rfl)) ?_)); (try (refine WE.calm 17 (by decide +kernel) rfl rfl (by decide +kernel) rfl (fun c h => by cases h) (by intro zm zF zle; skip; ((repeat (refine sp ?_; intros)); exact WQ.q1 rfl)) ?_)); (try (refine WE.calm 18 (by decide +kernel) rfl rfl (by decide +kernel) rfl (fun c h => by cases h) (by intro zm zF zle; skip; ((repeat (refine sp ?_; intros)); exact WQ.q1 rfl)) ?_)); (try (refine WE.calm 19 (by decide +kernel) rfl rfl (by decide +kernel) rfl (fun c h => by cases h) (by intro zm zF zle; skip; ((repeat (refine sp ?_; intros)); exact WQ.q1 rfl)) ?_)); (try (refine WE.calm 20 (by decide +kernel) rfl rfl (by decide +kernel) rfl (fun c h => by cases h) (by intro zm zF zle; skip; ((repeat (refine sp ?_; intros)); exact WQ.q1 rfl)) ?_)); (try (refine WE.calm 21 (by decide +kernel) rfl rfl (by decide +kernel) rfl (fun c h => by cases h) (by intro zm zF zle; skip; ((repeat (refine sp ?_; intros)); exact WQ.q1 rfl)) ?_)); (try (refine WE.calm 22 (by decide +kernel) rfl rfl (by decide +kernel) rfl (fun c h => by cases h) (by intro zm zF zle; skip; ((repeat (refine sp ?_; intros)); exact WQ.q1 rfl)) ?_)); (try (refine WE.calm 23 (by decide +kernel) rfl rfl (by decide +kernel) rfl (fun c h => by cases h) (by intro zm zF zle; skip; ((repeat (refine sp ?_; intros)); exact WQ.q1 rfl)) ?_)); (try (refine WE.calm 24 (by decide +kernel) rfl rfl (by decide +kernel) rfl (fun c h => by cases h) (by intro zm zF zle; skip; ((repeat (refine sp ?_; intros)); exact WQ.q1 rfl)) ?_)); (try (refine WE.calm 25 (by decide +kernel) rfl rfl (by decide +kernel) rfl (fun c h => by cases h) (by intro zm zF zle; skip; ((repeat (refine sp ?_; intros)); exact WQ.q1 rfl)) ?_)); (try (refine WE.calm 26 (by decide +kernel) rfl rfl (by decide +kernel) rfl (fun c h => by cases h) (by intro zm zF zle; skip; ((repeat (refine sp ?_; intros)); exact WQ.q1 rfl)) ?_)); (try (refine WE.calm 27 (by decide +kernel) rfl rfl (by decide +kernel) rfl (fun c h => by cases h) (by intro zm zF zle; skip; ((repeat (refine sp ?_; intros)); exact WQ.q1 rfl)) ?_)); (try (refine WE.calm 28 (by decide +kernel) rfl rfl (by decide +kernel) rfl (fun c h => by cases h) (by intro zm zF zle; skip; ((repeat (refine sp ?_; intros)); exact WQ.q1 rfl)) ?_)); (try (refine WE.calm 29 (by decide +kernel) rfl rfl (by decide +kernel) rfl (fun c h => by cases h) (by intro zm zF zle; skip; ((repeat (refine sp ?_; intros)); exact WQ.q1 rfl)) ?_)); (try (refine WE.calm 30 (by decide +kernel) rfl rfl (by decide +kernel) rfl (fun c h => by cases h) (by intro zm zF zle; skip; ((repeat (refine sp ?_; intros)); exact WQ.q1 rfl)) ?_)); (try (refine WE.calm 31 (by decide +kernel) rfl rfl (by decide +kernel) rfl (fun c h => by cases h) (by intro zm zF zle; skip; ((repeat (refine sp ?_; intros)); exact WQ.q1 rfl)) ?_)); (try (refine WE.calm 32 (by decide +kernel) rfl rfl (by decide +kernel) rfl (fun c h => by cases h) (by intro zm zF zle; skip; ((repeat (refine sp ?_; intros)); exact WQ.q1 rfl)) ?_)); (try (refine WE.calm 33 (by decide +kernel) rfl rfl (by decide +kernel) rfl (fun c h => by cases h) (by intro zm zF zle; skip; ((repeat (refine sp ?_; intros)); exact WQ.q1 rfl)) ?_)); (try (refine WE.calm 34 (by decide +kernel) rfl rfl (by decide +kernel) rfl (fun c h => by cases h) (by intro zm zF zle; skip; ((repeat (refine sp ?_; intros)); exact WQ.q1 rfl)) ?_)); (try (refine WE.calm 35 (by decide +kernel) rfl rfl (by decide +kernel) rfl (fun c h => by cases h) (by intro zm zF zle; skip; ((repeat (refine sp ?_; intros)); exact WQ.q1 rfl)) ?_)); (try (refine WE.calm 36 (by decide +kernel) rfl rfl (by decide +kernel) rfl (fun c h => by cases h) (by intro zm zF zle; skip; ((repeat (refine sp ?_; intros)); exact WQ.q1 rfl)) ?_)); (try (refine WE.calm 37 (by decide +kernel) rfl rfl (by decide +kernel) rfl (fun c h => by cases h) (by intro zm zF zle; skip; ((repeat (refine sp ?_; intros)); exact WQ.q1 rfl)) ?_)); (try (refine WE.calm 38 (by decide +kernel) rfl rfl (by decide +kernel) rfl (fun c h => by cases h) (by intro zm zF zle; skip; ((repeat (refine sp ?_; intros)); exact WQ.q1 rfl)) ?_)); (try (refine WE.calm 39 (by decide +kernel) rfl rfl (by decide +kernel) rfl (fun c h => by cases h) (by intro zm zF zle; skip; ((repeat (refine sp ?_; intros)); exact WQ.q1 rfl)) ?_)); (try (refine WE.calm 40 (by decide +kernel) rfl rfl (by decide +kernel) rfl (fun c h => by cases h) (by intro zm zF zle; skip; ((repeat (refine sp ?_; intros)); exact WQ.q1 rfl)) ?_)); (try (refine WE.calm 41 (by decide +kernel) rfl rfl (by decide +kernel) rfl (fun c h => by cases h) (by intro zm zF zle; skip; ((repeat (refine sp ?_; intros)); exact WQ.q1 rfl)) ?_)))
    refine WE.done (by decide +kernel) ?_
    (try (refine st ?_; intros))
    rw [hml, hd]
    have e : B.close.l = B.l ++ [⟨0, [], B.p⟩] := by simp [Bld.close, hp, hd]
    exact q_finNorm0 (H0 := .blk b (.cells [.slice c2 (B.l.length + 1) cp2, str [], str []].toArray 98 (0, 0)) :: .row c2 cp2 59 3 (B.l.map Stp.cs ++ [[.int .i64 0, str [], str B.p]]) :: H) ⟨rfl, rfl, c2, cp2, by rw [e]; simp [Stp.cs]⟩ (hd := (fun w h => Pick.sat (by iterate 60 (try (first | exact Pick.all | (apply Pick.take; (· (repeat (first | exact Out.here | apply Out.there)))) | apply Pick.drop))) h))
  · have hml1 : (B.l.map Stp.cs ++ [[.int .i64 0, str [], str B.p]]).length = B.l.length + 1 := by simp
    (try (refine st ?_; intros))
    refine WC.drawE 14 ([.blk b (.cells [.slice c B.l.length cp, str B.p, str B.d].toArray 98 (0, 0))]) (.row c cp 59 3 (B.l.map Stp.cs) :: H) rfl (by decide +kernel) (fun w h => Pick.sat (by iterate 60 (try (first | exact Pick.all | (apply Pick.take; (· (repeat (first | exact Out.here | apply Out.there)))) | apply Pick.drop))) h) ?_
    ((try (refine WE.calm 0 (by decide +kernel) rfl rfl (by decide +kernel) rfl (fun c h => by cases h) (by intro zm zF zle; skip; ((repeat (refine sp ?_; intros)); exact WQ.q1 rfl)) ?_)); (try (refine WE.calm 1 (by decide +kernel) rfl rfl (by decide +kernel) rfl (fun c h => by cases h) (by intro zm zF zle; skip; ((repeat (refine sp ?_; intros)); exact WQ.q1 rfl)) ?_)); (try (refine WE.calm 2 (by decide +kernel) rfl rfl (by decide +kernel) rfl (fun c h => by cases h) (by intro zm zF zle; skip; ((repeat (refine sp ?_; intros)); exact WQ.q1 rfl)) ?_)); (try (refine WE.calm 3 (by decide +kernel) rfl rfl (by decide +kernel) rfl (fun c h => by cases h) (by intro zm zF zle; skip; ((repeat (refine sp ?_; intros)); exact WQ.q1 rfl)) ?_)); (try (refine WE.calm 4 (by decide +kernel) rfl rfl (by decide +kernel) rfl (fun c h => by cases h) (by intro zm zF zle; skip; ((repeat (refine sp ?_; intros)); exact WQ.q1 rfl)) ?_)); (try (refine WE.calm 5 (by decide +kernel) rfl rfl (by decide +kernel) rfl (fun c h => by cases h) (by intro zm zF zle; skip; ((repeat (refine sp ?_; intros)); exact WQ.q1 rfl)) ?_)); (try (refine WE.calm 6 (by decide +kernel) rfl rfl (by decide +kernel) rfl (fun c h => by cases h) (by intro zm zF zle; skip; ((repeat (refine sp ?_; intros)); exact WQ.q1 rfl)) ?_)); (try (refine WE.calm 7 (by decide +kernel) rfl rfl (by decide +kernel) rfl (fun c h => by cases h) (by intro zm zF zle; skip; ((repeat (refine sp ?_; intros)); exact WQ.q1 rfl)) ?_)); (try (refine WE.calm 8 (by decide +kernel) rfl rfl (by decide +kernel) rfl (fun c h => by cases h) (by intro zm zF zle; skip; ((repeat (refine sp ?_; intros)); exact WQ.q1 rfl)) ?_)); (try (refine WE.calm 9 (by decide +kernel) rfl rfl (by decide +kernel) rfl (fun c h => by cases h) (by intro zm zF zle; skip; ((repeat (refine sp ?_; intros)); exact WQ.q1 rfl)) ?_)); (try (refine WE.calm 10 (by decide +kernel) rfl rfl (by decide +kernel) rfl (fun c h => by cases h) (by intro zm zF zle; skip; ((repeat (refine sp ?_; intros)); exact WQ.q1 rfl)) ?_)); (try (refine WE.calm 11 (by decide +kernel) rfl rfl (by decide +kernel) rfl (fun c h => by cases h) (by intro zm zF zle; skip; ((repeat (refine sp ?_; intros)); exact WQ.q1 rfl)) ?_)); (try (refine WE.calm 12 (by decide +kernel) rfl rfl (by decide +kernel) rfl (fun c h => by cases h) (by intro zm zF zle; skip; ((repeat (refine sp ?_; intros)); exact WQ.q1 rfl)) ?_)); (try (refine WE.calm 13 (by decide +kernel) rfl rfl (by decide +kernel) rfl (fun c h => by cases h) (by intro zm zF zle; skip; ((repeat (refine sp ?_; intros)); exact WQ.q1 rfl)) ?_)); (try (refine WE.calm 14 (by decide +kernel) rfl rfl (by decide +kernel) rfl (fun c h => by cases h) (by intro zm zF zle; skip; ((repeat (refine sp ?_; intros)); exact WQ.q1 rfl)) ?_)); (try (refine WE.calm 15 (by decide +kernel) rfl rfl (by decide +kernel) rfl (fun c h => by cases h) (by intro zm zF zle; skip; ((repeat (refine sp ?_; intros)); exact WQ.q1 rfl)) ?_)); (try (refine WE.calm 16 (by decide +kernel) rfl rfl (by decide +kernel) rfl (fun c h => by cases h) (by intro zm zF zle; skip; ((repeat (refine sp ?_; intros)); exact WQ.q1 rfl)) ?_)); (try (refine WE.calm 17 (by decide +kernel) rfl rfl (by decide +kernel) rfl (fun c h => by cases h) (by intro zm zF zle; skip; ((repeat (refine sp ?_; intros)); exact WQ.q1 rfl)) ?_)); (try (refine WE.calm 18 (by decide +kernel) rfl rfl (by decide +kernel) rfl (fun c h => by cases h) (by intro zm zF zle; skip; ((repeat (refine sp ?_; intros)); exact WQ.q1 rfl)) ?_)); (try (refine WE.calm 19 (by decide +kernel) rfl rfl (by decide +kernel) rfl (fun c h => by cases h) (by intro zm zF zle; skip; ((repeat (refine sp ?_; intros)); exact WQ.q1 rfl)) ?_)); (try (refine WE.calm 20 (by decide +kernel) rfl rfl (by decide +kernel) rfl (fun c h => by cases h) (by intro zm zF zle; skip; ((repeat (refine sp ?_; intros)); exact WQ.q1 rfl)) ?_)); (try (refine WE.calm 21 (by decide +kernel) rfl rfl (by decide +kernel) rfl (fun c h => by cases h) (by intro zm zF zle; skip; ((repeat (refine sp ?_; intros)); exact WQ.q1 rfl)) ?_)); (try (refine WE.calm 22 (by decide +kernel) rfl rfl (by decide +kernel) rfl (fun c h => by cases h) (by intro zm zF zle; skip; ((repeat (refine sp ?_; intros)); exact WQ.q1 rfl)) ?_)); (try (refine WE.calm 23 (by decide +kernel) rfl rfl (by decide +kernel) rfl (fun c h => by cases h) (by intro zm zF zle; skip; ((repeat (refine sp ?_; intros)); exact WQ.q1 rfl)) ?_)); (try (refine WE.calm 24 (by decide +kernel) rfl rfl (by decide +kernel) rfl (fun c h => by cases h) (by intro zm zF zle; skip; ((repeat (refine sp ?_; intros)); exact WQ.q1 rfl)) ?_)); (try (refine WE.calm 25 (by decide +kernel) rfl rfl (by decide +kernel) rfl (fun c h => by cases h) (by intro zm zF zle; skip; ((repeat (refine sp ?_; intros)); exact WQ.q1 rfl)) ?_)); (try (refine WE.calm 26 (by decide +kernel) rfl rfl (by decide +kernel) rfl (fun c h => by cases h) (by intro zm zF zle; skip; ((repeat (refine sp ?_; intros)); exact WQ.q1 rfl)) ?_)); (try (refine WE.calm 27 (by decide +kernel) rfl rfl (by decide +kernel) rfl (fun c h => by cases h) (by intro zm zF zle; skip; ((repeat (refine sp ?_; intros)); exact WQ.q1 rfl)) ?_)); (try (refine WE.calm 28 (by decide +kernel) rfl rfl (by decide +kernel) rfl (fun c h => by cases h) (by intro zm zF zle; skip; ((repeat (refine sp ?_; intros)); exact WQ.q1 rfl)) ?_)); (try (refine WE.calm 29 (by decide +kernel) rfl rfl (by decide +kernel) rfl (fun c h => by cases h) (by intro zm zF zle; skip; ((repeat (refine sp ?_; intros)); exact WQ.q1 rfl)) ?_)); (try (refine WE.calm 30 (by decide +kernel) rfl rfl (by decide +kernel) rfl (fun c h => by cases h) (by intro zm zF zle; skip; ((repeat (refine sp ?_; intros)); exact WQ.q1 rfl)) ?_)); (try (refine WE.calm 31 (by decide +kernel) rfl rfl (by decide +kernel) rfl (fun c h => by cases h) (by intro zm zF zle; skip; ((repeat (refine sp ?_; intros)); exact WQ.q1 rfl)) ?_)); (try (refine WE.calm 32 (by decide +kernel) rfl rfl (by decide +kernel) rfl (fun c h => by cases h) (by intro zm zF zle; skip; ((repeat (refine sp ?_; intros)); exact WQ.q1 rfl)) ?_)); (try (refine WE.calm 33 (by decide +kernel) rfl rfl (by decide +kernel) rfl (fun c h => by cases h) (by intro zm zF zle; skip; ((repeat (refine sp ?_; intros)); exact WQ.q1 rfl)) ?_)); (try (refine WE.calm 34 (by decide +kernel) rfl rfl (by decide +kernel) rfl (fun c h => by cases h) (by intro zm zF zle; skip; ((repeat (refine sp ?_; intros)); exact WQ.q1 rfl)) ?_)); (try (refine WE.calm 35 (by decide +kernel) rfl rfl (by decide +kernel) rfl (fun c h => by cases h) (by intro zm zF zle; skip; ((repeat (refine sp ?_; intros)); exact WQ.q1 rfl)) ?_)); (try (refine WE.calm 36 (by decide +kernel) rfl rfl (by decide +kernel) rfl (fun c h => by cases h) (by intro zm zF zle; skip; ((repeat (refine sp ?_; intros)); exact WQ.q1 rfl)) ?_)); (try (refine WE.calm 37 (by decide +kernel) rfl rfl (by decide +kernel) rfl (fun c h => by cases h) (by intro zm zF zle; skip; ((repeat (refine sp ?_; intros)); exact WQ.q1 rfl)) ?_)); (try (refine WE.calm 38 (by decide +kernel) rfl rfl (by decide +kernel) rfl (fun c h => by cases h) (by intro zm zF zle; skip; ((repeat (refine sp ?_; intros)); exact WQ.q1 rfl)) ?_)); (try (refine WE.calm 39 (by decide +kernel) rfl rfl (by decide +kernel) rfl (fun c h => by cases h) (by intro zm zF zle; skip; ((repeat (refine sp ?_; intros)); exact WQ.q1 rfl)) ?_)); (try (refine WE.calm 40 (by decide +kernel) rfl rfl (by decide +kernel) rfl (fun c h => by cases h) (by intro zm zF zle; skip; ((repeat (refine sp ?_; intros)); exact WQ.q1 rfl)) ?_)); (try (refine WE.calm 41 (by decide +kernel) rfl rfl (by decide +kernel) rfl (fun c h => by cases h) (by intro zm zF zle; skip; ((repeat (refine sp ?_; intros)); exact WQ.q1 rfl)) ?_)))
    refine WE.act1 10 (by decide +kernel) rfl rfl (fun c h => by cases h) ?_
    (refine st ?_; intros; rename_i q0)
    refine WQ.acted (B := []) (U := .blk q0 (.cells [.int .i64 0, str [], str B.p].toArray 59 (0, 0)) :: .row c cp 59 3 (B.l.map Stp.cs) :: H) rfl (Mem.le.refl _) (fun w h => Pick.sat (by iterate 60 (try (first | exact Pick.all | (apply Pick.take; (· (repeat (first | exact Out.here | apply Out.there)))) | apply Pick.drop))) h) ?_
    refine WE.act1 11 (by decide +kernel) rfl rfl (fun c h => by cases h) ?_
    (refine st ?_; intros; rename_i c2 cp2)
    refine WQ.acted (B := []) (U := .row c2 cp2 59 3 (B.l.map Stp.cs ++ [[.int .i64 0, str [], str B.p]]) :: H) rfl (Mem.le.refl _) (fun w h => Pick.sat (by iterate 60 (try (first | exact Pick.all | (apply Pick.take; (· (repeat (first | exact Out.here | apply Out.there)))) | apply Pick.drop))) h) ?_
    ((try (refine WE.calm 0 (by decide +kernel) rfl rfl (by decide +kernel) rfl (fun c h => by cases h) (by intro zm zF zle; skip; ((repeat (refine sp ?_; intros)); exact WQ.q1 rfl)) ?_)); (try (refine WE.calm 1 (by decide +kernel) rfl rfl (by decide +kernel) rfl (fun c h => by cases h) (by intro zm zF zle; skip; ((repeat (refine sp ?_; intros)); exact WQ.q1 rfl)) ?_)); (try (refine WE.calm 2 (by decide +kernel) rfl rfl (by decide +kernel) rfl (fun c h => by cases h) (by intro zm zF zle; skip; ((repeat (refine sp ?_; intros)); exact WQ.q1 rfl)) ?_)); (try (refine WE.calm 3 (by decide +kernel) rfl rfl (by decide +kernel) rfl (fun c h => by cases h) (by intro zm zF zle; skip; ((repeat (refine sp ?_; intros)); exact WQ.q1 rfl)) ?_)); (try (refine WE.calm 4 (by decide +kernel) rfl rfl (by decide +kernel) rfl (fun c h => by cases h) (by intro zm zF zle; skip; ((repeat (refine sp ?_; intros)); exact WQ.q1 rfl)) ?_)); (try (refine WE.calm 5 (by decide +kernel) rfl rfl (by decide +kernel) rfl (fun c h => by cases h) (by intro zm zF zle; skip; ((repeat (refine sp ?_; intros)); exact WQ.q1 rfl)) ?_)); (try (refine WE.calm 6 (by decide +kernel) rfl rfl (by decide +kernel) rfl (fun c h => by cases h) (by intro zm zF zle; skip; ((repeat (refine sp ?_; intros)); exact WQ.q1 rfl)) ?_)); (try (refine WE.calm 7 (by decide +kernel) rfl rfl (by decide +kernel) rfl (fun c h => by cases h) (by intro zm zF zle; skip; ((repeat (refine sp ?_; intros)); exact WQ.q1 rfl)) ?_)); (try (refine WE.calm 8 (by decide +kernel) rfl rfl (by decide +kernel) rfl (fun c h => by cases h) (by intro zm zF zle; skip; ((repeat (refine sp ?_; intros)); exact WQ.q1 rfl)) ?_)); (try (refine WE.calm 9 (by decide +kernel) rfl rfl (by decide +kernel) rfl (fun c h => by cases h) (by intro zm zF zle; skip; ((repeat (refine sp ?_; intros)); exact WQ.q1 rfl)) ?_)); (try (refine WE.calm 10 (by decide +kernel) rfl rfl (by decide +kernel) rfl (fun c h => by cases h) (by intro zm zF zle; skip; ((repeat (refine sp ?_; intros)); exact WQ.q1 rfl)) ?_)); (try (refine WE.calm 11 (by decide +kernel) rfl rfl (by decide +kernel) rfl (fun c h => by cases h) (by intro zm zF zle; skip; ((repeat (refine sp ?_; intros)); exact WQ.q1 rfl)) ?_)); (try (refine WE.calm 12 (by decide +kernel) rfl rfl (by decide +kernel) rfl (fun c h => by cases h) (by intro zm zF zle; skip; ((repeat (refine sp ?_; intros)); exact WQ.q1 rfl)) ?_)); (try (refine WE.calm 13 (by decide +kernel) rfl rfl (by decide +kernel) rfl (fun c h => by cases h) (by intro zm zF zle; skip; ((repeat (refine sp ?_; intros)); exact WQ.q1 rfl)) ?_)); (try (refine WE.calm 14 (by decide +kernel) rfl rfl (by decide +kernel) rfl (fun c h => by cases h) (by intro zm zF zle; skip; ((repeat (refine sp ?_; intros)); exact WQ.q1 rfl)) ?_)); (try (refine WE.calm 15 (by decide +kernel) rfl rfl (by decide +kernel) rfl (fun c h => by cases h) (by intro zm zF zle; skip; ((repeat (refine sp ?_; intros)); exact WQ.q1 rfl)) ?_)); (try (refine WE.calm 16 (by decide +kernel) rfl rfl (by decide +kernel) rfl (fun c h => by cases h) (by intro zm zF zle; skip; ((repeat (refine sp ?_; intros)); exact WQ.q1 rfl)) ?_)); (try (refine WE.calm 17 (by decide +kernel) rfl rfl (by decide +kernel) rfl (fun c h => by cases h) (by intro zm zF zle; skip; ((repeat (refine sp ?_; intros)); exact WQ.q1 rfl)) ?_)); (try (refine WE.calm 18 (by decide +kernel) rfl rfl (by decide +kernel) rfl (fun c h => by cases h) (by intro zm zF zle; skip; ((repeat (refine sp ?_; intros)); exact WQ.q1 rfl)) ?_)); (try (refine WE.calm 19 (by decide +kernel) rfl rfl (by decide +kernel) rfl (fun c h => by cases h) (by intro zm zF zle; skip; ((repeat (refine sp ?_; intros)); exact WQ.q1 rfl)) ?_)); (try (refine WE.calm 20 (by decide +kernel) rfl rfl (by decide +kernel) rfl (fun c h => by cases h) (by intro zm zF zle; skip; ((repeat (refine sp ?_; intros)); exact WQ.q1 rfl)) ?_)); (try (refine WE.calm 21 (by decide +kernel) rfl rfl (by decide +kernel) rfl (fun c h => by cases h) (by intro zm zF zle; skip; ((repeat (refine sp ?_; intros)); exact WQ.q1 rfl)) ?_)); (try (refine WE.calm 22 (by decide +kernel) rfl rfl (by decide +kernel) rfl (fun c h => by cases h) (by intro zm zF zle; skip; ((repeat (refine sp ?_; intros)); exact WQ.q1 rfl)) ?_)); (try (refine WE.calm 23 (by decide +kernel) rfl rfl (by decide +kernel) rfl (fun c h => by cases h) (by intro zm zF zle; skip; ((repeat (refine sp ?_; intros)); exact WQ.q1 rfl)) ?_)); (try (refine WE.calm 24 (by decide +kernel) rfl rfl (by decide +kernel) rfl (fun c h => by cases h) (by intro zm zF zle; skip; ((repeat (refine sp ?_; intros)); exact WQ.q1 rfl)) ?_)); (try (refine WE.calm 25 (by decide +kernel) rfl rfl (by decide +kernel) rfl (fun c h => by cases h) (by intro zm zF zle; skip; ((repeat (refine sp ?_; intros)); exact WQ.q1 rfl)) ?_)); (try (refine WE.calm 26 (by decide +kernel) rfl rfl (by decide +kernel) rfl (fun c h => by cases h) (by intro zm zF zle; skip; ((repeat (refine sp ?_; intros)); exact WQ.q1 rfl)) ?_)); (try (refine WE.calm 27 (by decide +kernel) rfl rfl (by decide +kernel) rfl (fun c h => by cases h) (by intro zm zF zle; skip; ((repeat (refine sp ?_; intros)); exact WQ.q1 rfl)) ?_)); (try (refine WE.calm 28 (by decide +kernel) rfl rfl (by decide +kernel) rfl (fun c h => by cases h) (by intro zm zF zle; skip; ((repeat (refine sp ?_; intros)); exact WQ.q1 rfl)) ?_)); (try (refine WE.calm 29 (by decide +kernel) rfl rfl (by decide +kernel) rfl (fun c h => by cases h) (by intro zm zF zle; skip; ((repeat (refine sp ?_; intros)); exact WQ.q1 rfl)) ?_)); (try (refine WE.calm 30 (by decide +kernel) rfl rfl (by decide +kernel) rfl (fun c h => by cases h) (by intro zm zF zle; skip; ((repeat (refine sp ?_; intros)); exact WQ.q1 rfl)) ?_)); (try (refine WE.calm 31 (by decide +kernel) rfl rfl (by decide +kernel) rfl (fun c h => by cases h) (by intro zm zF zle; skip; ((repeat (refine sp ?_; intros)); exact WQ.q1 rfl)) ?_)); (try (refine WE.calm 32 (by decide +kernel) rfl rfl (by decide +kernel) rfl (fun c h => by cases h) (by intro zm zF zle; skip; ((repeat (refine sp ?_; intros)); exact WQ.q1 rfl)) ?_)); (try (refine WE.calm 33 (by decide +kernel) rfl rfl (by decide +kernel) rfl (fun c h => by cases h) (by intro zm zF zle; skip; ((repeat (refine sp ?_; intros)); exact WQ.q1 rfl)) ?_)); (try (refine WE.calm 34 (by decide +kernel) rfl rfl (by decide +kernel) rfl (fun c h => by cases h) (by intro zm zF zle; skip; ((repeat (refine sp ?_; intros)); exact WQ.q1 rfl)) ?_)); (try (refine WE.calm 35 (by decide +kernel) rfl rfl (by decide +kernel) rfl (fun c h => by cases h) (by intro zm zF zle; skip; ((repeat (refine sp ?_; intros)); exact WQ.q1 rfl)) ?_)); (try (refine WE.calm 36 (by decide +kernel) rfl rfl (by decide +kernel) rfl (fun c h => by cases h) (by intro zm zF zle; skip; ((repeat (refine sp ?_; intros)); exact WQ.q1 rfl)) ?_)); (try (refine WE.calm 37 (by decide +kernel) rfl rfl (by decide +kernel) rfl (fun c h => by cases h) (by intro zm zF zle; skip; ((repeat (refine sp ?_; intros)); exact WQ.q1 rfl)) ?_)); (try (refine WE.calm 38 (by decide +kernel) rfl rfl (by decide +kernel) rfl (fun c h => by cases h) (by intro zm zF zle; skip; ((repeat (refine sp ?_; intros)); exact WQ.q1 rfl)) ?_)); (try (refine WE.calm 39 (by decide +kernel) rfl rfl (by decide +kernel) rfl (fun c h => by cases h) (by intro zm zF zle; skip; ((repeat (refine sp ?_; intros)); exact WQ.q1 rfl)) ?_)); (try (refine WE.calm 40 (by decide +kernel) rfl rfl (by decide +kernel) rfl (fun c h => by cases h) (by intro zm zF zle; skip; ((repeat (refine sp ?_; intros)); exact WQ.q1 rfl)) ?_)); (try (refine WE.calm 41 (by decide +kernel) rfl rfl (by decide +kernel) rfl (fun c h => by cases h) (by intro zm zF zle; skip; ((repeat (refine sp ?_; intros)); exact WQ.q1 rfl)) ?_)))
    refine WE.done (by decide +kernel) ?_
    (try (refine st ?_; intros))
    rw [hml]
    refine WC.drawE 14 ([.blk b (.cells [.slice c2 (B.l.length + 1) cp2, str B.p, str B.d].toArray 98 (0, 0))]) (.row c2 cp2 59 3 (B.l.map Stp.cs ++ [[.int .i64 0, str [], str B.p]]) :: H) rfl (by decide +kernel) (fun w h => Pick.sat (by iterate 60 (try (first | exact Pick.all | (apply Pick.take; (· (repeat (first | exact Out.here | apply Out.there)))) | apply Pick.drop))) h) ?_
    ((try (refine WE.calm 0 (by decide +kernel) rfl rfl (by decide +kernel) rfl (fun c h => by cases h) (by intro zm zF zle; skip; ((repeat (refine sp ?_; intros)); exact WQ.q1 rfl)) ?_)); (try (refine WE.calm 1 (by decide +kernel) rfl rfl (by decide +kernel) rfl (fun c h => by cases h) (by intro zm zF zle; skip; ((repeat (refine sp ?_; intros)); exact WQ.q1 rfl)) ?_)); (try (refine WE.calm 2 (by decide +kernel) rfl rfl (by decide +kernel) rfl (fun c h => by cases h) (by intro zm zF zle; skip; ((repeat (refine sp ?_; intros)); exact WQ.q1 rfl)) ?_)); (try (refine WE.calm 3 (by decide +kernel) rfl rfl (by decide +kernel) rfl (fun c h => by cases h) (by intro zm zF zle; skip; ((repeat (refine sp ?_; intros)); exact WQ.q1 rfl)) ?_)); (try (refine WE.calm 4 (by decide +kernel) rfl rfl (by decide +kernel) rfl (fun c h => by cases h) (by intro zm zF zle; skip; ((repeat (refine sp ?_; intros)); exact WQ.q1 rfl)) ?_)); (try (refine WE.calm 5 (by decide +kernel) rfl rfl (by decide +kernel) rfl (fun c h => by cases h) (by intro zm zF zle; skip; ((repeat (refine sp ?_; intros)); exact WQ.q1 rfl)) ?_)); (try (refine WE.calm 6 (by decide +kernel) rfl rfl (by decide +kernel) rfl (fun c h => by cases h) (by intro zm zF zle; skip; ((repeat (refine sp ?_; intros)); exact WQ.q1 rfl)) ?_)); (try (refine WE.calm 7 (by decide +kernel) rfl rfl (by decide +kernel) rfl (fun c h => by cases h) (by intro zm zF zle; skip; ((repeat (refine sp ?_; intros)); exact WQ.q1 rfl)) ?_)); (try (refine WE.calm 8 (by decide +kernel) rfl rfl (by decide +kernel) rfl (fun c h => by cases h) (by intro zm zF zle; skip; ((repeat (refine sp ?_; intros)); exact WQ.q1 rfl)) ?_)); (try (refine WE.calm 9 (by decide +kernel) rfl rfl (by decide +kernel) rfl (fun c h => by cases h) (by intro zm zF zle; skip; ((repeat (refine sp ?_; intros)); exact WQ.q1 rfl)) ?_)); (try (refine WE.calm 10 (by decide +kernel) rfl rfl (by decide +kernel) rfl (fun c h => by cases h) (by intro zm zF zle; skip; ((repeat (refine sp ?_; intros)); exact WQ.q1 rfl)) ?_)); (try (refine WE.calm 11 (by decide +kernel) rfl rfl (by decide +kernel) rfl (fun c h => by cases h) (by intro zm zF zle; skip; ((repeat (refine sp ?_; intros)); exact WQ.q1 rfl)) ?_)); (try (refine WE.calm 12 (by decide +kernel) rfl rfl (by decide +kernel) rfl (fun c h => by cases h) (by intro zm zF zle; skip; ((repeat (refine sp ?_; intros)); exact WQ.q1 rfl)) ?_)); (try (refine WE.calm 13 (by decide +kernel) rfl rfl (by decide +kernel) rfl (fun c h => by cases h) (by intro zm zF zle; skip; ((repeat (refine sp ?_; intros)); exact WQ.q1 rfl)) ?_)); (try (refine WE.calm 14 (by decide +kernel) rfl rfl (by decide +kernel) rfl (fun c h => by cases h) (by intro zm zF zle; skip; ((repeat (refine sp ?_; intros)); exact WQ.q1 rfl)) ?_)); (try (refine WE.calm 15 (by decide +kernel) rfl rfl (by decide +kernel) rfl (fun c h => by cases h) (by intro zm zF zle; skip; ((repeat (refine sp ?_; intros)); exact WQ.q1 rfl)) ?_)); (try (refine WE.calm 16 (by decide +kernel) rfl rfl (by decide +kernel) rfl (fun c h => by cases h) (by intro zm zF zle; skip; ((repeat (refine sp ?_; intros)); exact WQ.q1 rfl)) ?_)); (try (refine WE.calm 17 (by decide +kernel) rfl rfl (by decide +kernel) rfl (fun c h => by cases h) (by intro zm zF zle; skip; ((repeat (refine sp ?_; intros)); exact WQ.q1 rfl)) ?_)); (try (refine WE.calm 18 (by decide +kernel) rfl rfl (by decide +kernel) rfl (fun c h => by cases h) (by intro zm zF zle; skip; ((repeat (refine sp ?_; intros)); exact WQ.q1 rfl)) ?_)); (try (refine WE.calm 19 (by decide +kernel) rfl rfl (by decide +kernel) rfl (fun c h => by cases h) (by intro zm zF zle; skip; ((repeat (refine sp ?_; intros)); exact WQ.q1 rfl)) ?_)); (try (refine WE.calm 20 (by decide +kernel) rfl rfl (by decide +kernel) rfl (fun c h => by cases h) (by intro zm zF zle; skip; ((repeat (refine sp ?_; intros)); exact WQ.q1 rfl)) ?_)); (try (refine WE.calm 21 (by decide +kernel) rfl rfl (by decide +kernel) rfl (fun c h => by cases h) (by intro zm zF zle; skip; ((repeat (refine sp ?_; intros)); exact WQ.q1 rfl)) ?_)); (try (refine WE.calm 22 (by decide +kernel) rfl rfl (by decide +kernel) rfl (fun c h => by cases h) (by intro zm zF zle; skip; ((repeat (refine sp ?_; intros)); exact WQ.q1 rfl)) ?_)); (try (refine WE.calm 23 (by decide +kernel) rfl rfl (by decide +kernel) rfl (fun c h => by cases h) (by intro zm zF zle; skip; ((repeat (refine sp ?_; intros)); exact WQ.q1 rfl)) ?_)); (try (refine WE.calm 24 (by decide +kernel) rfl rfl (by decide +kernel) rfl (fun c h => by cases h) (by intro zm zF zle; skip; ((repeat (refine sp ?_; intros)); exact WQ.q1 rfl)) ?_)); (try (refine WE.calm 25 (by decide +kernel) rfl rfl (by decide +kernel) rfl (fun c h => by cases h) (by intro zm zF zle; skip; ((repeat (refine sp ?_; intros)); exact WQ.q1 rfl)) ?_)); (try (refine WE.calm 26 (by decide +kernel) rfl rfl (by decide +kernel) rfl (fun c h => by cases h) (by intro zm zF zle; skip; ((repeat (refine sp ?_; intros)); exact WQ.q1 rfl)) ?_)); (try (refine WE.calm 27 (by decide +kernel) rfl rfl (by decide +kernel) rfl (fun c h => by cases h) (by intro zm zF zle; skip; ((repeat (refine sp ?_; intros)); exact WQ.q1 rfl)) ?_)); (try (refine WE.calm 28 (by decide +kernel) rfl rfl (by decide +kernel) rfl (fun c h => by cases h) (by intro zm zF zle; skip; ((repeat (refine sp ?_; intros)); exact WQ.q1 rfl)) ?_)); (try (refine WE.calm 29 (by decide +kernel) rfl rfl (by decide +kernel) rfl (fun c h => by cases h) (by intro zm zF zle; skip; ((repeat (refine sp ?_; intros)); exact WQ.q1 rfl)) ?_)); (try (refine WE.calm 30 (by decide +kernel) rfl rfl (by decide +kernel) rfl (fun c h => by cases h) (by intro zm zF zle; skip; ((repeat (refine sp ?_; intros)); exact WQ.q1 rfl)) ?_)); (try (refine WE.calm 31 (by decide +kernel) rfl rfl (by decide +kernel) rfl (fun c h => by cases h) (by intro zm zF zle; skip; ((repeat (refine sp ?_; intros)); exact WQ.q1 rfl)) ?_)); (try (refine WE.calm 32 (by decide +kernel) rfl rfl (by decide +kernel) rfl (fun c h => by cases h) (by intro zm zF zle; skip; ((repeat (refine sp ?_; intros)); exact WQ.q1 rfl)) ?_)); (try (refine WE.calm 33 (by decide +kernel) rfl rfl (by decide +kernel) rfl (fun c h => by cases h) (by intro zm zF zle; skip; ((repeat (refine sp ?_; intros)); exact WQ.q1 rfl)) ?_)); (try (refine WE.calm 34 (by decide +kernel) rfl rfl (by decide +kernel) rfl (fun c h => by cases h) (by intro zm zF zle; skip; ((repeat (refine sp ?_; intros)); exact WQ.q1 rfl)) ?_)); (try (refine WE.calm 35 (by decide +kernel) rfl rfl (by decide +kernel) rfl (fun c h => by cases h) (by intro zm zF zle; skip; ((repeat (refine sp ?_; intros)); exact WQ.q1 rfl)) ?_)); (try (refine WE.calm 36 (by decide +kernel) rfl rfl (by decide +kernel) rfl (fun c h => by cases h) (by intro zm zF zle; skip; ((repeat (refine sp ?_; intros)); exact WQ.q1 rfl)) ?_)); (try (refine WE.calm 37 (by decide +kernel) rfl rfl (by decide +kernel) rfl (fun c h => by cases h) (by intro zm zF zle; skip; ((repeat (refine sp ?_; intros)); exact WQ.q1 rfl)) ?_)); (try (refine WE.calm 38 (by decide +kernel) rfl rfl (by decide +kernel) rfl (fun c h => by cases h) (by intro zm zF zle; skip; ((repeat (refine sp ?_; intros)); exact WQ.q1 rfl)) ?_)); (try (refine WE.calm 39 (by decide +kernel) rfl rfl (by decide +kernel) rfl (fun c h => by cases h) (by intro zm zF zle; skip; ((repeat (refine sp ?_; intros)); exact WQ.q1 rfl)) ?_)); (try (refine WE.calm 40 (by decide +kernel) rfl rfl (by decide +kernel) rfl (fun c h => by cases h) (by intro zm zF zle; skip; ((repeat (refine sp ?_; intros)); exact WQ.q1 rfl)) ?_)); (try (refine WE.calm 41 (by decide +kernel) rfl rfl (by decide +kernel) rfl (fun c h => by cases h) (by intro zm zF zle; skip; ((repeat (refine sp ?_; intros)); exact WQ.q1 rfl)) ?_)))
    refine WE.act1 10 (by decide +kernel) rfl rfl (fun c h => by cases h) ?_
    (refine st ?_; intros; rename_i q0)
    refine WQ.acted (B := []) (U := .blk q0 (.cells [.int .i64 0, str B.d, str []].toArray 59 (0, 0)) :: .row c2 cp2 59 3 (B.l.map Stp.cs ++ [[.int .i64 0, str [], str B.p]]) :: H) rfl (Mem.le.refl _) (fun w h => Pick.sat (by iterate 60 (try (first | exact Pick.all | (apply Pick.take; (· (repeat (first | exact Out.here | apply Out.there)))) | apply Pick.drop))) h) ?_
    refine WE.act1 11 (by decide +kernel) rfl rfl (fun c h => by cases h) ?_
    (refine st ?_; intros; rename_i c3 cp3)
    refine WQ.acted (B := []) (U := .row c3 cp3 59 3 (B.l.map Stp.cs ++ [[.int .i64 0, str [], str B.p]] ++ [[.int .i64 0, str B.d, str []]]) :: H) rfl (Mem.le.refl _) (fun w h => Pick.sat (by iterate 60 (try (first | exact Pick.all | (apply Pick.take; (· (repeat (first | exact Out.here | apply Out.there)))) | apply Pick.drop))) h) ?_
    ((try (refine WE.calm 0 (by decide +kernel) rfl rfl (by decide +kernel) rfl (fun c h => by cases h) (by intro zm zF zle; skip; ((repeat (refine sp ?_; intros)); exact WQ.q1 rfl)) ?_)); (try (refine WE.calm 1 (by decide +kernel) rfl rfl (by decide +kernel) rfl (fun c h => by cases h) (by intro zm zF zle; skip; ((repeat (refine sp ?_; intros)); exact WQ.q1 rfl)) ?_)); (try (refine WE.calm 2 (by decide +kernel) rfl rfl (by decide +kernel) rfl (fun c h => by cases h) (by intro zm zF zle; skip; ((repeat (refine sp ?_; intros)); exact WQ.q1 rfl)) ?_)); (try (refine WE.calm 3 (by decide +kernel) rfl rfl (by decide +kernel) rfl (fun c h => by cases h) (by intro zm zF zle; skip; ((repeat (refine sp ?_; intros)); exact WQ.q1 rfl)) ?_)); (try (refine WE.calm 4 (by decide +kernel) rfl rfl (by decide +kernel) rfl (fun c h => by cases h) (by intro zm zF zle; skip; ((repeat (refine sp ?_; intros)); exact WQ.q1 rfl)) ?_)); (try (refine WE.calm 5 (by decide +kernel) rfl rfl (by decide +kernel) rfl (fun c h => by cases h) (by intro zm zF zle; skip; ((repeat (refine sp ?_; intros)); exact WQ.q1 rfl)) ?_)); (try (refine WE.calm 6 (by decide +kernel) rfl rfl (by decide +kernel) rfl (fun c h => by cases h) (by intro zm zF zle; skip; ((repeat (refine sp ?_; intros)); exact WQ.q1 rfl)) ?_)); (try (refine WE.calm 7 (by decide +kernel) rfl rfl (by decide +kernel) rfl (fun c h => by cases h) (by intro zm zF zle; skip; ((repeat (refine sp ?_; intros)); exact WQ.q1 rfl)) ?_)); (try (refine WE.calm 8 (by decide +kernel) rfl rfl (by decide +kernel) rfl (fun c h => by cases h) (by intro zm zF zle; skip; ((repeat (refine sp ?_; intros)); exact WQ.q1 rfl)) ?_)); (try (refine WE.calm 9 (by decide +kernel) rfl rfl (by decide +kernel) rfl (fun c h => by cases h) (by intro zm zF zle; skip; ((repeat (refine sp ?_; intros)); exact WQ.q1 rfl)) ?_)); (try (refine WE.calm 10 (by decide +kernel) rfl rfl (by decide +kernel) rfl (fun c h => by cases h) (by intro zm zF zle; skip; ((repeat (refine sp ?_; intros)); exact WQ.q1 rfl)) ?_)); (try (refine WE.calm 11 (by decide +kernel) rfl rfl (by decide +kernel) rfl (fun c h => by cases h) (by intro zm zF zle; skip; ((repeat (refine sp ?_; intros)); exact WQ.q1 rfl)) ?_)); (try (refine WE.calm 12 (by decide +kernel) rfl rfl (by decide +kernel) rfl (fun c h => by cases h) (by intro zm zF zle; skip; ((repeat (refine sp ?_; intros)); exact WQ.q1 rfl)) ?_)); (try (refine WE.calm 13 (by decide +kernel) rfl rfl (by decide +kernel) rfl (fun c h => by cases h) (by intro zm zF zle; skip; ((repeat (refine sp ?_; intros)); exact WQ.q1 rfl)) ?_)); (try (refine WE.calm 14 (by decide +kernel) rfl rfl (by decide +kernel) rfl (fun c h => by cases h) (by intro zm zF zle; skip; ((repeat (refine sp ?_; intros)); exact WQ.q1 rfl)) ?_)); (try (refine WE.calm 15 (by decide +kernel) rfl rfl (by decide +kernel) rfl (fun c h => by cases h) (by intro zm zF zle; skip; ((repeat (refine sp ?_; intros)); exact WQ.q1 rfl)) ?_)); (try (refine WE.calm 16 (by decide +kernel) rfl rfl (by decide +kernel) rfl (fun c h => by cases h) (by intro zm zF zle; skip; ((repeat (refine sp ?_; intros)); exact WQ.q1 rfl)) ?_)); (try (refine WE.calm 17 (by decide +kernel) rfl rfl (by decide +kernel) rfl (fun c h => by cases h) (by intro zm zF zle; skip; ((repeat (refine sp ?_; intros)); exact WQ.q1 rfl)) ?_)); (try (refine WE.calm 18 (by decide +kernel) rfl rfl (by decide +kernel) rfl (fun c h => by cases h) (by intro zm zF zle; skip; ((repeat (refine sp ?_; intros)); exact WQ.q1 rfl)) ?_)); (try (refine WE.calm 19 (by decide +kernel) rfl rfl (by decide +kernel) rfl (fun c h => by cases h) (by intro zm zF zle; skip; ((repeat (refine sp ?_; intros)); exact WQ.q1 rfl)) ?_)); (try (refine WE.calm 20 (by decide +kernel) rfl rfl (by decide +kernel) rfl (fun c h => by cases h) (by intro zm zF zle; skip; ((repeat (refine sp ?_; intros)); exact WQ.q1 rfl)) ?_)); (try (refine WE.calm 21 (by decide +kernel) rfl rfl (by decide +kernel) rfl (fun c h => by cases h) (by intro zm zF zle; skip; ((repeat (refine sp ?_; intros)); exact WQ.q1 rfl)) ?_)); (try (refine WE.calm 22 (by decide +kernel) rfl rfl (by decide +kernel) rfl (fun c h => by cases h) (by intro zm zF zle; skip; ((repeat (refine sp ?_; intros)); exact WQ.q1 rfl)) ?_)); (try (refine WE.calm 23 (by decide +kernel) rfl rfl (by decide +kernel) rfl (fun c h => by cases h) (by intro zm zF zle; skip; ((repeat (refine sp ?_; intros)); exact WQ.q1 rfl)) ?_)); (try (refine WE.calm 24 (by decide +kernel) rfl rfl (by decide +kernel) rfl (fun c h => by cases h) (by intro zm zF zle; skip; ((repeat (refine sp ?_; intros)); exact WQ.q1 rfl)) ?_)); (try (refine WE.calm 25 (by decide +kernel) rfl rfl (by decide +kernel) rfl (fun c h => by cases h) (by intro zm zF zle; skip; ((repeat (refine sp ?_; intros)); exact WQ.q1 rfl)) ?_)); (try (refine WE.calm 26 (by decide +kernel) rfl rfl (by decide +kernel) rfl (fun c h => by cases h) (by intro zm zF zle; skip; ((repeat (refine sp ?_; intros)); exact WQ.q1 rfl)) ?_)); (try (refine WE.calm 27 (by decide +kernel) rfl rfl (by decide +kernel) rfl (fun c h => by cases h) (by intro zm zF zle; skip; ((repeat (refine sp ?_; intros)); exact WQ.q1 rfl)) ?_)); (try (refine WE.calm 28 (by decide +kernel) rfl rfl (by decide +kernel) rfl (fun c h => by cases h) (by intro zm zF zle; skip; ((repeat (refine sp ?_; intros)); exact WQ.q1 rfl)) ?_)); (try (refine WE.calm 29 (by decide +kernel) rfl rfl (by decide +kernel) rfl (fun c h => by cases h) (by intro zm zF zle; skip; ((repeat (refine sp ?_; intros)); exact WQ.q1 rfl)) ?_)); (try (refine WE.calm 30 (by decide +kernel) rfl rfl (by decide +kernel) rfl (fun c h => by cases h) (by intro zm zF zle; skip; ((repeat (refine sp ?_; intros)); exact WQ.q1 rfl)) ?_)); (try (refine WE.calm 31 (by decide +kernel) rfl rfl (by decide +kernel) rfl (fun c h => by cases h) (by intro zm zF zle; skip; ((repeat (refine sp ?_; intros)); exact WQ.q1 rfl)) ?_)); (try (refine WE.calm 32 (by decide +kernel) rfl rfl (by decide +kernel) rfl (fun c h => by cases h) (by intro zm zF zle; skip; ((repeat (refine sp ?_; intros)); exact WQ.q1 rfl)) ?_)); (try (refine WE.calm 33 (by decide +kernel) rfl rfl (by decide +kernel) rfl (fun c h => by cases h) (by intro zm zF zle; skip; ((repeat (refine sp ?_; intros)); exact WQ.q1 rfl)) ?_)); (try (refine WE.calm 34 (by decide +kernel) rfl rfl (by decide +kernel) rfl (fun c h => by cases h) (by intro zm zF zle; skip; ((repeat (refine sp ?_; intros)); exact WQ.q1 rfl)) ?_)); (try (refine WE.calm 35 (by decide +kernel) rfl rfl (by decide +kernel) rfl (fun c h => by cases h) (by intro zm zF zle; skip; ((repeat (refine sp ?_; intros)); exact WQ.q1 rfl)) ?_)); (try (refine WE.calm 36 (by decide +kernel) rfl rfl (by decide +kernel) rfl (fun c h => by cases h) (by intro zm zF zle; skip; ((repeat (refine sp ?_; intros)); exact WQ.q1 rfl)) ?_)); (try (refine WE.calm 37 (by decide +kernel) rfl rfl (by decide +kernel) rfl (fun c h => by cases h) (by intro zm zF zle; skip; ((repeat (refine sp ?_; intros)); exact WQ.q1 rfl)) ?_)); (try (refine WE.calm 38 (by decide +kernel) rfl rfl (by decide +kernel) rfl (fun c h => by cases h) (by intro zm zF zle; skip; ((repeat (refine sp ?_; intros)); exact WQ.q1 rfl)) ?_)); (try (refine WE.calm 39 (by decide +kernel) rfl rfl (by decide +kernel) rfl (fun c h => by cases h) (by intro zm zF zle; skip; ((repeat (refine sp ?_; intros)); exact WQ.q1 rfl)) ?_)); (try (refine WE.calm 40 (by decide +kernel) rfl rfl (by decide +kernel) rfl (fun c h => by cases h) (by intro zm zF zle; skip; ((repeat (refine sp ?_; intros)); exact WQ.q1 rfl)) ?_)); (try (refine WE.calm 41 (by decide +kernel) rfl rfl (by decide +kernel) rfl (fun c h => by cases h) (by intro zm zF zle; skip; ((repeat (refine sp ?_; intros)); exact WQ.q1 rfl)) ?_)))
    refine WE.done (by decide +kernel) ?_
    (try (refine st ?_; intros))
    rw [hml1]
    have e : B.close.l = B.l ++ [⟨0, [], B.p⟩] ++ [⟨0, B.d, []⟩] := by simp [Bld.close, hp, hd]
    exact q_finNorm0 (H0 := .blk b (.cells [.slice c3 (B.l.length + 1 + 1) cp3, str [], str []].toArray 98 (0, 0)) :: .row c3 cp3 59 3 (B.l.map Stp.cs ++ [[.int .i64 0, str [], str B.p]] ++ [[.int .i64 0, str B.d, str []]]) :: H) ⟨rfl, rfl, c3, cp3, by rw [e]; simp [Stp.cs]⟩ (hd := (fun w h => Pick.sat (by iterate 60 (try (first | exact Pick.all | (apply Pick.take; (· (repeat (first | exact Out.here | apply Out.there)))) | apply Pick.drop))) h))
end Go.Proofs.Ytelgegefmjlimaa

/-
  Plain facts on changes: how large a builder grows. No condition.
-/
namespace Go.Eng
open Go
/-- no number of it is above N -/
structure BFit (N : Nat) (B : Bld) : Prop where
  len : B.l.length ≤ N
  k : ∀ s ∈ B.l, 0 ≤ s.k ∧ s.k ≤ N
  p : B.p.length ≤ N
  d : B.d.length ≤ N
theorem BFit.mono {N M : Nat} {B : Bld} (h : BFit N B) (hm : N ≤ M) : BFit M B :=
  ⟨by have := h.len; omega, fun s hs => by have := h.k s hs; omega, by have := h.p; omega, by have := h.d; omega⟩
theorem BFit.start : BFit 0 Bld.start := ⟨Nat.le_refl _, fun s hs => by simp [Bld.start] at hs, Nat.le_refl _, Nat.le_refl _⟩
theorem BFit.close {N : Nat} {B : Bld} (h : BFit N B) : BFit (N + 2) B.close := by
  refine ⟨?_, fun s hs => ?_, by simp [Bld.close], by simp [Bld.close]⟩
  · have := h.len
    unfold Bld.close
    split <;> split <;> simp <;> omega
  · unfold Bld.close at hs
    simp only [List.mem_append] at hs
    rcases hs with (hs | hs) | hs
    · have := h.k s hs; omega
    · split at hs <;> simp at hs; subst hs; simp; omega
    · split at hs <;> simp at hs; subst hs; simp; omega
theorem addKeep_k {N : Nat} {l : List Stp} {n : Nat} (h : ∀ s ∈ l, 0 ≤ s.k ∧ s.k ≤ N) : (∀ s ∈ addKeep l n, 0 ≤ s.k ∧ s.k ≤ ((N + n : Nat) : Int)) ∧ (addKeep l n).length ≤ l.length + 1 := by
  unfold addKeep
  cases hl : l.getLast? with
  | none => simp; omega
  | some s =>
    obtain ⟨ys, e⟩ := List.getLast?_eq_some_iff.1 hl
    have hs := h s (by rw [e]; simp)
    have e2 : l.dropLast = ys := by rw [e]; simp
    simp only [e2]
    split
    · refine ⟨fun x hx => ?_, by rw [e]; simp⟩
      simp only [List.mem_append, List.mem_singleton] at hx
      rcases hx with hx | rfl
      · have := h x (by rw [e]; simp [hx]); omega
      · simp; omega
    · refine ⟨fun x hx => ?_, by simp⟩
      simp only [List.mem_append, List.mem_singleton] at hx
      rcases hx with hx | rfl
      · have := h x hx; omega
      · simp; omega
theorem BFit.keep {N n : Nat} {B : Bld} (h : BFit N B) : BFit (N + n + 3) (B.keep n) := by
  unfold Bld.keep
  split
  · exact h.mono (by omega)
  · have hc := h.close
    obtain ⟨h1, h2⟩ := addKeep_k (n := n) hc.k
    exact ⟨by have := hc.len; simp only; omega, fun s hs => by have := h1 s hs; omega, by simp, by simp⟩
theorem BFit.atom {N : Nat} {B : Bld} (h : BFit N B) (a : Atm) : BFit (N + 4) (B.atom a) := by
  cases a with
  | k => exact h.keep (n := 1)
  | d c => exact ⟨by have := h.len; simp only [Bld.atom]; omega, fun s hs => by have := h.k s hs; omega, by have := h.p; simp only [Bld.atom]; omega, by have := h.d; simp [Bld.atom]; omega⟩
  | p c => exact ⟨by have := h.len; simp only [Bld.atom]; omega, fun s hs => by have := h.k s hs; omega, by have := h.p; simp [Bld.atom]; omega, by have := h.d; simp only [Bld.atom]; omega⟩
theorem BFit.run : ∀ (l : List Atm) {N : Nat} {B : Bld}, BFit N B → BFit (N + 4 * l.length) (B.run l)
  | [], _, _, h => h
  | a :: l, N, B, h => by
    have := BFit.run l (h.atom a)
    exact this.mono (by simp; omega)
theorem BFit.runs (l : List Atm) : BFit (4 * l.length) (Bld.start.run l) := (BFit.run l BFit.start).mono (by omega)
theorem atoms_len (s : Stp) : s.atoms.length = s.k.toNat + s.d.length + s.p.length := by simp [Stp.atoms]; omega
theorem atoms_le : ∀ l : List Atm, l.length ≤ fromA l + toA l
  | [] => Nat.le_refl _
  | .k :: l => by have := atoms_le l; simp only [fromA, toA, List.length_cons]; omega
  | .d _ :: l => by have := atoms_le l; simp only [fromA, toA, List.length_cons]; omega
  | .p _ :: l => by have := atoms_le l; simp only [fromA, toA, List.length_cons]; omega
theorem steps_le : ∀ l : List Stp, (∀ s ∈ l, stpOk s) → l.length ≤ (atomsOf l).length
  | [], _ => Nat.le_refl _
  | s :: l, h => by
    have := steps_le l (fun x hx => h x (List.mem_cons_of_mem _ hx))
    have h1 : 1 ≤ s.atoms.length := by
      rw [atoms_len]
      rcases h s List.mem_cons_self with ⟨h, _, _⟩ | ⟨_, h, _⟩ | ⟨_, _, h⟩
      · omega
      · have := List.length_pos_iff.2 h; omega
      · have := List.length_pos_iff.2 h; omega
    rw [atoms_cons, List.length_append, List.length_cons]; omega
theorem snoc_cases {α : Type} (l : List α) : l = [] ∨ ∃ ys s, l = ys ++ [s] := by
  rcases List.eq_nil_or_concat l with h | ⟨ys, s, h⟩
  · exact .inl h
  · exact .inr ⟨ys, s, by simpa using h⟩
end Go.Eng

/-
  The walks of package edit, sixth part: the builder's keep, step and done. No condition.
-/
namespace Go.Proofs.Ytelgegefmjlimaa
open Go Go.Eng
set_option maxRecDepth 100000
set_option maxHeartbeats 4000000
set_option linter.all false
attribute [local irreducible] WL WC WQ QFun QLoop Does Q1 QRound QAssign Go.Addr.add
theorem keep_any {b : Nat} {c : Option Addr} {cp : Nat} (B : Bld) (n : Nat) (hn : n ≤ 100000000000) (hB : BFit 100000000000 B) (w0 : World) (m : Mem) (H : SHeap) :
    Does Try.prog 55 #[.pointer (some ⟨b, 0, none⟩), .int .i64 (n : Int)] w0 m (.blk b (.cells [.slice c B.l.length cp, str B.p, str B.d].toArray 98 (0, 0)) :: .row c cp 59 3 (B.l.map Stp.cs) :: H)
      (fun v m' H' => v = .tuple #[] ∧ m' = m ∧ ∃ c' cp', H' = .blk b (.cells [.slice c' (B.keep n).l.length cp', str (B.keep n).p, str (B.keep n).d].toArray 98 (0, 0)) :: .row c' cp' 59 3 ((B.keep n).l.map Stp.cs) :: H) := by
  refine Does.of_body (args := [.pointer (some ⟨b, 0, none⟩), .int .i64 (n : Int)]) Try.func55 rfl Try.ntmps55 rfl ?_
  have hlen := hB.len
  by_cases h0 : n = 0
  · subst h0
    (try (refine st ?_; intros))
    exact q_fin0 (H0 := .blk b (.cells [.slice c B.l.length cp, str B.p, str B.d].toArray 98 (0, 0)) :: .row c cp 59 3 (B.l.map Stp.cs) :: H) ⟨rfl, rfl, c, cp, rfl⟩ (hd := (fun w h => Pick.sat (by iterate 60 (try (first | exact Pick.all | (apply Pick.take; (· (repeat (first | exact Out.here | apply Out.there)))) | apply Pick.drop))) h))
  · (try (refine st ?_; intros))
    refine w_callF Try.func72 ?_ (hs := close_any B (by omega) _ _ _)
    rintro v m1 H1 ⟨rfl, rfl, c1, cp1, rfl⟩
    have hkeep : B.keep n = ⟨addKeep B.close.l n, [], []⟩ := by unfold Bld.keep; rw [if_neg (by omega)]
    have hc := hB.close
    rw [hkeep]
    have hcl := hc.len
    have hck := hc.k
    generalize B.close.l = L at *
    have hml : (L.map Stp.cs).length = L.length := by simp
    rcases snoc_cases L with hL | ⟨ys, s, hL⟩
    · have hl0 : L.length = 0 := by rw [hL]; rfl
      (refine st ?_; intros; rename_i x2 c2 cp2)
      rw [hml]
      have e : addKeep L n = L ++ [⟨n, [], []⟩] := by rw [hL]; rfl
      exact q_finNorm0 (H0 := .blk b (.cells [.slice c2 (L.length + 1) cp2, str [], str []].toArray 98 (0, 0)) :: .row c2 cp2 59 3 (L.map Stp.cs ++ [[.int .i64 n, str [], str []]]) :: H) ⟨rfl, rfl, c2, cp2, by rw [e]; simp [Stp.cs]⟩ (hd := (fun w h => Pick.sat (by iterate 60 (try (first | exact Pick.all | (apply Pick.take; (· (repeat (first | exact Out.here | apply Out.there)))) | apply Pick.drop))) h))
    · have hl1 : L.length = ys.length + 1 := by rw [hL]; simp
      have hget : (L.map Stp.cs)[L.length - 1]? = some s.cs := by rw [hL]; simp
      have hsk := hck s (by rw [hL]; simp)
      refine WL.rowSome (a := c1) (by (repeat (first | exact List.Mem.head _ | apply List.Mem.tail))) (by omega) ?_
      rintro c0 rfl
      by_cases hs : 0 < s.k
      · (try (refine st ?_; intros))
        have e : (addKeep L n).length = L.length ∧ (addKeep L n).map Stp.cs = (L.map Stp.cs).set (L.length - 1) [.int .i64 (s.k + n), str s.d, str s.p] := by
          rw [hL]; constructor <;> simp [addKeep, hs, Stp.cs]
        exact q_fin0 (H0 := .blk b (.cells [.slice (some c0) L.length cp1, str [], str []].toArray 98 (0, 0)) :: .row (some c0) cp1 59 3 ((L.map Stp.cs).set (L.length - 1) [.int .i64 (s.k + n), str s.d, str s.p]) :: H) ⟨rfl, rfl, some c0, cp1, by rw [e.1, e.2]⟩ (hd := (fun w h => Pick.sat (by iterate 60 (try (first | exact Pick.all | (apply Pick.take; (· (repeat (first | exact Out.here | apply Out.there)))) | apply Pick.drop))) h))
      · (refine st ?_; intros; rename_i x2 c2 cp2)
        rw [hml]
        have e : addKeep L n = L ++ [⟨n, [], []⟩] := by rw [hL]; simp [addKeep, hs]
        exact q_finNorm0 (H0 := .blk b (.cells [.slice c2 (L.length + 1) cp2, str [], str []].toArray 98 (0, 0)) :: .row c2 cp2 59 3 (L.map Stp.cs ++ [[.int .i64 n, str [], str []]]) :: H) ⟨rfl, rfl, c2, cp2, by rw [e]; simp [Stp.cs]⟩ (hd := (fun w h => Pick.sat (by iterate 60 (try (first | exact Pick.all | (apply Pick.take; (· (repeat (first | exact Out.here | apply Out.there)))) | apply Pick.drop))) h))
end Go.Proofs.Ytelgegefmjlimaa

/-
  The walks of package edit, eighth part: the builder's step and done, the one form of a change. No condition.
-/
namespace Go.Eng
def Stp.v (s : Stp) : Value := .agg #[.int .i64 s.k, str s.d, str s.p]
end Go.Eng
namespace Go.Proofs.Ytelgegefmjlimaa
open Go Go.Eng
set_option maxRecDepth 100000
set_option maxHeartbeats 4000000
set_option linter.all false
attribute [local irreducible] WL WC WQ QFun QLoop Does Q1 QRound QAssign Go.Addr.add
theorem step_any {b : Nat} {c : Option Addr} {cp : Nat} (B : Bld) (s : Stp) (hk : s.k ≤ 100000000000) (hd : s.d.length ≤ 100000000000) (hp : s.p.length ≤ 100000000000) (hB : BFit 100000000000 B) (w0 : World) (m : Mem) (H : SHeap) :
    Does Try.prog 45 #[.pointer (some ⟨b, 0, none⟩), s.v] w0 m (.blk b (.cells [.slice c B.l.length cp, str B.p, str B.d].toArray 98 (0, 0)) :: .row c cp 59 3 (B.l.map Stp.cs) :: H)
      (fun v m' H' => v = .tuple #[] ∧ m' = m ∧ ∃ c' cp', H' = .blk b (.cells [.slice c' (B.step s).l.length cp', str (B.step s).p, str (B.step s).d].toArray 98 (0, 0)) :: .row c' cp' 59 3 ((B.step s).l.map Stp.cs) :: H) := by
  refine Does.of_body (args := [.pointer (some ⟨b, 0, none⟩), .agg #[.int .i64 s.k, str s.d, str s.p]]) Try.func45 rfl Try.ntmps45 rfl ?_
  have h1 := hB.p
  have h2 := hB.d
  by_cases h0 : 0 < s.k
  · obtain ⟨n, hn⟩ : ∃ n : Nat, s.k = (n : Int) := ⟨s.k.toNat, by omega⟩
    have e : B.step s = B.keep n := by unfold Bld.step; rw [if_pos h0, hn]
    rw [e, hn]
    have h0' : 0 < (n : Int) := by omega
    (refine st ?_; intros; rename_i b3)
    refine WL.heap (H' := .blk b (.cells [.slice c B.l.length cp, str B.p, str B.d].toArray 98 (0, 0)) :: .row c cp 59 3 (B.l.map Stp.cs) :: H) (fun w h => Pick.sat (by iterate 60 (try (first | exact Pick.all | (apply Pick.take; (· (repeat (first | exact Out.here | apply Out.there)))) | apply Pick.drop))) h) ?_
    refine w_callF Try.func55 ?_ (hs := keep_any B n (by omega) hB _ _ _)
    rintro v m1 H1 ⟨rfl, rfl, c1, cp1, rfl⟩
    (try (refine st ?_; intros))
    exact q_finNorm0 (H0 := _ :: _ :: H) ⟨rfl, rfl, c1, cp1, rfl⟩ (hd := (fun w h => Pick.sat (by iterate 60 (try (first | exact Pick.all | (apply Pick.take; (· (repeat (first | exact Out.here | apply Out.there)))) | apply Pick.drop))) h))
  · by_cases h3 : s.d = []
    · have e : B.step s = ⟨B.l, B.p ++ s.p, B.d⟩ := by unfold Bld.step; rw [if_neg h0, if_neg (fun h => h h3)]
      rw [e]
      (try (refine st ?_; intros))
      exact q_finNorm0 (H0 := .blk b (.cells [.slice c B.l.length cp, str (B.p ++ s.p), str B.d].toArray 98 (0, 0)) :: .row c cp 59 3 (B.l.map Stp.cs) :: H) ⟨rfl, rfl, c, cp, rfl⟩ (hd := (fun w h => Pick.sat (by iterate 60 (try (first | exact Pick.all | (apply Pick.take; (· (repeat (first | exact Out.here | apply Out.there)))) | apply Pick.drop))) h))
    · have e : B.step s = ⟨B.l, B.p, B.d ++ s.d⟩ := by unfold Bld.step; rw [if_neg h0, if_pos h3]
      rw [e]
      (try (refine st ?_; intros))
      exact q_finNorm0 (H0 := .blk b (.cells [.slice c B.l.length cp, str B.p, str (B.d ++ s.d)].toArray 98 (0, 0)) :: .row c cp 59 3 (B.l.map Stp.cs) :: H) ⟨rfl, rfl, c, cp, rfl⟩ (hd := (fun w h => Pick.sat (by iterate 60 (try (first | exact Pick.all | (apply Pick.take; (· (repeat (first | exact Out.here | apply Out.there)))) | apply Pick.drop))) h))
theorem done_any {b : Nat} {c : Option Addr} {cp : Nat} (B : Bld) (hB : B.l.length ≤ 1000000000000) (w0 : World) (m : Mem) (H : SHeap) :
    Does Try.prog 48 #[.pointer (some ⟨b, 0, none⟩)] w0 m (.blk b (.cells [.slice c B.l.length cp, str B.p, str B.d].toArray 98 (0, 0)) :: .row c cp 59 3 (B.l.map Stp.cs) :: H)
      (fun v m' H' => m' = m ∧ ∃ c' cp', v = .slice c' B.close.l.length cp' ∧ H' = .row c' cp' 59 3 (B.close.l.map Stp.cs) :: H) := by
  refine Does.of_body (args := [.pointer (some ⟨b, 0, none⟩)]) Try.func48 rfl Try.ntmps48 rfl ?_
  (try (refine st ?_; intros))
  refine w_callF Try.func72 ?_ (hs := close_any B hB _ _ _)
  rintro v m1 H1 ⟨rfl, rfl, c1, cp1, rfl⟩
  (try (refine st ?_; intros))
  exact q_fin0 (H0 := .row c1 cp1 59 3 (B.close.l.map Stp.cs) :: H) ⟨rfl, c1, cp1, rfl, rfl⟩ (hd := (fun w h => Pick.sat (by iterate 60 (try (first | exact Pick.all | (apply Pick.take; (· (repeat (first | exact Out.here | apply Out.there)))) | apply Pick.drop))) h))
theorem plain_any {a : Option Addr} {cap : Nat} {l : List Stp} (hok : ∀ s ∈ l, stpOk s) (hl : (atomsOf l).length ≤ 1000000000) (w0 : World) (m : Mem) (H : SHeap) (hr : RowR w0 m H 3 a (l.map Stp.cs)) :
    Does Try.prog 42 #[.slice a l.length cap] w0 m H (fun v m' H' => m' = m ∧ ∃ c' cp', v = .slice c' (plainOf l).length cp' ∧ H' = .row c' cp' 59 3 ((plainOf l).map Stp.cs) :: H) := by
  refine Does.of_body (args := [.slice a l.length cap]) Try.func42 rfl Try.ntmps42 rfl ?_
  have hln : (l.map Stp.cs).length = l.length := by simp
  have hlen := steps_le l hok
  (refine st ?_; intros; rename_i b)
  refine WC.newRow (T := 59) (sz := 3) ?_
  refine WC.loopH [(8, .int .i64 ((0) : Int)), (7, .int .i64 (l.length : Int)), (6, .slice a l.length cap), (3, .pointer (some ⟨b, 0, none⟩))] ?_ ?_ (fun j r ds m' H' => ∃ i c cp B, j = l.length - i ∧ r = [(8, .int .i64 (i : Int)), (7, .int .i64 (l.length : Int)), (6, .slice a l.length cap), (3, .pointer (some ⟨b, 0, none⟩))] ∧ ds = [] ∧ m = m' ∧ H' = .blk b (.cells [.slice c B.l.length cp, str B.p, str B.d].toArray 98 (0, 0)) :: .row c cp 59 3 (B.l.map Stp.cs) :: H ∧ (i ≤ l.length) ∧ (B = Bld.start.run (atomsOf (l.take i)))) (l.length - (0)) ⟨0, none, 0, Bld.start, rfl, rfl, rfl, rfl, rfl, by omega, by simp [atomsOf, Bld.run]⟩ ?_
  · (repeat (first | exact Env.Sub.nil | refine Env.Sub.cons rfl ?_))
  · exact (fun w h => Pick.sat (by iterate 60 (try (first | exact Pick.all | (apply Pick.take; (· (repeat (first | exact Out.here | apply Out.there)))) | apply Pick.drop))) h)
  rintro j r ds m' H' ⟨i, c, cp, B, rfl, rfl, rfl, rfl, rfl, hi, hB⟩
  have htl : (atomsOf (l.take i)).length ≤ (atomsOf l).length := by
    have e : atomsOf l = atomsOf (l.take i) ++ atomsOf (l.drop i) := by rw [← atoms_append, List.take_append_drop]
    rw [e]; simp
  have hfit : BFit 10000000000 B := by rw [hB]; exact (BFit.runs _).mono (by omega)
  by_cases hlt : i < l.length
  · obtain ⟨x, hx, hget, htk, hmem, hdr⟩ := at_idx (f := Stp.cs) hlt
    have hr1 := (hr.more (i := .row c cp 59 3 (B.l.map Stp.cs))).more (i := .blk b (.cells [.slice c B.l.length cp, str B.p, str B.d].toArray 98 (0, 0)))
    have hxl : x.atoms.length ≤ (atomsOf l).length := by
      have e : atomsOf l = atomsOf (l.take (i + 1)) ++ atomsOf (l.drop (i + 1)) := by rw [← atoms_append, List.take_append_drop]
      rw [e, htk, atoms_append, atoms_one]; simp only [List.length_append]; omega
    rw [atoms_len] at hxl
    refine WC.rSome hr1 (by omega) ?_
    rintro a0 rfl
    (refine st ?_; intros; rename_i bx)
    refine WL.heap (H' := .blk b (.cells [.slice c B.l.length cp, str B.p, str B.d].toArray 98 (0, 0)) :: .row c cp 59 3 (B.l.map Stp.cs) :: H) (fun w h => Pick.sat (by iterate 60 (try (first | exact Pick.all | (apply Pick.take; (· (repeat (first | exact Out.here | apply Out.there)))) | apply Pick.drop))) h) ?_
    refine w_callF Try.func45 ?_ (hs := step_any B x (by omega) (by omega) (by omega) (hfit.mono (by omega)) _ _ _)
    rintro v m1 H1 ⟨rfl, rfl, c1, cp1, rfl⟩
    (try (refine st ?_; intros))
    refine WQ.next (l.length - (i + 1)) ⟨i + 1, c1, cp1, B.step x, rfl, rfl, rfl, rfl, rfl, ?_, ?_⟩ (by omega) (by (repeat (first | exact Env.Sub.nil | refine Env.Sub.cons rfl ?_))) (fun w h => Pick.sat (by iterate 60 (try (first | exact Pick.all | (apply Pick.take; (· (repeat (first | exact Out.here | apply Out.there)))) | apply Pick.drop))) h)
    · omega
    · rw [htk, atoms_append, run_append, ← hB, atoms_one, run_step _ _ (hok x hmem)]
  · obtain rfl : i = l.length := by omega
    have hlen2 := hfit.len
    (try (refine st ?_; intros))
    refine w_callF Try.func48 ?_ (hs := done_any B (by omega) _ _ _)
    rintro v m1 H1 ⟨rfl, c1, cp1, rfl, rfl⟩
    (try (refine st ?_; intros))
    have e : B.close.l = plainOf l := by
      rw [hB, List.take_length, plainOf]
      have : ∀ (l : List Stp) (b : Bld), (∀ s ∈ l, stpOk s) → b.run (atomsOf l) = l.foldl Bld.step b := by
        intro l
        induction l with
        | nil => intro b _; rfl
        | cons s l ih => intro b h; rw [atoms_cons, run_append, run_step _ _ (h s List.mem_cons_self), ih _ (fun x hx => h x (List.mem_cons_of_mem _ hx)), List.foldl_cons]
      rw [this l _ hok]
    rw [e]
    exact q_fin0 (H0 := .row c1 cp1 59 3 ((plainOf l).map Stp.cs) :: H) ⟨rfl, c1, cp1, rfl, rfl⟩ (hd := (fun w h => Pick.sat (by iterate 60 (try (first | exact Pick.all | (apply Pick.take; (· (repeat (first | exact Out.here | apply Out.there)))) | apply Pick.drop))) h))
end Go.Proofs.Ytelgegefmjlimaa

/-
  The walks of package edit, second part: the sizes of a change, by the program and by the reference. No condition.
-/
namespace Go.Proofs.Ytelgegefmjlimaa
open Go Go.Eng
set_option maxRecDepth 100000
set_option maxHeartbeats 4000000
set_option linter.all false
attribute [local irreducible] WL WC WQ QFun QLoop Does Q1 QRound QAssign Go.Addr.add
attribute [local irreducible] sizesF sizesOf
theorem sizes_any {a : Option Addr} {cap : Nat} {l : List Stp} (hf : Fit l) (w0 : World) (m : Mem) (H : SHeap) (hr : RowR w0 m H 3 a (l.map Stp.cs)) :
    Does Try.prog 40 #[.slice a l.length cap] w0 m H (Gives (szP (sizesOf l)) m H) := by
  refine Does.of_body (args := [.slice a l.length cap]) Try.func40 rfl Try.ntmps40 rfl ?_
  have hln : (l.map Stp.cs).length = l.length := by simp
  have hlen := hf.len
  (try (refine st ?_; intros))
  refine WC.loopH [(12, .int .i64 ((0) : Int)), (11, .int .i64 (l.length : Int)), (10, .slice a l.length cap), (5, .int .i64 (0)), (6, .int .i64 (0))] ?_ ?_ (fun j r ds m' H' => ∃ (i : _) (f : Int) (t : Int), j = l.length - i ∧ r = [(12, .int .i64 (i : Int)), (11, .int .i64 (l.length : Int)), (10, .slice a l.length cap), (5, .int .i64 f), (6, .int .i64 t)] ∧ ds = [] ∧ m = m' ∧ H' = H ∧ (i ≤ l.length) ∧ (0 ≤ f ∧ f ≤ 65536 ∧ 0 ≤ t ∧ t ≤ 65536) ∧ (sizesF (l.drop i) f t = sizesOf l) ∧ (RowR w0 m H 3 a (l.map Stp.cs))) (l.length - (0)) ⟨0, 0, 0, rfl, rfl, rfl, rfl, rfl, by omega, by omega, by rw [sizesOf]; rfl, hr⟩ ?_
  · (repeat (first | exact Env.Sub.nil | refine Env.Sub.cons rfl ?_))
  · exact (fun w h => Pick.sat (by iterate 60 (try (first | exact Pick.all | (apply Pick.take; (· (repeat (first | exact Out.here | apply Out.there)))) | apply Pick.drop))) h)
  rintro j r ds m' H' ⟨i, f, t, rfl, rfl, rfl, rfl, rfl, hi, hn, hs, hr⟩
  generalize H' = H at *
  by_cases hlt : i < l.length
  · obtain ⟨x, hx, hget, htk, hmem, hdr⟩ := at_idx (f := Stp.cs) hlt
    have hk := hf.k x hmem
    have hd := hf.d x hmem
    have hp := hf.p x hmem
    rw [hdr] at hs
    refine WC.rSome hr (by omega) ?_
    rintro a0 rfl
    have hdl : x.d = [] → x.d.length = 0 := fun h => by rw [h]; rfl
    have hpl : x.p = [] → x.p.length = 0 := fun h => by rw [h]; rfl
    by_cases h1 : x.k = 0 <;> by_cases h2 : x.d = [] <;> by_cases h3 : x.p = []
    · rw [sizesF_bad (fun h => by simp [stpOk, h1, h2, h3] at h)] at hs
      (try (refine st ?_; intros))
      exact q_fin0 (H0 := H) (Gives.mk (by rw [← hs]; try rfl)) (hd := (fun w h => Pick.sat (by iterate 60 (try (first | exact Pick.all | (apply Pick.take; (· (repeat (first | exact Out.here | apply Out.there)))) | apply Pick.drop))) h))
    · have hok : stpOk x := .inr (.inr ⟨h1, h2, h3⟩)
      have h2' := hdl h2
      by_cases h4 : t + (x.k + (x.p.length : Int)) ≤ 65536
      · rw [sizesF_good hok (by omega) (by omega) (by omega)] at hs
        (try (refine st ?_; intros))
        refine WQ.next (l.length - (i + 1)) ⟨i + 1, _, _, rfl, rfl, rfl, rfl, rfl, ?_, ?_, ?_, ?_⟩ (by omega) (by (repeat (first | exact Env.Sub.nil | refine Env.Sub.cons rfl ?_))) (fun w h => Pick.sat (by iterate 60 (try (first | exact Pick.all | (apply Pick.take; (· (repeat (first | exact Out.here | apply Out.there)))) | apply Pick.drop))) h)
        · omega
        · omega
        · rw [← hs]; congr 1 <;> omega
        · assumption
      · rw [sizesF_bad (by omega)] at hs
        (try (refine st ?_; intros))
        exact q_fin0 (H0 := H) (Gives.mk (by rw [← hs]; try rfl)) (hd := (fun w h => Pick.sat (by iterate 60 (try (first | exact Pick.all | (apply Pick.take; (· (repeat (first | exact Out.here | apply Out.there)))) | apply Pick.drop))) h))
    · have hok : stpOk x := .inr (.inl ⟨h1, h2, h3⟩)
      have h3' := hpl h3
      by_cases h4 : f + (x.k + (x.d.length : Int)) ≤ 65536
      · rw [sizesF_good hok (by omega) (by omega) (by omega)] at hs
        (try (refine st ?_; intros))
        refine WQ.next (l.length - (i + 1)) ⟨i + 1, _, _, rfl, rfl, rfl, rfl, rfl, ?_, ?_, ?_, ?_⟩ (by omega) (by (repeat (first | exact Env.Sub.nil | refine Env.Sub.cons rfl ?_))) (fun w h => Pick.sat (by iterate 60 (try (first | exact Pick.all | (apply Pick.take; (· (repeat (first | exact Out.here | apply Out.there)))) | apply Pick.drop))) h)
        · omega
        · omega
        · rw [← hs]; congr 1 <;> omega
        · assumption
      · rw [sizesF_bad (by omega)] at hs
        (try (refine st ?_; intros))
        exact q_fin0 (H0 := H) (Gives.mk (by rw [← hs]; try rfl)) (hd := (fun w h => Pick.sat (by iterate 60 (try (first | exact Pick.all | (apply Pick.take; (· (repeat (first | exact Out.here | apply Out.there)))) | apply Pick.drop))) h))
    · rw [sizesF_bad (fun h => by simp [stpOk, h1, h2, h3] at h)] at hs
      (try (refine st ?_; intros))
      exact q_fin0 (H0 := H) (Gives.mk (by rw [← hs]; try rfl)) (hd := (fun w h => Pick.sat (by iterate 60 (try (first | exact Pick.all | (apply Pick.take; (· (repeat (first | exact Out.here | apply Out.there)))) | apply Pick.drop))) h))
    · have h2' := hdl h2
      have h3' := hpl h3
      by_cases h5 : x.k < 0
      · rw [sizesF_bad (fun h => by rcases h.1 with g | g | g <;> omega)] at hs
        (try (refine st ?_; intros))
        exact q_fin0 (H0 := H) (Gives.mk (by rw [← hs]; try rfl)) (hd := (fun w h => Pick.sat (by iterate 60 (try (first | exact Pick.all | (apply Pick.take; (· (repeat (first | exact Out.here | apply Out.there)))) | apply Pick.drop))) h))
      · by_cases h6 : 65536 < x.k
        · rw [sizesF_bad (by omega)] at hs
          (try (refine st ?_; intros))
          exact q_fin0 (H0 := H) (Gives.mk (by rw [← hs]; try rfl)) (hd := (fun w h => Pick.sat (by iterate 60 (try (first | exact Pick.all | (apply Pick.take; (· (repeat (first | exact Out.here | apply Out.there)))) | apply Pick.drop))) h))
        · have hok : stpOk x := .inl ⟨by omega, h2, h3⟩
          by_cases h4 : f + (x.k + (x.d.length : Int)) ≤ 65536
          · by_cases h7 : t + (x.k + (x.p.length : Int)) ≤ 65536
            · rw [sizesF_good hok (by omega) (by omega) (by omega)] at hs
              (try (refine st ?_; intros))
              refine WQ.next (l.length - (i + 1)) ⟨i + 1, _, _, rfl, rfl, rfl, rfl, rfl, ?_, ?_, ?_, ?_⟩ (by omega) (by (repeat (first | exact Env.Sub.nil | refine Env.Sub.cons rfl ?_))) (fun w h => Pick.sat (by iterate 60 (try (first | exact Pick.all | (apply Pick.take; (· (repeat (first | exact Out.here | apply Out.there)))) | apply Pick.drop))) h)
              · omega
              · omega
              · rw [← hs]; congr 1 <;> omega
              · assumption
            · rw [sizesF_bad (by omega)] at hs
              (try (refine st ?_; intros))
              exact q_fin0 (H0 := H) (Gives.mk (by rw [← hs]; try rfl)) (hd := (fun w h => Pick.sat (by iterate 60 (try (first | exact Pick.all | (apply Pick.take; (· (repeat (first | exact Out.here | apply Out.there)))) | apply Pick.drop))) h))
          · rw [sizesF_bad (by omega)] at hs
            (try (refine st ?_; intros))
            exact q_fin0 (H0 := H) (Gives.mk (by rw [← hs]; try rfl)) (hd := (fun w h => Pick.sat (by iterate 60 (try (first | exact Pick.all | (apply Pick.take; (· (repeat (first | exact Out.here | apply Out.there)))) | apply Pick.drop))) h))
    all_goals
      rw [sizesF_bad (fun h => by simp [stpOk, h1, h2, h3] at h)] at hs
      (try (refine st ?_; intros))
      exact q_fin0 (H0 := H) (Gives.mk (by rw [← hs]; try rfl)) (hd := (fun w h => Pick.sat (by iterate 60 (try (first | exact Pick.all | (apply Pick.take; (· (repeat (first | exact Out.here | apply Out.there)))) | apply Pick.drop))) h))
  · obtain rfl : i = l.length := by omega
    rw [List.drop_length, sizesF] at hs
    (try (refine st ?_; intros))
    exact q_fin0 (H0 := H) (Gives.mk (by rw [← hs]; try rfl)) (hd := (fun w h => Pick.sat (by iterate 60 (try (first | exact Pick.all | (apply Pick.take; (· (repeat (first | exact Out.here | apply Out.there)))) | apply Pick.drop))) h))
end Go.Proofs.Ytelgegefmjlimaa

/-
  The walks of package edit, ninth part: where a place goes. No condition.
-/
namespace Go.Eng
/-- what a change that may be bounds -/
theorem sized {l : List Stp} {f t : Int} (h : sizesOf l = some (f, t)) : (∀ s ∈ l, stpOk s) ∧ (atomsOf l).length ≤ 131072 ∧ (atomsOf (plainOf l)).length ≤ 131072 ∧ f = (fromA (atomsOf l) : Int) ∧ t = (toA (atomsOf l) : Int) ∧ 0 ≤ f ∧ f ≤ 65536 ∧ 0 ≤ t ∧ t ≤ 65536 := by
  obtain ⟨h1, h2, h3, h4, h5⟩ := sizesOf_some h
  have hok : ∀ s ∈ l, stpOk s := fun s hs => (h1 s hs).1
  have a1 := atoms_le (atomsOf l)
  have a2 := atoms_le (atomsOf (plainOf l))
  obtain ⟨n1, n2⟩ := nf_sizes l hok
  rw [plain_atoms, n1, n2] at a2
  unfold maxT at h4 h5
  rw [plain_atoms]
  exact ⟨hok, by omega, by omega, h2, h3, by omega, by omega, by omega, by omega⟩
end Go.Eng
namespace Go.Proofs.Ytelgegefmjlimaa
open Go Go.Eng
set_option maxRecDepth 100000
set_option maxHeartbeats 4000000
set_option linter.all false
attribute [local irreducible] WL WC WQ QFun QLoop Does Q1 QRound QAssign Go.Addr.add
theorem move_any {a : Option Addr} {cap : Nat} {l : List Stp} {at_ : Int} {bh : Bool} (hok : ∀ s ∈ l, stpOk s) (hl : (atomsOf l).length ≤ 1000000000) (hat : -1000000000 ≤ at_ ∧ at_ ≤ 1000000000) (w0 : World) (m : Mem) (H : SHeap) (hr : RowR w0 m H 3 a (l.map Stp.cs)) :
    Does Try.prog 41 #[.slice a l.length cap, .int .i64 at_, .bool bh] w0 m H (Gives (.int .i64 (moveOf l at_ bh)) m H) := by
  refine Does.of_body (args := [.slice a l.length cap, .int .i64 at_, .bool bh]) Try.func41 rfl Try.ntmps41 rfl ?_
  have hln : (l.map Stp.cs).length = l.length := by simp
  have hlen := steps_le l hok
  (try (refine st ?_; intros))
  refine WC.loopH [(13, .int .i64 ((0) : Int)), (12, .int .i64 (l.length : Int)), (11, .slice a l.length cap), (1, .int .i64 at_), (2, .bool bh), (7, .int .i64 (0)), (8, .int .i64 (0))] ?_ ?_ (fun j r ds m' H' => ∃ (i : _) (o : Int) (ah : Int), j = l.length - i ∧ r = [(13, .int .i64 (i : Int)), (12, .int .i64 (l.length : Int)), (11, .slice a l.length cap), (1, .int .i64 at_), (2, .bool bh), (7, .int .i64 o), (8, .int .i64 ah)] ∧ ds = [] ∧ m = m' ∧ H' = H ∧ (i ≤ l.length) ∧ (0 ≤ o ∧ o ≤ ((atomsOf (l.take i)).length : Int) ∧ 0 ≤ ah ∧ ah ≤ ((atomsOf (l.take i)).length : Int)) ∧ ((l.drop i).foldl (moveStep at_ bh) (o, ah) = l.foldl (moveStep at_ bh) (0, 0)) ∧ (RowR w0 m H 3 a (l.map Stp.cs))) (l.length - (0)) ⟨0, 0, 0, rfl, rfl, rfl, rfl, rfl, by omega, by simp, rfl, hr⟩ ?_
  · (repeat (first | exact Env.Sub.nil | refine Env.Sub.cons rfl ?_))
  · exact (fun w h => Pick.sat (by iterate 60 (try (first | exact Pick.all | (apply Pick.take; (· (repeat (first | exact Out.here | apply Out.there)))) | apply Pick.drop))) h)
  rintro j r ds m' H' ⟨i, o, ah, rfl, rfl, rfl, rfl, rfl, hi, hb, hs, hr⟩
  generalize H' = H at *
  by_cases hlt : i < l.length
  · obtain ⟨x, hx, hget, htk, hmem, hdr⟩ := at_idx (f := Stp.cs) hlt
    have hxl : (atomsOf (l.take (i + 1))).length = (atomsOf (l.take i)).length + x.atoms.length := by rw [htk, atoms_append, atoms_one, List.length_append]
    have hxm : (atomsOf (l.take (i + 1))).length ≤ (atomsOf l).length := by
      have e : atomsOf l = atomsOf (l.take (i + 1)) ++ atomsOf (l.drop (i + 1)) := by rw [← atoms_append, List.take_append_drop]
      rw [e, List.length_append]; omega
    rw [atoms_len] at hxl
    rw [hdr, List.foldl_cons] at hs
    refine WC.rSome hr (by omega) ?_
    rintro a0 rfl
    rcases hok x hmem with ⟨h1, h2, h3⟩ | ⟨h1, h2, h3⟩ | ⟨h1, h2, h3⟩
    · have e : moveStep at_ bh (o, ah) x = (o + max 0 (min x.k (at_ - ah)), ah + x.k) := by simp [moveStep, h2, h3]
      rw [e] at hs
      (try (refine st ?_; intros))
      refine WQ.next (l.length - (i + 1)) ⟨i + 1, o + max 0 (min x.k (at_ - ah)), ah + x.k, rfl, rfl, rfl, rfl, rfl, ?_, ?_, ?_, ?_⟩ (by omega) (by (repeat (first | exact Env.Sub.nil | refine Env.Sub.cons rfl ?_))) (fun w h => Pick.sat (by iterate 60 (try (first | exact Pick.all | (apply Pick.take; (· (repeat (first | exact Out.here | apply Out.there)))) | apply Pick.drop))) h)
      · omega
      · omega
      · exact hs
      · assumption
    · have e : moveStep at_ bh (o, ah) x = (o, ah + x.d.length) := by simp [moveStep, h2, h3]
      rw [e] at hs
      (try (refine st ?_; intros))
      refine WQ.next (l.length - (i + 1)) ⟨i + 1, o, ah + x.d.length, rfl, rfl, rfl, rfl, rfl, ?_, ?_, ?_, ?_⟩ (by omega) (by (repeat (first | exact Env.Sub.nil | refine Env.Sub.cons rfl ?_))) (fun w h => Pick.sat (by iterate 60 (try (first | exact Pick.all | (apply Pick.take; (· (repeat (first | exact Out.here | apply Out.there)))) | apply Pick.drop))) h)
      · omega
      · omega
      · exact hs
      · assumption
    · rcases (show ah < at_ ∨ ah = at_ ∨ at_ < ah by omega) with h4 | h4 | h4
      · have e : moveStep at_ bh (o, ah) x = (o + x.p.length, ah) := by simp [moveStep, h3, h4]
        rw [e] at hs
        (try (refine st ?_; intros))
        refine WQ.next (l.length - (i + 1)) ⟨i + 1, o + x.p.length, ah, rfl, rfl, rfl, rfl, rfl, ?_, ?_, ?_, ?_⟩ (by omega) (by (repeat (first | exact Env.Sub.nil | refine Env.Sub.cons rfl ?_))) (fun w h => Pick.sat (by iterate 60 (try (first | exact Pick.all | (apply Pick.take; (· (repeat (first | exact Out.here | apply Out.there)))) | apply Pick.drop))) h)
        · omega
        · omega
        · exact hs
        · assumption
      · cases bh with
        | true =>
          have e : moveStep at_ true (o, ah) x = (o + x.p.length, ah) := by simp [moveStep, h3, h4]
          rw [e] at hs
          (try (refine st ?_; intros))
          refine WQ.next (l.length - (i + 1)) ⟨i + 1, o + x.p.length, ah, rfl, rfl, rfl, rfl, rfl, ?_, ?_, ?_, ?_⟩ (by omega) (by (repeat (first | exact Env.Sub.nil | refine Env.Sub.cons rfl ?_))) (fun w h => Pick.sat (by iterate 60 (try (first | exact Pick.all | (apply Pick.take; (· (repeat (first | exact Out.here | apply Out.there)))) | apply Pick.drop))) h)
          · omega
          · omega
          · exact hs
          · assumption
        | false =>
          have e : moveStep at_ false (o, ah) x = (o, ah) := by simp [moveStep, h3, h4]
          rw [e] at hs
          (try (refine st ?_; intros))
          refine WQ.next (l.length - (i + 1)) ⟨i + 1, o, ah, rfl, rfl, rfl, rfl, rfl, ?_, ?_, ?_, ?_⟩ (by omega) (by (repeat (first | exact Env.Sub.nil | refine Env.Sub.cons rfl ?_))) (fun w h => Pick.sat (by iterate 60 (try (first | exact Pick.all | (apply Pick.take; (· (repeat (first | exact Out.here | apply Out.there)))) | apply Pick.drop))) h)
          · omega
          · omega
          · exact hs
          · assumption
      · have e : moveStep at_ bh (o, ah) x = (o, ah) := by
          simp only [moveStep]
          rw [if_pos h3, if_neg (by omega)]
        rw [e] at hs
        (try (refine st ?_; intros))
        refine WQ.next (l.length - (i + 1)) ⟨i + 1, o, ah, rfl, rfl, rfl, rfl, rfl, ?_, ?_, ?_, ?_⟩ (by omega) (by (repeat (first | exact Env.Sub.nil | refine Env.Sub.cons rfl ?_))) (fun w h => Pick.sat (by iterate 60 (try (first | exact Pick.all | (apply Pick.take; (· (repeat (first | exact Out.here | apply Out.there)))) | apply Pick.drop))) h)
        · omega
        · omega
        · exact hs
        · assumption
  · obtain rfl : i = l.length := by omega
    rw [List.drop_length, List.foldl_nil] at hs
    (try (refine st ?_; intros))
    exact q_fin0 (H0 := H) (Gives.mk (by rw [moveOf, ← hs])) (hd := (fun w h => Pick.sat (by iterate 60 (try (first | exact Pick.all | (apply Pick.take; (· (repeat (first | exact Out.here | apply Out.there)))) | apply Pick.drop))) h))
def moveV (l : List Stp) (at_ : Int) (bh : Bool) : Value := match sizesOf l with
  | none => .tuple #[.int .i64 0, .int .i64 2]
  | some (f, _) => if at_ < 0 ∨ f < at_ then .tuple #[.int .i64 0, .int .i64 5] else .tuple #[.int .i64 (moveOf (plainOf l) at_ bh), .int .i64 0]
theorem sq_E9_1 {G : Prop} (h : G := by (repeat (first | (refine sp ?_; (repeat intro zzc)) | (refine iF 40 rfl ?_; refine w_callG Try.func40 ?_ (hs := sizes_any (by assumption) _ _ _ (by assumption))))); exact WQ.q1 rfl) : G := h
theorem st_E9_1 {G G' : Prop} (next : G') (h : Bx G' → G := by intro zzn; (first | ((refine st ?_; (repeat intro zzc)); (try ((first | (refine iF 40 rfl ?_; refine w_callG Try.func40 ?_ (hs := sizes_any (by assumption) _ _ _ (by assumption))) | ((refine iDraw ?_; (first | refine WC.drawAll rfl (by decide +kernel) ?_ | refine WC.draw 1 rfl (by decide +kernel) ?_ | refine WC.draw 2 rfl (by decide +kernel) ?_ | refine WC.draw 3 rfl (by decide +kernel) ?_ | refine WC.draw 4 rfl (by decide +kernel) ?_ | refine WC.draw 5 rfl (by decide +kernel) ?_ | refine WC.draw 6 rfl (by decide +kernel) ?_ | refine WC.draw 7 rfl (by decide +kernel) ?_ | refine WC.draw 8 rfl (by decide +kernel) ?_ | refine WC.draw 9 rfl (by decide +kernel) ?_ | refine WC.draw 10 rfl (by decide +kernel) ?_ | refine WC.draw 11 rfl (by decide +kernel) ?_ | refine WC.draw 12 rfl (by decide +kernel) ?_ | refine WC.draw 13 rfl (by decide +kernel) ?_ | refine WC.draw 14 rfl (by decide +kernel) ?_ | refine WC.draw 15 rfl (by decide +kernel) ?_ | refine WC.draw 16 rfl (by decide +kernel) ?_ | refine WC.draw 17 rfl (by decide +kernel) ?_ | refine WC.draw 18 rfl (by decide +kernel) ?_ | refine WC.draw 19 rfl (by decide +kernel) ?_ | refine WC.draw 20 rfl (by decide +kernel) ?_ | refine WC.draw 21 rfl (by decide +kernel) ?_ | refine WC.draw 22 rfl (by decide +kernel) ?_ | refine WC.draw 23 rfl (by decide +kernel) ?_ | refine WC.draw 24 rfl (by decide +kernel) ?_)); (repeat (refine WD.cons rfl (fun c h => by cases h) sq_E9_1 ?_)); refine WD.nil ?_)); (try (refine st ?_; (repeat intro zzc)))))) | ((first | (refine iF 40 rfl ?_; refine w_callG Try.func40 ?_ (hs := sizes_any (by assumption) _ _ _ (by assumption))) | ((refine iDraw ?_; (first | refine WC.drawAll rfl (by decide +kernel) ?_ | refine WC.draw 1 rfl (by decide +kernel) ?_ | refine WC.draw 2 rfl (by decide +kernel) ?_ | refine WC.draw 3 rfl (by decide +kernel) ?_ | refine WC.draw 4 rfl (by decide +kernel) ?_ | refine WC.draw 5 rfl (by decide +kernel) ?_ | refine WC.draw 6 rfl (by decide +kernel) ?_ | refine WC.draw 7 rfl (by decide +kernel) ?_ | refine WC.draw 8 rfl (by decide +kernel) ?_ | refine WC.draw 9 rfl (by decide +kernel) ?_ | refine WC.draw 10 rfl (by decide +kernel) ?_ | refine WC.draw 11 rfl (by decide +kernel) ?_ | refine WC.draw 12 rfl (by decide +kernel) ?_ | refine WC.draw 13 rfl (by decide +kernel) ?_ | refine WC.draw 14 rfl (by decide +kernel) ?_ | refine WC.draw 15 rfl (by decide +kernel) ?_ | refine WC.draw 16 rfl (by decide +kernel) ?_ | refine WC.draw 17 rfl (by decide +kernel) ?_ | refine WC.draw 18 rfl (by decide +kernel) ?_ | refine WC.draw 19 rfl (by decide +kernel) ?_ | refine WC.draw 20 rfl (by decide +kernel) ?_ | refine WC.draw 21 rfl (by decide +kernel) ?_ | refine WC.draw 22 rfl (by decide +kernel) ?_ | refine WC.draw 23 rfl (by decide +kernel) ?_ | refine WC.draw 24 rfl (by decide +kernel) ?_)); (repeat (refine WD.cons rfl (fun c h => by cases h) sq_E9_1 ?_)); refine WD.nil ?_)); (try (refine st ?_; (repeat intro zzc))))); (repeat ((first | (refine iF 40 rfl ?_; refine w_callG Try.func40 ?_ (hs := sizes_any (by assumption) _ _ _ (by assumption))) | ((refine iDraw ?_; (first | refine WC.drawAll rfl (by decide +kernel) ?_ | refine WC.draw 1 rfl (by decide +kernel) ?_ | refine WC.draw 2 rfl (by decide +kernel) ?_ | refine WC.draw 3 rfl (by decide +kernel) ?_ | refine WC.draw 4 rfl (by decide +kernel) ?_ | refine WC.draw 5 rfl (by decide +kernel) ?_ | refine WC.draw 6 rfl (by decide +kernel) ?_ | refine WC.draw 7 rfl (by decide +kernel) ?_ | refine WC.draw 8 rfl (by decide +kernel) ?_ | refine WC.draw 9 rfl (by decide +kernel) ?_ | refine WC.draw 10 rfl (by decide +kernel) ?_ | refine WC.draw 11 rfl (by decide +kernel) ?_ | refine WC.draw 12 rfl (by decide +kernel) ?_ | refine WC.draw 13 rfl (by decide +kernel) ?_ | refine WC.draw 14 rfl (by decide +kernel) ?_ | refine WC.draw 15 rfl (by decide +kernel) ?_ | refine WC.draw 16 rfl (by decide +kernel) ?_ | refine WC.draw 17 rfl (by decide +kernel) ?_ | refine WC.draw 18 rfl (by decide +kernel) ?_ | refine WC.draw 19 rfl (by decide +kernel) ?_ | refine WC.draw 20 rfl (by decide +kernel) ?_ | refine WC.draw 21 rfl (by decide +kernel) ?_ | refine WC.draw 22 rfl (by decide +kernel) ?_ | refine WC.draw 23 rfl (by decide +kernel) ?_ | refine WC.draw 24 rfl (by decide +kernel) ?_)); (repeat (refine WD.cons rfl (fun c h => by cases h) sq_E9_1 ?_)); refine WD.nil ?_)); (try (refine st ?_; (repeat intro zzc))))); (repeat revert zzc); exact zzn.out) : G := h ⟨next⟩
theorem eMove_any {a : Option Addr} {cap : Nat} {l : List Stp} {at_ : Int} {bh : Bool} (hf : Fit l) (w0 : World) (m : Mem) (H : SHeap) (hr : RowR w0 m H 3 a (l.map Stp.cs)) :
    Does Try.prog 15 #[.slice a l.length cap, .int .i64 at_, .bool bh] w0 m H (Gives (moveV l at_ bh) m H) := by
  refine Does.of_body (args := [.slice a l.length cap, .int .i64 at_, .bool bh]) Try.func15 rfl Try.ntmps15 rfl ?_
  cases hs : sizesOf l with
  | none =>
    have e : moveV l at_ bh = .tuple #[.int .i64 0, .int .i64 2] := by simp [moveV, hs]
    have e2 : szP (sizesOf l) = .tuple #[.int .i64 0, .int .i64 0, .int .i64 2] := by rw [hs]; rfl
    rw [e]
    (try (refine st_E9_1 ?_; intros))
    rw [e2]
    (try (refine st_E9_1 ?_; intros))
    exact q_fin0 (H0 := H) (Gives.mk rfl) (hd := (fun w h => Pick.sat (by iterate 60 (try (first | exact Pick.all | (apply Pick.take; (· (repeat (first | exact Out.here | apply Out.there)))) | apply Pick.drop))) h))
  | some ft =>
    obtain ⟨f, t⟩ := ft
    have e2 : szP (sizesOf l) = .tuple #[.int .i64 f, .int .i64 t, .int .i64 0] := by rw [hs]; rfl
    obtain ⟨hok, hal, hpl, _, _, g1, g2, _, _⟩ := sized hs
    by_cases h1 : at_ < 0 ∨ f < at_
    · have e : moveV l at_ bh = .tuple #[.int .i64 0, .int .i64 5] := by simp [moveV, hs, h1]
      rw [e]
      rcases (show at_ < 0 ∨ (0 ≤ at_ ∧ f < at_) by omega) with h2 | h2
      all_goals ((try (refine st_E9_1 ?_; intros)); rw [e2]; (try (refine st_E9_1 ?_; intros)); exact q_fin0 (H0 := H) (Gives.mk rfl) (hd := (fun w h => Pick.sat (by iterate 60 (try (first | exact Pick.all | (apply Pick.take; (· (repeat (first | exact Out.here | apply Out.there)))) | apply Pick.drop))) h)))
    · have e : moveV l at_ bh = .tuple #[.int .i64 (moveOf (plainOf l) at_ bh), .int .i64 0] := by simp [moveV, hs, h1]
      rw [e]
      (try (refine st_E9_1 ?_; intros))
      rw [e2]
      (try (refine st_E9_1 ?_; intros))
      refine w_callF Try.func42 ?_ (hs := plain_any hok (by omega) _ _ _ hr)
      rintro v m1 H1 ⟨rfl, c, cp, rfl, rfl⟩
      (try (refine st_E9_1 ?_; intros))
      refine w_callF Try.func41 ?_ (hs := move_any (plain_ok l) (by omega) (by omega) _ _ _ (RowR.row (by (repeat (first | exact List.Mem.head _ | apply List.Mem.tail)))))
      rintro v m2 H2 ⟨rfl, rfl, rfl⟩
      (try (refine st_E9_1 ?_; intros))
      exact q_fin0 (H0 := H) (Gives.mk rfl) (hd := (fun w h => Pick.sat (by iterate 60 (try (first | exact Pick.all | (apply Pick.take; (· (repeat (first | exact Out.here | apply Out.there)))) | apply Pick.drop))) h))
end Go.Proofs.Ytelgegefmjlimaa

