/-
  Parts of a walk, joined: E4 ET7 E6 E8 ET8 ET9 E14 E2 E9 ET10. No condition.
-/
import Derived.Test.YtelgegefmjlimaaP6
/-
  The walks of package edit, fourth part: the builder's close. No condition.
-/
namespace Go.Proofs.Ytelgegefmjlimaa
open Go Go.Eng
set_option maxRecDepth 100000
set_option maxHeartbeats 4000000
set_option linter.all false
attribute [local irreducible] WL WC WQ QFun QLoop Does Q1 QRound QAssign Go.Addr.add
theorem close_any {b : Nat} {c : Option Addr} {cp : Nat} (B : Bld) (hB : B.l.length ≤ 1000000000000) (w0 : World) (m : Mem) (H : SHeap) :
    Does Try.prog 72 #[.pointer (some ⟨b, 0, none⟩)] w0 m (.blk b (.cells [.slice c B.l.length cp, str B.p, str B.d].toArray 98 (0, 0)) :: .row c cp 59 3 (B.l.map Stp.cs) :: H)
      (fun v m' H' => v = .tuple #[] ∧ m' = m ∧ ∃ c' cp', H' = .blk b (.cells [.slice c' B.close.l.length cp', str [], str []].toArray 98 (0, 0)) :: .row c' cp' 59 3 (B.close.l.map Stp.cs) :: H) := by
  refine Does.of_body (args := [.pointer (some ⟨b, 0, none⟩)]) Try.func72 rfl Try.ntmps72 rfl ?_
  have hml : (B.l.map Stp.cs).length = B.l.length := by simp
  by_cases hp : B.p = [] <;> by_cases hd : B.d = []
  · (try (refine st ?_; intros))
    have e : B.close.l = B.l := by simp [Bld.close, hp, hd]
    rw [hp, hd]
    exact q_finNorm0 (H0 := .blk b (.cells [.slice c B.l.length cp, str [], str []].toArray 98 (0, 0)) :: .row c cp 59 3 (B.l.map Stp.cs) :: H) ⟨rfl, rfl, c, cp, by rw [e]⟩ (hd := (fun w h => Pick.sat (by iterate 60 (try (first | exact Pick.all | (apply Pick.take; (· (repeat (first | exact Out.here | apply Out.there)))) | apply Pick.drop))) h))
  · (try (refine st ?_; intros))
    refine WC.drawE 14 ([.blk b (.cells [.slice c B.l.length cp, str B.p, str B.d].toArray 98 (0, 0))]) (.row c cp 59 3 (B.l.map Stp.cs) :: H) rfl (by decide +kernel) (fun w h => Pick.sat (by iterate 60 (try (first | exact Pick.all | (apply Pick.take; (· (repeat (first | exact Out.here | apply Out.there)))) | apply Pick.drop))) h) ?_
    ((try (refine WE.calm 0 (by decide +kernel) rfl rfl (by decide +kernel) rfl (fun c h => by cases h) (by intro zm zF zle; skip; ((repeat (refine sp ?_; intros)); exact WQ.q1 rfl)) ?_)); (try (refine WE.calm 1 (by decide +kernel) rfl rfl (by decide +kernel) rfl (fun c h => by cases h) (by intro zm zF zle; skip; ((repeat (refine sp ?_; intros)); exact WQ.q1 rfl)) ?_)); (try (refine WE.calm 2 (by decide +kernel) rfl rfl (by decide +kernel) rfl (fun c h => by cases h) (by intro zm zF zle; skip; ((repeat (refine sp ?_; intros)); exact WQ.q1 rfl)) ?_)); (try (refine WE.calm 3 (by decide +kernel) rfl rfl (by decide +kernel) rfl (fun c h => by cases h) (by intro zm zF zle; skip; ((repeat (refine sp ?_; intros)); exact WQ.q1 rfl)) ?_)); (try (refine WE.calm 4 (by decide +kernel) rfl rfl (by decide +kernel) rfl (fun c h => by cases h) (by intro zm zF zle; skip; ((repeat (refine sp ?_; intros)); exact WQ.q1 rfl)) ?_)); (try (refine WE.calm 5 (by decide +kernel) rfl rfl (by decide +kernel) rfl (fun c h => by cases h) (by intro zm zF zle; skip; ((repeat (refine sp ?_; intros)); exact WQ.q1 rfl)) ?_)); (try (refine WE.calm 6 (by decide +kernel) rfl rfl (by decide +kernel) rfl (fun c h => by cases h) (by intro zm zF zle; skip; ((repeat (refine sp ?_; intros)); exact WQ.q1 rfl)) ?_)); (try (refine WE.calm 7 (by decide +kernel) rfl rfl (by decide +kernel) rfl (fun c h => by cases h) (by intro zm zF zle; skip; ((repeat (refine sp ?_; intros)); exact WQ.q1 rfl)) ?_)); (try (refine WE.calm 8 (by decide +kernel) rfl rfl (by decide +kernel) rfl (fun c h => by cases h) (by intro zm zF zle; skip; ((repeat (refine sp ?_; intros)); exact WQ.q1 rfl)) ?_)); (try (refine WE.calm 9 (by decide +kernel) rfl rfl (by decide +kernel) rfl (fun c h => by cases h) (by intro zm zF zle; skip; ((repeat (refine sp ?_; intros)); exact WQ.q1 rfl)) ?_)); (try (refine WE.calm 10 (by decide +kernel) rfl rfl (by decide +kernel) rfl (fun c h => by cases h) (by intro zm zF zle; skip; ((repeat (refine sp ?_; intros)); exact WQ.q1 rfl)) ?_)); (try (refine WE.calm 11 (by decide +kernel) rfl rfl (by decide +kernel) rfl (fun c h => by cases h) (by intro zm zF zle; skip; ((repeat (refine sp ?_; intros)); exact WQ.q1 rfl)) ?_)); (try (refine WE.calm 12 (by decide +kernel) rfl rfl (by decide +kernel) rfl (fun c h => by cases h) (by intro zm zF zle; skip; ((repeat (refine sp ?_; intros)); exact WQ.q1 rfl)) ?_)); (try (refine WE.calm 13 (by decide +kernel) rfl rfl (by decide +kernel) rfl (fun c h => by cases h) (by intro zm zF zle; skip; ((repeat (refine sp ?_; intros)); exact WQ.q1 rfl)) ?_)); (try (refine WE.calm 14 (by decide +kernel) rfl rfl (by decide +kernel) rfl (fun c h => by cases h) (by intro zm zF zle; skip; ((repeat (refine sp ?_; intros)); exact WQ.q1 rfl)) ?_)); (try (refine WE.calm 15 (by decide +kernel) rfl rfl (by decide +kernel) rfl (fun c h => by cases h) (by intro zm zF zle; skip; ((repeat (refine sp ?_; intros)); exact WQ.q1 rfl)) ?_)); (try (refine WE.calm 16 (by decide +kernel) rfl rfl (by decide +kernel) rfl (fun c h => by cases h) (by intro zm zF zle; skip; ((repeat (refine sp ?_; intros)); exact WQ.q1 rfl)) ?_)); (try (refine WE.calm 17 (by decide +kernel) rfl rfl (by decide +kernel) rfl (fun c h => by cases h) (by intro zm zF zle; skip; ((repeat (refine sp ?_; intros)); exact WQ.q1 rfl)) ?_)); (try (refine WE.calm 18 (by decide +kernel) rfl rfl (by decide +kernel) rfl (fun c h => by cases h) (by intro zm zF zle; skip; ((repeat (refine sp ?_; intros)); exact WQ.q1 rfl)) ?_)); (try (refine WE.calm 19 (by decide +kernel) rfl rfl (by decide +kernel) rfl (fun c h => by cases h) (by intro zm zF zle; skip; ((repeat (refine sp ?_; intros)); exact WQ.q1 rfl)) ?_)); (try (refine WE.calm 20 (by decide +kernel) rfl rfl (by decide +kernel) rfl (fun c h => by cases h) (by intro zm zF zle; skip; ((repeat (refine sp ?_; intros)); exact WQ.q1 rfl)) ?_)); (try (refine WE.calm 21 (by decide +kernel) rfl rfl (by decide +kernel) rfl (fun c h => by cases h) (by intro zm zF zle; skip; ((repeat (refine sp ?_; intros)); exact WQ.q1 rfl)) ?_)); (try (refine WE.calm 22 (by decide +kernel) rfl rfl (by decide +kernel) rfl (fun c h => by cases h) (by intro zm zF zle; skip; ((repeat (refine sp ?_; intros)); exact WQ.q1 rfl)) ?_)); (try (refine WE.calm 23 (by decide +kernel) rfl rfl (by decide +kernel) rfl (fun c h => by cases h) (by intro zm zF zle; skip; ((repeat (refine sp ?_; intros)); exact WQ.q1 rfl)) ?_)); (try (refine WE.calm 24 (by decide +kernel) rfl rfl (by decide +kernel) rfl (fun c h => by cases h) (by intro zm zF zle; skip; ((repeat (refine sp ?_; intros)); exact WQ.q1 rfl)) ?_)); (try (refine WE.calm 25 (by decide +kernel) rfl rfl (by decide +kernel) rfl (fun c h => by cases h) (by intro zm zF zle; skip; ((repeat (refine sp ?_; intros)); exact WQ.q1 rfl)) ?_)); (try (refine WE.calm 26 (by decide +kernel) rfl rfl (by decide +kernel) rfl (fun c h => by cases h) (by intro zm zF zle; skip; ((repeat (refine sp ?_; intros)); exact WQ.q1 rfl)) ?_)); (try (refine WE.calm 27 (by decide +kernel) rfl rfl (by decide +kernel) rfl (fun c h => by cases h) (by intro zm zF zle; skip; ((repeat (refine sp ?_; intros)); exact WQ.q1 rfl)) ?_)); (try (refine WE.calm 28 (by decide +kernel) rfl rfl (by decide +kernel) rfl (fun c h => by cases h) (by intro zm zF zle; skip; ((repeat (refine sp ?_; intros)); exact WQ.q1 rfl)) ?_)); (try (refine WE.calm 29 (by decide +kernel) rfl rfl (by decide +kernel) rfl (fun c h => by cases h) (by intro zm zF zle; skip; ((repeat (refine sp ?_; intros)); exact WQ.q1 rfl)) ?_)); (try (refine WE.calm 30 (by decide +kernel) rfl rfl (by decide +kernel) rfl (fun c h => by cases h) (by intro zm zF zle; skip; ((repeat (refine sp ?_; intros)); exact WQ.q1 rfl)) ?_)); (try (refine WE.calm 31 (by decide +kernel) rfl rfl (by decide +kernel) rfl (fun c h => by cases h) (by intro zm zF zle; skip; ((repeat (refine sp ?_; intros)); exact WQ.q1 rfl)) ?_)); (try (refine WE.calm 32 (by decide +kernel) rfl rfl (by decide +kernel) rfl (fun c h => by cases h) (by intro zm zF zle; skip; ((repeat (refine sp ?_; intros)); exact WQ.q1 rfl)) ?_)); (try (refine WE.calm 33 (by decide +kernel) rfl rfl (by decide +kernel) rfl (fun c h => by cases h) (by intro zm zF zle; skip; ((repeat (refine sp ?_; intros)); exact WQ.q1 rfl)) ?_)); (try (refine WE.calm 34 (by decide +kernel) rfl rfl (by decide +kernel) rfl (fun c h => by cases h) (by intro zm zF zle; skip; ((repeat (refine sp ?_; intros)); exact WQ.q1 rfl)) ?_)); (try (refine WE.calm 35 (by decide +kernel) rfl rfl (by decide +kernel) rfl (fun c h => by cases h) (by intro zm zF zle; skip; ((repeat (refine sp ?_; intros)); exact WQ.q1 rfl)) ?_)); (try (refine WE.calm 36 (by decide +kernel) rfl rfl (by decide +kernel) rfl (fun c h => by cases h) (by intro zm zF zle; skip; ((repeat (refine sp ?_; intros)); exact WQ.q1 rfl)) ?_)); (try (refine WE.calm 37 (by decide +kernel) rfl rfl (by decide +kernel) rfl (fun c h => by cases h) (by intro zm zF zle; skip; ((repeat (refine sp ?_; intros)); exact WQ.q1 rfl)) ?_)); (try (refine WE.calm 38 (by decide +kernel) rfl rfl (by decide +kernel) rfl (fun c h => by cases h) (by intro zm zF zle; skip; ((repeat (refine sp ?_; intros)); exact WQ.q1 rfl)) ?_)); (try (refine WE.calm 39 (by decide +kernel) rfl rfl (by decide +kernel) rfl (fun c h => by cases h) (by intro zm zF zle; skip; ((repeat (refine sp ?_; intros)); exact WQ.q1 rfl)) ?_)); (try (refine WE.calm 40 (by decide +kernel) rfl rfl (by decide +kernel) rfl (fun c h => by cases h) (by intro zm zF zle; skip; ((repeat (refine sp ?_; intros)); exact WQ.q1 rfl)) ?_)); (try (refine WE.calm 41 (by decide +kernel) rfl rfl (by decide +kernel) rfl (fun c h => by cases h) (by intro zm zF zle; skip; ((repeat (refine sp ?_; intros)); exact WQ.q1 rfl)) ?_)))
    refine WE.act1 10 (by decide +kernel) rfl rfl (fun c h => by cases h) ?_
    (refine st ?_; intros; rename_i q0)
    refine WQ.acted (B := []) (U := .blk q0 (.cells [.int .i64 0, str B.d, str []].toArray 59 (0, 0)) :: .row c cp 59 3 (B.l.map Stp.cs) :: H) rfl (Mem.le.refl _) (fun w h => Pick.sat (by iterate 60 (try (first | exact Pick.all | (apply Pick.take; (· (repeat (first | exact Out.here | apply Out.there)))) | apply Pick.drop))) h) ?_
    refine WE.act1 11 (by decide +kernel) rfl rfl (fun c h => by cases h) ?_
    (refine st ?_; intros; rename_i c2 cp2)
    refine WQ.acted (B := []) (U := .row c2 cp2 59 3 (B.l.map Stp.cs ++ [[.int .i64 0, str B.d, str []]]) :: H) rfl (Mem.le.refl _) (fun w h => Pick.sat (by iterate 60 (try (first | exact Pick.all | (apply Pick.take; (· (repeat (first | exact Out.here | apply Out.there)))) | apply Pick.drop))) h) ?_
    ((try (refine WE.calm 0 (by decide +kernel) rfl rfl (by decide +kernel) rfl (fun c h => by cases h) (by intro zm zF zle; skip; ((repeat (refine sp ?_; intros)); exact WQ.q1 rfl)) ?_)); (try (refine WE.calm 1 (by decide +kernel) rfl rfl (by decide +kernel) rfl (fun c h => by cases h) (by intro zm zF zle; skip; ((repeat (refine sp ?_; intros)); exact WQ.q1 rfl)) ?_)); (try (refine WE.calm 2 (by decide +kernel) rfl rfl (by decide +kernel) rfl (fun c h => by cases h) (by intro zm zF zle; skip; ((repeat (refine sp ?_; intros)); exact WQ.q1 rfl)) ?_)); (try (refine WE.calm 3 (by decide +kernel) rfl rfl (by decide +kernel) rfl (fun c h => by cases h) (by intro zm zF zle; skip; ((repeat (refine sp ?_; intros)); exact WQ.q1 rfl)) ?_)); (try (refine WE.calm 4 (by decide +kernel) rfl rfl (by decide +kernel) rfl (fun c h => by cases h) (by intro zm zF zle; skip; ((repeat (refine sp ?_; intros)); exact WQ.q1 rfl)) ?_)); (try (refine WE.calm 5 (by decide +kernel) rfl rfl (by decide +kernel) rfl (fun c h => by cases h) (by intro zm zF zle; skip; ((repeat (refine sp ?_; intros)); exact WQ.q1 rfl)) ?_)); (try (refine WE.calm 6 (by decide +kernel) rfl rfl (by decide +kernel) rfl (fun c h => by cases h) (by intro zm zF zle; skip; ((repeat (refine sp ?_; intros)); exact WQ.q1 rfl)) ?_)); (try (refine WE.calm 7 (by decide +kernel) rfl rfl (by decide +kernel) rfl (fun c h => by cases h) (by intro zm zF zle; skip; ((repeat (refine sp ?_; intros)); exact WQ.q1 rfl)) ?_)); (try (refine WE.calm 8 (by decide +kernel) rfl rfl (by decide +kernel) rfl (fun c h => by cases h) (by intro zm zF zle; skip; ((repeat (refine sp ?_; intros)); exact WQ.q1 rfl)) ?_)); (try (refine WE.calm 9 (by decide +kernel) rfl rfl (by decide +kernel) rfl (fun c h => by cases h) (by intro zm zF zle; skip; ((repeat (refine sp ?_; intros)); exact WQ.q1 rfl)) ?_)); (try (refine WE.calm 10 (by decide +kernel) rfl rfl (by decide +kernel) rfl (fun c h => by cases h) (by intro zm zF zle; skip; ((repeat (refine sp ?_; intros)); exact WQ.q1 rfl)) ?_)); (try (refine WE.calm 11 (by decide +kernel) rfl rfl (by decide +kernel) rfl (fun c h => by cases h) (by intro zm zF zle; skip; ((repeat (refine sp ?_; intros)); exact WQ.q1 rfl)) ?_)); (try (refine WE.calm 12 (by decide +kernel) rfl rfl (by decide +kernel) rfl (fun c h => by cases h) (by intro zm zF zle; skip; ((repeat (refine sp ?_; intros)); exact WQ.q1 rfl)) ?_)); (try (refine WE.calm 13 (by decide +kernel) rfl rfl (by decide +kernel) rfl (fun c h => by cases h) (by intro zm zF zle; skip; ((repeat (refine sp ?_; intros)); exact WQ.q1 rfl)) ?_)); (try (refine WE.calm 14 (by decide +kernel) rfl rfl (by decide +kernel) rfl (fun c h => by cases h) (by intro zm zF zle; skip; ((repeat (refine sp ?_; intros)); exact WQ.q1 rfl)) ?_)); (try (refine WE.calm 15 (by decide +kernel) rfl rfl (by decide +kernel) rfl (fun c h => by cases h) (by intro zm zF zle; skip; ((repeat (refine sp ?_; intros)); exact WQ.q1 rfl)) ?_)); (try (refine WE.calm 16 (by decide +kernel) rfl rfl (by decide +kernel) rfl (fun c h => by cases h) (by intro zm zF zle; skip; ((repeat (refine sp ?_; intros)); exact WQ.q1 rfl)) ?_)); (try (refine WE.calm 17 (by decide +kernel) rfl rfl (by decide +kernel) rfl (fun c h => by cases h) (by intro zm zF zle; skip; ((repeat (refine sp ?_; intros)); exact WQ.q1 rfl)) ?_)); (try (refine WE.calm 18 (by decide +kernel) rfl rfl (by decide +kernel) rfl (fun c h => by cases h) (by intro zm zF zle; skip; ((repeat (refine sp ?_; intros)); exact WQ.q1 rfl)) ?_)); (try (refine WE.calm 19 (by decide +kernel) rfl rfl (by decide +kernel) rfl (fun c h => by cases h) (by intro zm zF zle; skip; ((repeat (refine sp ?_; intros)); exact WQ.q1 rfl)) ?_)); (try (refine WE.calm 20 (by decide +kernel) rfl rfl (by decide +kernel) rfl (fun c h => by cases h) (by intro zm zF zle; skip; ((repeat (refine sp ?_; intros)); exact WQ.q1 rfl)) ?_)); (try (refine WE.calm 21 (by decide +kernel) rfl rfl (by decide +kernel) rfl (fun c h => by cases h) (by intro zm zF zle; skip; ((repeat (refine sp ?_; intros)); exact WQ.q1 rfl)) ?_)); (try (refine WE.calm 22 (by decide +kernel) rfl rfl (by decide +kernel) rfl (fun c h => by cases h) (by intro zm zF zle; skip; ((repeat (refine sp ?_; intros)); exact WQ.q1 rfl)) ?_)); (try (refine WE.calm 23 (by decide +kernel) rfl rfl (by decide +kernel) rfl (fun c h => by cases h) (by intro zm zF zle; skip; ((repeat (refine sp ?_; intros)); exact WQ.q1 rfl)) ?_)); (try (refine WE.calm 24 (by decide +kernel) rfl rfl (by decide +kernel) rfl (fun c h => by cases h) (by intro zm zF zle; skip; ((repeat (refine sp ?_; intros)); exact WQ.q1 rfl)) ?_)); (try (refine WE.calm 25 (by decide +kernel) rfl rfl (by decide +kernel) rfl (fun c h => by cases h) (by intro zm zF zle; skip; ((repeat (refine sp ?_; intros)); exact WQ.q1 rfl)) ?_)); (try (refine WE.calm 26 (by decide +kernel) rfl rfl (by decide +kernel) rfl (fun c h => by cases h) (by intro zm zF zle; skip; ((repeat (refine sp ?_; intros)); exact WQ.q1 rfl)) ?_)); (try (refine WE.calm 27 (by decide +kernel) rfl rfl (by decide +kernel) rfl (fun c h => by cases h) (by intro zm zF zle; skip; ((repeat (refine sp ?_; intros)); exact WQ.q1 rfl)) ?_)); (try (refine WE.calm 28 (by decide +kernel) rfl rfl (by decide +kernel) rfl (fun c h => by cases h) (by intro zm zF zle; skip; ((repeat (refine sp ?_; intros)); exact WQ.q1 rfl)) ?_)); (try (refine WE.calm 29 (by decide +kernel) rfl rfl (by decide +kernel) rfl (fun c h => by cases h) (by intro zm zF zle; skip; ((repeat (refine sp ?_; intros)); exact WQ.q1 rfl)) ?_)); (try (refine WE.calm 30 (by decide +kernel) rfl rfl (by decide +kernel) rfl (fun c h => by cases h) (by intro zm zF zle; skip; ((repeat (refine sp ?_; intros)); exact WQ.q1 rfl)) ?_)); (try (refine WE.calm 31 (by decide +kernel) rfl rfl (by decide +kernel) rfl (fun c h => by cases h) (by intro zm zF zle; skip; ((repeat (refine sp ?_; intros)); exact WQ.q1 rfl)) ?_)); (try (refine WE.calm 32 (by decide +kernel) rfl rfl (by decide +kernel) rfl (fun c h => by cases h) (by intro zm zF zle; skip; ((repeat (refine sp ?_; intros)); exact WQ.q1 rfl)) ?_)); (try (refine WE.calm 33 (by decide +kernel) rfl rfl (by decide +kernel) rfl (fun c h => by cases h) (by intro zm zF zle; skip; ((repeat (refine sp ?_; intros)); exact WQ.q1 rfl)) ?_)); (try (refine WE.calm 34 (by decide +kernel) rfl rfl (by decide +kernel) rfl (fun c h => by cases h) (by intro zm zF zle; skip; ((repeat (refine sp ?_; intros)); exact WQ.q1 rfl)) ?_)); (try (refine WE.calm 35 (by decide +kernel) rfl rfl (by decide +kernel) rfl (fun c h => by cases h) (by intro zm zF zle; skip; ((repeat (refine sp ?_; intros)); exact WQ.q1 rfl)) ?_)); (try (refine WE.calm 36 (by decide +kernel) rfl rfl (by decide +kernel) rfl (fun c h => by cases h) (by intro zm zF zle; skip; ((repeat (refine sp ?_; intros)); exact WQ.q1 rfl)) ?_)); (try (refine WE.calm 37 (by decide +kernel) rfl rfl (by decide +kernel) rfl (fun c h => by cases h) (by intro zm zF zle; skip; ((repeat (refine sp ?_; intros)); exact WQ.q1 rfl)) ?_)); (try (refine WE.calm 38 (by decide +kernel) rfl rfl (by decide +kernel) rfl (fun c h => by cases h) (by intro zm zF zle; skip; ((repeat (refine sp ?_; intros)); exact WQ.q1 rfl)) ?_)); (try (refine WE.calm 39 (by decide +kernel) rfl rfl (by decide +kernel) rfl (fun c h => by cases h) (by intro zm zF zle; skip; ((repeat (refine sp ?_; intros)); exact WQ.q1 rfl)) ?_)); (try (refine WE.calm 40 (by decide +kernel) rfl rfl (by decide +kernel) rfl (fun c h => by cases h) (by intro zm zF zle; skip; ((repeat (refine sp ?_; intros)); exact WQ.q1 rfl)) ?_)); (try (refine WE.calm 41 (by decide +kernel) rfl rfl (by decide +kernel) rfl (fun c h => by cases h) (by intro zm zF zle; skip; ((repeat (refine sp ?_; intros)); exact WQ.q1 rfl)) ?_)))
    refine WE.done (by decide +kernel) ?_
    (try (refine st ?_; intros))
    rw [hml, hp]
    have e : B.close.l = B.l ++ [⟨0, B.d, []⟩] := by simp [Bld.close, hp, hd]
    exact q_finNorm0 (H0 := .blk b (.cells [.slice c2 (B.l.length + 1) cp2, str [], str []].toArray 98 (0, 0)) :: .row c2 cp2 59 3 (B.l.map Stp.cs ++ [[.int .i64 0, str B.d, str []]]) :: H) ⟨rfl, rfl, c2, cp2, by rw [e]; simp [Stp.cs]⟩ (hd := (fun w h => Pick.sat (by iterate 60 (try (first | exact Pick.all | (apply Pick.take; (· (repeat (first | exact Out.here | apply Out.there)))) | apply Pick.drop))) h))
  · (try (refine st ?_; intros))
    refine WC.drawE 14 ([.blk b (.cells [.slice c B.l.length cp, str B.p, str B.d].toArray 98 (0, 0))]) (.row c cp 59 3 (B.l.map Stp.cs) :: H) rfl (by decide +kernel) (fun w h => Pick.sat (by iterate 60 (try (first | exact Pick.all | (apply Pick.take; (· (repeat (first | exact Out.here | apply Out.there)))) | apply Pick.drop))) h) ?_
    ((try (refine WE.calm 0 (by decide +kernel) rfl rfl (by decide +kernel) rfl (fun c h => by cases h) (by intro zm zF zle; skip; ((repeat (refine sp ?_; intros)); exact WQ.q1 rfl)) ?_)); (try (refine WE.calm 1 (by decide +kernel) rfl rfl (by decide +kernel) rfl (fun c h => by cases h) (by intro zm zF zle; skip; ((repeat (refine sp ?_; intros)); exact WQ.q1 rfl)) ?_)); (try (refine WE.calm 2 (by decide +kernel) rfl rfl (by decide +kernel) rfl (fun c h => by cases h) (by intro zm zF zle; skip; ((repeat (refine sp ?_; intros)); exact WQ.q1 rfl)) ?_)); (try (refine WE.calm 3 (by decide +kernel) rfl rfl (by decide +kernel) rfl (fun c h => by cases h) (by intro zm zF zle; skip; ((repeat (refine sp ?_; intros)); exact WQ.q1 rfl)) ?_)); (try (refine WE.calm 4 (by decide +kernel) rfl rfl (by decide +kernel) rfl (fun c h => by cases h) (by intro zm zF zle; skip; ((repeat (refine sp ?_; intros)); exact WQ.q1 rfl)) ?_)); (try (refine WE.calm 5 (by decide +kernel) rfl rfl (by decide +kernel) rfl (fun c h => by cases h) (by intro zm zF zle; skip; ((repeat (refine sp ?_; intros)); exact WQ.q1 rfl)) ?_)); (try (refine WE.calm 6 (by decide +kernel) rfl rfl (by decide +kernel) rfl (fun c h => by cases h) (by intro zm zF zle; skip; ((repeat (refine sp ?_; intros)); exact WQ.q1 rfl)) ?_)); (try (refine WE.calm 7 (by decide +kernel) rfl rfl (by decide +kernel) rfl (fun c h => by cases h) (by intro zm zF zle; skip; ((repeat (refine sp ?_; intros)); exact WQ.q1 rfl)) ?_)); (try (refine WE.calm 8 (by decide +kernel) rfl rfl (by decide +kernel) rfl (fun c h => by cases h) (by intro zm zF zle; skip; ((repeat (refine sp ?_; intros)); exact WQ.q1 rfl)) ?_)); (try (refine WE.calm 9 (by decide +kernel) rfl rfl (by decide +kernel) rfl (fun c h => by cases h) (by intro zm zF zle; skip; ((repeat (refine sp ?_; intros)); exact WQ.q1 rfl)) ?_)); (try (refine WE.calm 10 (by decide +kernel) rfl rfl (by decide +kernel) rfl (fun c h => by cases h) (by intro zm zF zle; skip; ((repeat (refine sp ?_; intros)); exact WQ.q1 rfl)) ?_)); (try (refine WE.calm 11 (by decide +kernel) rfl rfl (by decide +kernel) rfl (fun c h => by cases h) (by intro zm zF zle; skip; ((repeat (refine sp ?_; intros)); exact WQ.q1 rfl)) ?_)); (try (refine WE.calm 12 (by decide +kernel) rfl rfl (by decide +kernel) rfl (fun c h => by cases h) (by intro zm zF zle; skip; ((repeat (refine sp ?_; intros)); exact WQ.q1 rfl)) ?_)); (try (refine WE.calm 13 (by decide +kernel) rfl rfl (by decide +kernel) rfl (fun c h => by cases h) (by intro zm zF zle; skip; ((repeat (refine sp ?_; intros)); exact WQ.q1 rfl)) ?_)); (try (refine WE.calm 14 (by decide +kernel) rfl rfl (by decide +kernel) rfl (fun c h => by cases h) (by intro zm zF zle; skip; ((repeat (refine sp ?_; intros)); exact WQ.q1 rfl)) ?_)); (try (refine WE.calm 15 (by decide +kernel) rfl rfl (by decide +kernel) rfl (fun c h => by cases h) (by intro zm zF zle; skip; ((repeat (refine sp ?_; intros)); exact WQ.q1 rfl)) ?_)); (try (refine WE.calm 16 (by decide +kernel) rfl rfl (by decide +kernel) rfl (fun c h => by cases h) (by intro zm zF zle; skip; ((repeat (refine sp ?_; intros)); exact WQ.q1 rfl)) ?_)); (try (refine WE.calm 17 (by decide +kernel) rfl rfl (by decide +kernel) rfl (fun c h => by cases h) (by intro zm zF zle; skip; ((repeat (refine sp ?_; intros)); exact WQ.q1 rfl)) ?_)); (try (refine WE.calm 18 (by decide +kernel) rfl rfl (by decide +kernel) rfl (fun c h => by cases h) (by intro zm zF zle; skip; ((repeat (refine sp ?_; intros)); exact WQ.q1 rfl)) ?_)); (try (refine WE.calm 19 (by decide +kernel) rfl rfl (by decide +kernel) rfl (fun c h => by cases h) (by intro zm zF zle; skip; ((repeat (refine sp ?_; intros)); exact WQ.q1 rfl)) ?_)); (try (refine WE.calm 20 (by decide +kernel) rfl rfl (by decide +kernel) rfl (fun c h => by cases h) (by intro zm zF zle; skip; ((repeat (refine sp ?_; intros)); exact WQ.q1 rfl)) ?_)); (try (refine WE.calm 21 (by decide +kernel) rfl rfl (by decide +kernel) rfl (fun c h => by cases h) (by intro zm zF zle; skip; ((repeat (refine sp ?_; intros)); exact WQ.q1 rfl)) ?_)); (try (refine WE.calm 22 (by decide +kernel) rfl rfl (by decide +kernel) rfl (fun c h => by cases h) (by intro zm zF zle; skip; ((repeat (refine sp ?_; intros)); exact WQ.q1 rfl)) ?_)); (try (refine WE.calm 23 (by decide +kernel) rfl rfl (by decide +kernel) rfl (fun c h => by cases h) (by intro zm zF zle; skip; ((repeat (refine sp ?_; intros)); exact WQ.q1 rfl)) ?_)); (try (refine WE.calm 24 (by decide +kernel) rfl rfl (by decide +kernel) rfl (fun c h => by cases h) (by intro zm zF zle; skip; ((repeat (refine sp ?_; intros)); exact WQ.q1 rfl)) ?_)); (try (refine WE.calm 25 (by decide +kernel) rfl rfl (by decide +kernel) rfl (fun c h => by cases h) (by intro zm zF zle; skip; ((repeat (refine sp ?_; intros)); exact WQ.q1 rfl)) ?_)); (try (refine WE.calm 26 (by decide +kernel) rfl rfl (by decide +kernel) rfl (fun c h => by cases h) (by intro zm zF zle; skip; ((repeat (refine sp ?_; intros)); exact WQ.q1 rfl)) ?_)); (try (refine WE.calm 27 (by decide +kernel) rfl rfl (by decide +kernel) rfl (fun c h => by cases h) (by intro zm zF zle; skip; ((repeat (refine sp ?_; intros)); exact WQ.q1 rfl)) ?_)); (try (refine WE.calm 28 (by decide +kernel) rfl rfl (by decide +kernel) rfl (fun c h => by cases h) (by intro zm zF zle; skip; ((repeat (refine sp ?_; intros)); exact WQ.q1 rfl)) ?_)); (try (refine WE.calm 29 (by decide +kernel) rfl rfl (by decide +kernel) rfl (fun c h => by cases h) (by intro zm zF zle; skip; ((repeat (refine sp ?_; intros)); exact WQ.q1 rfl)) ?_)); (try (refine WE.calm 30 (by decide +kernel) rfl rfl (by decide +kernel) rfl (fun c h => by cases h) (by intro zm zF zle; skip; ((repeat (refine sp ?_; intros)); exact WQ.q1 rfl)) ?_)); (try (refine WE.calm 31 (by decide +kernel) rfl rfl (by decide +kernel) rfl (fun c h => by cases h) (by intro zm zF zle; skip; ((repeat (refine sp ?_; intros)); exact WQ.q1 rfl)) ?_)); (try (refine WE.calm 32 (by decide +kernel) rfl rfl (by decide +kernel) rfl (fun c h => by cases h) (by intro zm zF zle; skip; ((repeat (refine sp ?_; intros)); exact WQ.q1 rfl)) ?_)); (try (refine WE.calm 33 (by decide +kernel) rfl rfl (by decide +kernel) rfl (fun c h => by cases h) (by intro zm zF zle; skip; ((repeat (refine sp ?_; intros)); exact WQ.q1 rfl)) ?_)); (try (refine WE.calm 34 (by decide +kernel) rfl rfl (by decide +kernel) rfl (fun c h => by cases h) (by intro zm zF zle; skip; ((repeat (refine sp ?_; intros)); exact WQ.q1 rfl)) ?_)); (try (refine WE.calm 35 (by decide +kernel) rfl rfl (by decide +kernel) rfl (fun c h => by cases h) (by intro zm zF zle; skip; ((repeat (refine sp ?_; intros)); exact WQ.q1 rfl)) ?_)); (try (refine WE.calm 36 (by decide +kernel) rfl rfl (by decide +kernel) rfl (fun c h => by cases h) (by intro zm zF zle; skip; ((repeat (refine sp ?_; intros)); exact WQ.q1 rfl)) ?_)); (try (refine WE.calm 37 (by decide +kernel) rfl rfl (by decide +kernel) rfl (fun c h => by cases h) (by intro zm zF zle; skip; ((repeat (refine sp ?_; intros)); exact WQ.q1 rfl)) ?_)); (try (refine WE.calm 38 (by decide +kernel) rfl rfl (by decide +kernel) rfl (fun c h => by cases h) (by intro zm zF zle; skip; ((repeat (refine sp ?_; intros)); exact WQ.q1 rfl)) ?_)); (try (refine WE.calm 39 (by decide +kernel) rfl rfl (by decide +kernel) rfl (fun c h => by cases h) (by intro zm zF zle; skip; ((repeat (refine sp ?_; intros)); exact WQ.q1 rfl)) ?_)); (try (refine WE.calm 40 (by decide +kernel) rfl rfl (by decide +kernel) rfl (fun c h => by cases h) (by intro zm zF zle; skip; ((repeat (refine sp ?_; intros)); exact WQ.q1 rfl)) ?_)); (try (refine WE.calm 41 (by decide +kernel) rfl rfl (by decide +kernel) rfl (fun c h => by cases h) (by intro zm zF zle; skip; ((repeat (refine sp ?_; intros)); exact WQ.q1 rfl)) ?_)))
    refine WE.act1 10 (by decide +kernel) rfl rfl (fun c h => by cases h) ?_
    (refine st ?_; intros; rename_i q0)
    refine WQ.acted (B := []) (U := .blk q0 (.cells [.int .i64 0, str [], str B.p].toArray 59 (0, 0)) :: .row c cp 59 3 (B.l.map Stp.cs) :: H) rfl (Mem.le.refl _) (fun w h => Pick.sat (by iterate 60 (try (first | exact Pick.all | (apply Pick.take; (· (repeat (first | exact Out.here | apply Out.there)))) | apply Pick.drop))) h) ?_
    refine WE.act1 11 (by decide +kernel) rfl rfl (fun c h => by cases h) ?_
    (refine st ?_; intros; rename_i c2 cp2)
    refine WQ.acted (B := []) (U := .row c2 cp2 59 3 (B.l.map Stp.cs ++ [[.int .i64 0, str [], str B.p]]) :: H) rfl (Mem.le.refl _) (fun w h => Pick.sat (by iterate 60 (try (first | exact Pick.all | (apply Pick.take; (· (repeat (first | exact Out.here | apply Out.there)))) | apply Pick.drop))) h) ?_
    ((try (refine WE.calm 0 (by decide +kernel) rfl rfl (by decide +kernel) rfl (fun c h => by cases h) (by intro zm zF zle; skip; ((repeat (refine sp ?_; intros)); exact WQ.q1 rfl)) ?_)); (try (refine WE.calm 1 (by decide +kernel) rfl rfl (by decide +kernel) rfl (fun c h => by cases h) (by intro zm zF zle; skip; ((repeat (refine sp ?_; intros)); exact WQ.q1 rfl)) ?_)); (try (refine WE.calm 2 (by decide +kernel) rfl rfl (by decide +kernel) rfl (fun c h => by cases h) (by intro zm zF zle; skip; ((repeat (refine sp ?_; intros)); exact WQ.q1 rfl)) ?_)); (try (refine WE.calm 3 (by decide +kernel) rfl rfl (by decide +kernel) rfl (fun c h => by cases h) (by intro zm zF zle; skip; ((repeat (refine sp ?_; intros)); exact WQ.q1 rfl)) ?_)); (try (refine WE.calm 4 (by decide +kernel) rfl rfl (by decide +kernel) rfl (fun c h => by cases h) (by intro zm zF zle; skip; ((repeat (refine sp ?_; intros)); exact WQ.q1 rfl)) ?_)); (try (refine WE.calm 5 (by decide +kernel) rfl rfl (by decide +kernel) rfl (fun c h => by cases h) (by intro zm zF zle; skip; ((repeat (refine sp ?_; intros)); exact WQ.q1 rfl)) ?_)); (try (refine WE.calm 6 (by decide +kernel) rfl rfl (by decide +kernel) rfl (fun c h => by cases h) (by intro zm zF zle; skip; ((repeat (refine sp ?_; intros)); exact WQ.q1 rfl)) ?_)); (try (refine WE.calm 7 (by decide +kernel) rfl rfl (by decide +kernel) rfl (fun c h => by cases h) (by intro zm zF zle; skip; ((repeat (refine sp ?_; intros)); exact WQ.q1 rfl)) ?_)); (try (refine WE.calm 8 (by decide +kernel) rfl rfl (by decide +kernel) rfl (fun c h => by cases h) (by intro zm zF zle; skip; ((repeat (refine sp ?_; intros)); exact WQ.q1 rfl)) ?_)); (try (refine WE.calm 9 (by decide +kernel) rfl rfl (by decide +kernel) rfl (fun c h => by cases h) (by intro zm zF zle; skip; ((repeat (refine sp ?_; intros)); exact WQ.q1 rfl)) ?_)); (try (refine WE.calm 10 (by decide +kernel) rfl rfl (by decide +kernel) rfl (fun c h => by cases h) (by intro zm zF zle; skip; ((repeat (refine sp ?_; intros)); exact WQ.q1 rfl)) ?_)); (try (refine WE.calm 11 (by decide +kernel) rfl rfl (by decide +kernel) rfl (fun c h => by cases h) (by intro zm zF zle; skip; ((repeat (refine sp ?_; intros)); exact WQ.q1 rfl)) ?_)); (try (refine WE.calm 12 (by decide +kernel) rfl rfl (by decide +kernel) rfl (fun c h => by cases h) (by intro zm zF zle; skip; ((repeat (refine sp ?_; intros)); exact WQ.q1 rfl)) ?_)); (try (refine WE.calm 13 (by decide +kernel) rfl rfl (by decide +kernel) rfl (fun c h => by cases h) (by intro zm zF zle; skip; ((repeat (refine sp ?_; intros)); exact WQ.q1 rfl)) ?_)); (try (refine WE.calm 14 (by decide +kernel) rfl rfl (by decide +kernel) rfl (fun c h => by cases h) (by intro zm zF zle; skip; ((repeat (refine sp ?_; intros)); exact WQ.q1 rfl)) ?_)); (try (refine WE.calm 15 (by decide +kernel) rfl rfl (by decide +kernel) rfl (fun c h => by cases h) (by intro zm zF zle; skip; ((repeat (refine sp ?_; intros)); exact WQ.q1 rfl)) ?_)); (try (refine WE.calm 16 (by decide +kernel) rfl rfl (by decide +kernel) rfl (fun c h => by cases h) (by intro zm zF zle; skip; ((repeat (refine sp ?_; intros)); exact WQ.q1 rfl)) ?_)); (try (refine WE.calm 17 (by decide +kernel) rfl rfl (by decide +kernel) rfl (fun c h => by cases h) (by intro zm zF zle; skip; ((repeat (refine sp ?_; intros)); exact WQ.q1 rfl)) ?_)); (try (refine WE.calm 18 (by decide +kernel) rfl rfl (by decide +kernel) rfl (fun c h => by cases h) (by intro zm zF zle; skip; ((repeat (refine sp ?_; intros)); exact WQ.q1 rfl)) ?_)); (try (refine WE.calm 19 (by decide +kernel) rfl rfl (by decide +kernel) rfl (fun c h => by cases h) (by intro zm zF zle; skip; ((repeat (refine sp ?_; intros)); exact WQ.q1 rfl)) ?_)); (try (refine WE.calm 20 (by decide +kernel) rfl rfl (by decide +kernel) rfl (fun c h => by cases h) (by intro zm zF zle; skip; ((repeat (refine sp ?_; intros)); exact WQ.q1 rfl)) ?_)); (try (refine WE.calm 21 (by decide +kernel) rfl rfl (by decide +kernel) rfl (fun c h => by cases h) (by intro zm zF zle; skip; ((repeat (refine sp ?_; intros)); exact WQ.q1 rfl)) ?_)); (try (refine WE.calm 22 (by decide +kernel) rfl rfl (by decide +kernel) rfl (fun c h => by cases h) (by intro zm zF zle; skip; ((repeat (refine sp ?_; intros)); exact WQ.q1 rfl)) ?_)); (try (refine WE.calm 23 (by decide +kernel) rfl rfl (by decide +kernel) rfl (fun c h => by cases h) (by intro zm zF zle; skip; ((repeat (refine sp ?_; intros)); exact WQ.q1 rfl)) ?_)); (try (refine WE.calm 24 (by decide +kernel) rfl rfl (by decide +kernel) rfl (fun c h => by cases h) (by intro zm zF zle; skip; ((repeat (refine sp ?_; intros)); exact WQ.q1 rfl)) ?_)); (try (refine WE.calm 25 (by decide +kernel) rfl rfl (by decide +kernel) rfl (fun c h => by cases h) (by intro zm zF zle; skip; ((repeat (refine sp ?_; intros)); exact WQ.q1 rfl)) ?_)); (try (refine WE.calm 26 (by decide +kernel) rfl rfl (by decide +kernel) rfl (fun c h => by cases h) (by intro zm zF zle; skip; ((repeat (refine sp ?_; intros)); exact WQ.q1 rfl)) ?_)); (try (refine WE.calm 27 (by decide +kernel) rfl rfl (by decide +kernel) rfl (fun c h => by cases h) (by intro zm zF zle; skip; ((repeat (refine sp ?_; intros)); exact WQ.q1 rfl)) ?_)); (try (refine WE.calm 28 (by decide +kernel) rfl rfl (by decide +kernel) rfl (fun c h => by cases h) (by intro zm zF zle; skip; ((repeat (refine sp ?_; intros)); exact WQ.q1 rfl)) ?_)); (try (refine WE.calm 29 (by decide +kernel) rfl rfl (by decide +kernel) rfl (fun c h => by cases h) (by intro zm zF zle; skip; ((repeat (refine sp ?_; intros)); exact WQ.q1 rfl)) ?_)); (try (refine WE.calm 30 (by decide +kernel) rfl rfl (by decide +kernel) rfl (fun c h => by cases h) (by intro zm zF zle; skip; ((repeat (refine sp ?_; intros)); exact WQ.q1 rfl)) ?_)); (try (refine WE.calm 31 (by decide +kernel) rfl rfl (by decide +kernel) rfl (fun c h => by cases h) (by intro zm zF zle; skip; ((repeat (refine sp ?_; intros)); exact WQ.q1 rfl)) ?_)); (try (refine WE.calm 32 (by decide +kernel) rfl rfl (by decide +kernel) rfl (fun c h => by cases h) (by intro zm zF zle; skip; ((repeat (refine sp ?_; intros)); exact WQ.q1 rfl)) ?_)); (try (refine WE.calm 33 (by decide +kernel) rfl rfl (by decide +kernel) rfl (fun c h => by cases h) (by intro zm zF zle; skip; ((repeat (refine sp ?_; intros)); exact WQ.q1 rfl)) ?_)); (try (refine WE.calm 34 (by decide +kernel) rfl rfl (by decide +kernel) rfl (fun c h => by cases h) (by intro zm zF zle; skip; ((repeat (refine sp ?_; intros)); exact WQ.q1 rfl)) ?_)); (try (refine WE.calm 35 (by decide +kernel) rfl rfl (by decide +kernel) rfl (fun c h => by cases h) (by intro zm zF zle; skip; ((repeat (refine sp ?_; intros)); exact WQ.q1 rfl)) ?_)); (try (refine WE.calm 36 (by decide +kernel) rfl rfl (by decide +kernel) rfl (fun c h => by cases h) (by intro zm zF zle; skip; ((repeat (refine sp ?_; intros)); exact WQ.q1 rfl)) ?_)); (try (refine WE.calm 37 (by decide +kernel) rfl rfl (by decide +kernel) rfl (fun c h => by cases h) (by intro zm zF zle; skip; ((repeat (refine sp ?_; intros)); exact WQ.q1 rfl)) ?_)); (try (refine WE.calm 38 (by decide +kernel) rfl rfl (by decide +kernel) rfl (fun c h => by cases h) (by intro zm zF zle; skip; ((repeat (refine sp ?_; intros)); exact WQ.q1 rfl)) ?_)); (try (refine WE.calm 39 (by decide +kernel) rfl rfl (by decide +kernel) rfl (fun c h => by cases h) (by intro zm zF zle; skip; ((repeat (refine sp ?_; intros)); exact WQ.q1 rfl)) ?_)); (try (refine WE.calm 40 (by decide +kernel) rfl rfl (by decide +kernel) rfl (fun c h => by cases h) (by intro zm zF zle; skip; ((repeat (refine sp ?_; intros)); exact WQ.q1 rfl)) ?_)); (try (refine WE.calm 41 (by decide +kernel) rfl rfl (by decide +kernel) rfl (fun c h => by cases h) (by intro zm zF zle; skip; ((repeat (refine sp ?_; intros)); exact WQ.q1 rfl)) ?_)))
    refine WE.done (by decide +kernel) ?_
    (try (refine st ?_; intros))
    rw [hml, hd]
    have e : B.close.l = B.l ++ [⟨0, [], B.p⟩] := by simp [Bld.close, hp, hd]
    exact q_finNorm0 (H0 := .blk b (.cells [.slice c2 (B.l.length + 1) cp2, str [], str []].toArray 98 (0, 0)) :: .row c2 cp2 59 3 (B.l.map Stp.cs ++ [[.int .i64 0, str [], str B.p]]) :: H) ⟨rfl, rfl, c2, cp2, by rw [e]; simp [Stp.cs]⟩ (hd := (fun w h => Pick.sat (by iterate 60 (try (first | exact Pick.all | (apply Pick.take; (· (repeat (first | exact Out.here | apply Out.there)))) | apply Pick.drop))) h))
  · have hml1 : (B.l.map Stp.cs ++ [[.int .i64 0, str [], str B.p]]).length = B.l.length + 1 := by simp
    (try (refine st ?_; intros))
    refine WC.drawE 14 ([.blk b (.cells [.slice c B.l.length cp, str B.p, str B.d].toArray 98 (0, 0))]) (.row c cp 59 3 (B.l.map Stp.cs) :: H) rfl (by decide +kernel) (fun w h => Pick.sat (by iterate 60 (try (first | exact Pick.all | (apply Pick.take; (· (repeat (first | exact Out.here | apply Out.there)))) | apply Pick.drop))) h) ?_
    ((try (refine WE.calm 0 (by decide +kernel) rfl rfl (by decide +kernel) rfl (fun c h => by cases h) (by intro zm zF zle; skip; ((repeat (refine sp ?_; intros)); exact WQ.q1 rfl)) ?_)); (try (refine WE.calm 1 (by decide +kernel) rfl rfl (by decide +kernel) rfl (fun c h => by cases h) (by intro zm zF zle; skip; ((repeat (refine sp ?_; intros)); exact WQ.q1 rfl)) ?_)); (try (refine WE.calm 2 (by decide +kernel) rfl rfl (by decide +kernel) rfl (fun c h => by cases h) (by intro zm zF zle; skip; ((repeat (refine sp ?_; intros)); exact WQ.q1 rfl)) ?_)); (try (refine WE.calm 3 (by decide +kernel) rfl rfl (by decide +kernel) rfl (fun c h => by cases h) (by intro zm zF zle; skip; ((repeat (refine sp ?_; intros)); exact WQ.q1 rfl)) ?_)); (try (refine WE.calm 4 (by decide +kernel) rfl rfl (by decide +kernel) rfl (fun c h => by cases h) (by intro zm zF zle; skip; ((repeat (refine sp ?_; intros)); exact WQ.q1 rfl)) ?_)); (try (refine WE.calm 5 (by decide +kernel) rfl rfl (by decide +kernel) rfl (fun c h => by cases h) (by intro zm zF zle; skip; ((repeat (refine sp ?_; intros)); exact WQ.q1 rfl)) ?_)); (try (refine WE.calm 6 (by decide +kernel) rfl rfl (by decide +kernel) rfl (fun c h => by cases h) (by intro zm zF zle; skip; ((repeat (refine sp ?_; intros)); exact WQ.q1 rfl)) ?_)); (try (refine WE.calm 7 (by decide +kernel) rfl rfl (by decide +kernel) rfl (fun c h => by cases h) (by intro zm zF zle; skip; ((repeat (refine sp ?_; intros)); exact WQ.q1 rfl)) ?_)); (try (refine WE.calm 8 (by decide +kernel) rfl rfl (by decide +kernel) rfl (fun c h => by cases h) (by intro zm zF zle; skip; ((repeat (refine sp ?_; intros)); exact WQ.q1 rfl)) ?_)); (try (refine WE.calm 9 (by decide +kernel) rfl rfl (by decide +kernel) rfl (fun c h => by cases h) (by intro zm zF zle; skip; ((repeat (refine sp ?_; intros)); exact WQ.q1 rfl)) ?_)); (try (refine WE.calm 10 (by decide +kernel) rfl rfl (by decide +kernel) rfl (fun c h => by cases h) (by intro zm zF zle; skip; ((repeat (refine sp ?_; intros)); exact WQ.q1 rfl)) ?_)); (try (refine WE.calm 11 (by decide +kernel) rfl rfl (by decide +kernel) rfl (fun c h => by cases h) (by intro zm zF zle; skip; ((repeat (refine sp ?_; intros)); exact WQ.q1 rfl)) ?_)); (try (refine WE.calm 12 (by decide +kernel) rfl rfl (by decide +kernel) rfl (fun c h => by cases h) (by intro zm zF zle; skip; ((repeat (refine sp ?_; intros)); exact WQ.q1 rfl)) ?_)); (try (refine WE.calm 13 (by decide +kernel) rfl rfl (by decide +kernel) rfl (fun c h => by cases h) (by intro zm zF zle; skip; ((repeat (refine sp ?_; intros)); exact WQ.q1 rfl)) ?_)); (try (refine WE.calm 14 (by decide +kernel) rfl rfl (by decide +kernel) rfl (fun c h => by cases h) (by intro zm zF zle; skip; ((repeat (refine sp ?_; intros)); exact WQ.q1 rfl)) ?_)); (try (refine WE.calm 15 (by decide +kernel) rfl rfl (by decide +kernel) rfl (fun c h => by cases h) (by intro zm zF zle; skip; ((repeat (refine sp ?_; intros)); exact WQ.q1 rfl)) ?_)); (try (refine WE.calm 16 (by decide +kernel) rfl rfl (by decide +kernel) rfl (fun c h => by cases h) (by intro zm zF zle; skip; ((repeat (refine sp ?_; intros)); exact WQ.q1 rfl)) ?_)); (try (refine WE.calm 17 (by decide +kernel) rfl rfl (by decide +kernel) rfl (fun c h => by cases h) (by intro zm zF zle; skip; ((repeat (refine sp ?_; intros)); exact WQ.q1 rfl)) ?_)); (try (refine WE.calm 18 (by decide +kernel) rfl rfl (by decide +kernel) rfl (fun c h => by cases h) (by intro zm zF zle; skip; ((repeat (refine sp ?_; intros)); exact WQ.q1 rfl)) ?_)); (try (refine WE.calm 19 (by decide +kernel) rfl rfl (by decide +kernel) rfl (fun c h => by cases h) (by intro zm zF zle; skip; ((repeat (refine sp ?_; intros)); exact WQ.q1 rfl)) ?_)); (try (refine WE.calm 20 (by decide +kernel) rfl rfl (by decide +kernel) rfl (fun c h => by cases h) (by intro zm zF zle; skip; ((repeat (refine sp ?_; intros)); exact WQ.q1 rfl)) ?_)); (try (refine WE.calm 21 (by decide +kernel) rfl rfl (by decide +kernel) rfl (fun c h => by cases h) (by intro zm zF zle; skip; ((repeat (refine sp ?_; intros)); exact WQ.q1 rfl)) ?_)); (try (refine WE.calm 22 (by decide +kernel) rfl rfl (by decide +kernel) rfl (fun c h => by cases h) (by intro zm zF zle; skip; ((repeat (refine sp ?_; intros)); exact WQ.q1 rfl)) ?_)); (try (refine WE.calm 23 (by decide +kernel) rfl rfl (by decide +kernel) rfl (fun c h => by cases h) (by intro zm zF zle; skip; ((repeat (refine sp ?_; intros)); exact WQ.q1 rfl)) ?_)); (try (refine WE.calm 24 (by decide +kernel) rfl rfl (by decide +kernel) rfl (fun c h => by cases h) (by intro zm zF zle; skip; ((repeat (refine sp ?_; intros)); exact WQ.q1 rfl)) ?_)); (try (refine WE.calm 25 (by decide +kernel) rfl rfl (by decide +kernel) rfl (fun c h => by cases h) (by intro zm zF zle; skip; ((repeat (refine sp ?_; intros)); exact WQ.q1 rfl)) ?_)); (try (refine WE.calm 26 (by decide +kernel) rfl rfl (by decide +kernel) rfl (fun c h => by cases h) (by intro zm zF zle; skip; ((repeat (refine sp ?_; intros)); exact WQ.q1 rfl)) ?_)); (try (refine WE.calm 27 (by decide +kernel) rfl rfl (by decide +kernel) rfl (fun c h => by cases h) (by intro zm zF zle; skip; ((repeat (refine sp ?_; intros)); exact WQ.q1 rfl)) ?_)); (try (refine WE.calm 28 (by decide +kernel) rfl rfl (by decide +kernel) rfl (fun c h => by cases h) (by intro zm zF zle; skip; ((repeat (refine sp ?_; intros)); exact WQ.q1 rfl)) ?_)); (try (refine WE.calm 29 (by decide +kernel) rfl rfl (by decide +kernel) rfl (fun c h => by cases h) (by intro zm zF zle; skip; ((repeat (refine sp ?_; intros)); exact WQ.q1 rfl)) ?_)); (try (refine WE.calm 30 (by decide +kernel) rfl rfl (by decide +kernel) rfl (fun c h => by cases h) (by intro zm zF zle; skip; ((repeat (refine sp ?_; intros)); exact WQ.q1 rfl)) ?_)); (try (refine WE.calm 31 (by decide +kernel) rfl rfl (by decide +kernel) rfl (fun c h => by cases h) (by intro zm zF zle; skip; ((repeat (refine sp ?_; intros)); exact WQ.q1 rfl)) ?_)); (try (refine WE.calm 32 (by decide +kernel) rfl rfl (by decide +kernel) rfl (fun c h => by cases h) (by intro zm zF zle; skip; ((repeat (refine sp ?_; intros)); exact WQ.q1 rfl)) ?_)); (try (refine WE.calm 33 (by decide +kernel) rfl rfl (by decide +kernel) rfl (fun c h => by cases h) (by intro zm zF zle; skip; ((repeat (refine sp ?_; intros)); exact WQ.q1 rfl)) ?_)); (try (refine WE.calm 34 (by decide +kernel) rfl rfl (by decide +kernel) rfl (fun c h => by cases h) (by intro zm zF zle; skip; ((repeat (refine sp ?_; intros)); exact WQ.q1 rfl)) ?_)); (try (refine WE.calm 35 (by decide +kernel) rfl rfl (by decide +kernel) rfl (fun c h => by cases h) (by intro zm zF zle; skip; ((repeat (refine sp ?_; intros)); exact WQ.q1 rfl)) ?_)); (try (refine WE.calm 36 (by decide +kernel) rfl rfl (by decide +kernel) rfl (fun c h => by cases h) (by intro zm zF zle; skip; ((repeat (refine sp ?_; intros)); exact WQ.q1 rfl)) ?_)); (try (refine WE.calm 37 (by decide +kernel) rfl rfl (by decide +kernel) rfl (fun c h => by cases h) (by intro zm zF zle; skip; ((repeat (refine sp ?_; intros)); exact WQ.q1 rfl)) ?_)); (try (refine WE.calm 38 (by decide +kernel) rfl rfl (by decide +kernel) rfl (fun c h => by cases h) (by intro zm zF zle; skip; ((repeat (refine sp ?_; intros)); exact WQ.q1 rfl)) ?_)); (try (refine WE.calm 39 (by decide +kernel) rfl rfl (by decide +kernel) rfl (fun c h => by cases h) (by intro zm zF zle; skip; ((repeat (refine sp ?_; intros)); exact WQ.q1 rfl)) ?_)); (try (refine WE.calm 40 (by decide +kernel) rfl rfl (by decide +kernel) rfl (fun c h => by cases h) (by intro zm zF zle; skip; ((repeat (refine sp ?_; intros)); exact WQ.q1 rfl)) ?_)); (try (refine WE.calm 41 (by decide +kernel) rfl rfl (by decide +kernel) rfl (fun c h => by cases h) (by intro zm zF zle; skip; ((repeat (refine sp ?_; intros)); exact WQ.q1 rfl)) ?_)))
    refine WE.act1 10 (by decide +kernel) rfl rfl (fun c h => by cases h) ?_
    (refine st ?_; intros; rename_i q0)
    refine WQ.acted (B := []) (U := .blk q0 (.cells [.int .i64 0, str [], str B.p].toArray 59 (0, 0)) :: .row c cp 59 3 (B.l.map Stp.cs) :: H) rfl (Mem.le.refl _) (fun w h => Pick.sat (by iterate 60 (try (first | exact Pick.all | (apply Pick.take; (· (repeat (first | exact Out.here | apply Out.there)))) | apply Pick.drop))) h) ?_
    refine WE.act1 11 (by decide +kernel) rfl rfl (fun c h => by cases h) ?_
    (refine st ?_; intros; rename_i c2 cp2)
    refine WQ.acted (B := []) (U := .row c2 cp2 59 3 (B.l.map Stp.cs ++ [[.int .i64 0, str [], str B.p]]) :: H) rfl (Mem.le.refl _) (fun w h => Pick.sat (by iterate 60 (try (first | exact Pick.all | (apply Pick.take; (· (repeat (first | exact Out.here | apply Out.there)))) | apply Pick.drop))) h) ?_
    ((try (refine WE.calm 0 (by decide +kernel) rfl rfl (by decide +kernel) rfl (fun c h => by cases h) (by intro zm zF zle; skip; ((repeat (refine sp ?_; intros)); exact WQ.q1 rfl)) ?_)); (try (refine WE.calm 1 (by decide +kernel) rfl rfl (by decide +kernel) rfl (fun c h => by cases h) (by intro zm zF zle; skip; ((repeat (refine sp ?_; intros)); exact WQ.q1 rfl)) ?_)); (try (refine WE.calm 2 (by decide +kernel) rfl rfl (by decide +kernel) rfl (fun c h => by cases h) (by intro zm zF zle; skip; ((repeat (refine sp ?_; intros)); exact WQ.q1 rfl)) ?_)); (try (refine WE.calm 3 (by decide +kernel) rfl rfl (by decide +kernel) rfl (fun c h => by cases h) (by intro zm zF zle; skip; ((repeat (refine sp ?_; intros)); exact WQ.q1 rfl)) ?_)); (try (refine WE.calm 4 (by decide +kernel) rfl rfl (by decide +kernel) rfl (fun c h => by cases h) (by intro zm zF zle; skip; ((repeat (refine sp ?_; intros)); exact WQ.q1 rfl)) ?_)); (try (refine WE.calm 5 (by decide +kernel) rfl rfl (by decide +kernel) rfl (fun c h => by cases h) (by intro zm zF zle; skip; ((repeat (refine sp ?_; intros)); exact WQ.q1 rfl)) ?_)); (try (refine WE.calm 6 (by decide +kernel) rfl rfl (by decide +kernel) rfl (fun c h => by cases h) (by intro zm zF zle; skip; ((repeat (refine sp ?_; intros)); exact WQ.q1 rfl)) ?_)); (try (refine WE.calm 7 (by decide +kernel) rfl rfl (by decide +kernel) rfl (fun c h => by cases h) (by intro zm zF zle; skip; ((repeat (refine sp ?_; intros)); exact WQ.q1 rfl)) ?_)); (try (refine WE.calm 8 (by decide +kernel) rfl rfl (by decide +kernel) rfl (fun c h => by cases h) (by intro zm zF zle; skip; ((repeat (refine sp ?_; intros)); exact WQ.q1 rfl)) ?_)); (try (refine WE.calm 9 (by decide +kernel) rfl rfl (by decide +kernel) rfl (fun c h => by cases h) (by intro zm zF zle; skip; ((repeat (refine sp ?_; intros)); exact WQ.q1 rfl)) ?_)); (try (refine WE.calm 10 (by decide +kernel) rfl rfl (by decide +kernel) rfl (fun c h => by cases h) (by intro zm zF zle; skip; ((repeat (refine sp ?_; intros)); exact WQ.q1 rfl)) ?_)); (try (refine WE.calm 11 (by decide +kernel) rfl rfl (by decide +kernel) rfl (fun c h => by cases h) (by intro zm zF zle; skip; ((repeat (refine sp ?_; intros)); exact WQ.q1 rfl)) ?_)); (try (refine WE.calm 12 (by decide +kernel) rfl rfl (by decide +kernel) rfl (fun c h => by cases h) (by intro zm zF zle; skip; ((repeat (refine sp ?_; intros)); exact WQ.q1 rfl)) ?_)); (try (refine WE.calm 13 (by decide +kernel) rfl rfl (by decide +kernel) rfl (fun c h => by cases h) (by intro zm zF zle; skip; ((repeat (refine sp ?_; intros)); exact WQ.q1 rfl)) ?_)); (try (refine WE.calm 14 (by decide +kernel) rfl rfl (by decide +kernel) rfl (fun c h => by cases h) (by intro zm zF zle; skip; ((repeat (refine sp ?_; intros)); exact WQ.q1 rfl)) ?_)); (try (refine WE.calm 15 (by decide +kernel) rfl rfl (by decide +kernel) rfl (fun c h => by cases h) (by intro zm zF zle; skip; ((repeat (refine sp ?_; intros)); exact WQ.q1 rfl)) ?_)); (try (refine WE.calm 16 (by decide +kernel) rfl rfl (by decide +kernel) rfl (fun c h => by cases h) (by intro zm zF zle; skip; ((repeat (refine sp ?_; intros)); exact WQ.q1 rfl)) ?_)); (try (refine WE.calm 17 (by decide +kernel) rfl rfl (by decide +kernel) rfl (fun c h => by cases h) (by intro zm zF zle; skip; ((repeat (refine sp ?_; intros)); exact WQ.q1 rfl)) ?_)); (try (refine WE.calm 18 (by decide +kernel) rfl rfl (by decide +kernel) rfl (fun c h => by cases h) (by intro zm zF zle; skip; ((repeat (refine sp ?_; intros)); exact WQ.q1 rfl)) ?_)); (try (refine WE.calm 19 (by decide +kernel) rfl rfl (by decide +kernel) rfl (fun c h => by cases h) (by intro zm zF zle; skip; ((repeat (refine sp ?_; intros)); exact WQ.q1 rfl)) ?_)); (try (refine WE.calm 20 (by decide +kernel) rfl rfl (by decide +kernel) rfl (fun c h => by cases h) (by intro zm zF zle; skip; ((repeat (refine sp ?_; intros)); exact WQ.q1 rfl)) ?_)); (try (refine WE.calm 21 (by decide +kernel) rfl rfl (by decide +kernel) rfl (fun c h => by cases h) (by intro zm zF zle; skip; ((repeat (refine sp ?_; intros)); exact WQ.q1 rfl)) ?_)); (try (refine WE.calm 22 (by decide +kernel) rfl rfl (by decide +kernel) rfl (fun c h => by cases h) (by intro zm zF zle; skip; ((repeat (refine sp ?_; intros)); exact WQ.q1 rfl)) ?_)); (try (refine WE.calm 23 (by decide +kernel) rfl rfl (by decide +kernel) rfl (fun c h => by cases h) (by intro zm zF zle; skip; ((repeat (refine sp ?_; intros)); exact WQ.q1 rfl)) ?_)); (try (refine WE.calm 24 (by decide +kernel) rfl rfl (by decide +kernel) rfl (fun c h => by cases h) (by intro zm zF zle; skip; ((repeat (refine sp ?_; intros)); exact WQ.q1 rfl)) ?_)); (try (refine WE.calm 25 (by decide +kernel) rfl rfl (by decide +kernel) rfl (fun c h => by cases h) (by intro zm zF zle; skip; ((repeat (refine sp ?_; intros)); exact WQ.q1 rfl)) ?_)); (try (refine WE.calm 26 (by decide +kernel) rfl rfl (by decide +kernel) rfl (fun c h => by cases h) (by intro zm zF zle; skip; ((repeat (refine sp ?_; intros)); exact WQ.q1 rfl)) ?_)); (try (refine WE.calm 27 (by decide +kernel) rfl rfl (by decide +kernel) rfl (fun c h => by cases h) (by intro zm zF zle; skip; ((repeat (refine sp ?_; intros)); exact WQ.q1 rfl)) ?_)); (try (refine WE.calm 28 (by decide +kernel) rfl rfl (by decide +kernel) rfl (fun c h => by cases h) (by intro zm zF zle; skip; ((repeat (refine sp ?_; intros)); exact WQ.q1 rfl)) ?_)); (try (refine WE.calm 29 (by decide +kernel) rfl rfl (by decide +kernel) rfl (fun c h => by cases h) (by intro zm zF zle; skip; ((repeat (refine sp ?_; intros)); exact WQ.q1 rfl)) ?_)); (try (refine WE.calm 30 (by decide +kernel) rfl rfl (by decide +kernel) rfl (fun c h => by cases h) (by intro zm zF zle; skip; ((repeat (refine sp ?_; intros)); exact WQ.q1 rfl)) ?_)); (try (refine WE.calm 31 (by decide +kernel) rfl rfl (by decide +kernel) rfl (fun c h => by cases h) (by intro zm zF zle; skip; ((repeat (refine sp ?_; intros)); exact WQ.q1 rfl)) ?_)); (try (refine WE.calm 32 (by decide +kernel) rfl rfl (by decide +kernel) rfl (fun c h => by cases h) (by intro zm zF zle; skip; ((repeat (refine sp ?_; intros)); exact WQ.q1 rfl)) ?_)); (try (refine WE.calm 33 (by decide +kernel) rfl rfl (by decide +kernel) rfl (fun c h => by cases h) (by intro zm zF zle; skip; ((repeat (refine sp ?_; intros)); exact WQ.q1 rfl)) ?_)); (try (refine WE.calm 34 (by decide +kernel) rfl rfl (by decide +kernel) rfl (fun c h => by cases h) (by intro zm zF zle; skip; ((repeat (refine sp ?_; intros)); exact WQ.q1 rfl)) ?_)); (try (refine WE.calm 35 (by decide +kernel) rfl rfl (by decide +kernel) rfl (fun c h => by cases h) (by intro zm zF zle; skip; ((repeat (refine sp ?_; intros)); exact WQ.q1 rfl)) ?_)); (try (refine WE.calm 36 (by decide +kernel) rfl rfl (by decide +kernel) rfl (fun c h => by cases h) (by intro zm zF zle; skip; ((repeat (refine sp ?_; intros)); exact WQ.q1 rfl)) ?_)); (try (refine WE.calm 37 (by decide +kernel) rfl rfl (by decide +kernel) rfl (fun c h => by cases h) (by intro zm zF zle; skip; ((repeat (refine sp ?_; intros)); exact WQ.q1 rfl)) ?_)); (try (refine WE.calm 38 (by decide +kernel) rfl rfl (by decide +kernel) rfl (fun c h => by cases h) (by intro zm zF zle; skip; ((repeat (refine sp ?_; intros)); exact WQ.q1 rfl)) ?_)); (try (refine WE.calm 39 (by decide +kernel) rfl rfl (by decide +kernel) rfl (fun c h => by cases h) (by intro zm zF zle; skip; ((repeat (refine sp ?_; intros)); exact WQ.q1 rfl)) ?_)); (try (refine WE.calm 40 (by decide +kernel) rfl rfl (by decide +kernel) rfl (fun c h => by cases h) (by intro zm zF zle; skip; ((repeat (refine sp ?_; intros)); exact WQ.q1 rfl)) ?_)); (try (refine WE.calm 41 (by decide +kernel) rfl rfl (by decide +kernel) rfl (fun c h => by cases h) (by intro zm zF zle; skip; ((repeat (refine sp ?_; intros)); exact WQ.q1 rfl)) ?_)))
    refine WE.done (by decide +kernel) ?_
    (try (refine st ?_; intros))
    rw [hml]
    refine WC.drawE 14 ([.blk b (.cells [.slice c2 (B.l.length + 1) cp2, str B.p, str B.d].toArray 98 (0, 0))]) (.row c2 cp2 59 3 (B.l.map Stp.cs ++ [[.int .i64 0, str [], str B.p]]) :: H) rfl (by decide +kernel) (fun w h => Pick.sat (by iterate 60 (try (first | exact Pick.all | (apply Pick.take; (· (repeat (first | exact Out.here | apply Out.there)))) | apply Pick.drop))) h) ?_
    ((try (refine WE.calm 0 (by decide +kernel) rfl rfl (by decide +kernel) rfl (fun c h => by cases h) (by intro zm zF zle; skip; ((repeat (refine sp ?_; intros)); exact WQ.q1 rfl)) ?_)); (try (refine WE.calm 1 (by decide +kernel) rfl rfl (by decide +kernel) rfl (fun c h => by cases h) (by intro zm zF zle; skip; ((repeat (refine sp ?_; intros)); exact WQ.q1 rfl)) ?_)); (try (refine WE.calm 2 (by decide +kernel) rfl rfl (by decide +kernel) rfl (fun c h => by cases h) (by intro zm zF zle; skip; ((repeat (refine sp ?_; intros)); exact WQ.q1 rfl)) ?_)); (try (refine WE.calm 3 (by decide +kernel) rfl rfl (by decide +kernel) rfl (fun c h => by cases h) (by intro zm zF zle; skip; ((repeat (refine sp ?_; intros)); exact WQ.q1 rfl)) ?_)); (try (refine WE.calm 4 (by decide +kernel) rfl rfl (by decide +kernel) rfl (fun c h => by cases h) (by intro zm zF zle; skip; ((repeat (refine sp ?_; intros)); exact WQ.q1 rfl)) ?_)); (try (refine WE.calm 5 (by decide +kernel) rfl rfl (by decide +kernel) rfl (fun c h => by cases h) (by intro zm zF zle; skip; ((repeat (refine sp ?_; intros)); exact WQ.q1 rfl)) ?_)); (try (refine WE.calm 6 (by decide +kernel) rfl rfl (by decide +kernel) rfl (fun c h => by cases h) (by intro zm zF zle; skip; ((repeat (refine sp ?_; intros)); exact WQ.q1 rfl)) ?_)); (try (refine WE.calm 7 (by decide +kernel) rfl rfl (by decide +kernel) rfl (fun c h => by cases h) (by intro zm zF zle; skip; ((repeat (refine sp ?_; intros)); exact WQ.q1 rfl)) ?_)); (try (refine WE.calm 8 (by decide +kernel) rfl rfl (by decide +kernel) rfl (fun c h => by cases h) (by intro zm zF zle; skip; ((repeat (refine sp ?_; intros)); exact WQ.q1 rfl)) ?_)); (try (refine WE.calm 9 (by decide +kernel) rfl rfl (by decide +kernel) rfl (fun c h => by cases h) (by intro zm zF zle; skip; ((repeat (refine sp ?_; intros)); exact WQ.q1 rfl)) ?_)); (try (refine WE.calm 10 (by decide +kernel) rfl rfl (by decide +kernel) rfl (fun c h => by cases h) (by intro zm zF zle; skip; ((repeat (refine sp ?_; intros)); exact WQ.q1 rfl)) ?_)); (try (refine WE.calm 11 (by decide +kernel) rfl rfl (by decide +kernel) rfl (fun c h => by cases h) (by intro zm zF zle; skip; ((repeat (refine sp ?_; intros)); exact WQ.q1 rfl)) ?_)); (try (refine WE.calm 12 (by decide +kernel) rfl rfl (by decide +kernel) rfl (fun c h => by cases h) (by intro zm zF zle; skip; ((repeat (refine sp ?_; intros)); exact WQ.q1 rfl)) ?_)); (try (refine WE.calm 13 (by decide +kernel) rfl rfl (by decide +kernel) rfl (fun c h => by cases h) (by intro zm zF zle; skip; ((repeat (refine sp ?_; intros)); exact WQ.q1 rfl)) ?_)); (try (refine WE.calm 14 (by decide +kernel) rfl rfl (by decide +kernel) rfl (fun c h => by cases h) (by intro zm zF zle; skip; ((repeat (refine sp ?_; intros)); exact WQ.q1 rfl)) ?_)); (try (refine WE.calm 15 (by decide +kernel) rfl rfl (by decide +kernel) rfl (fun c h => by cases h) (by intro zm zF zle; skip; ((repeat (refine sp ?_; intros)); exact WQ.q1 rfl)) ?_)); (try (refine WE.calm 16 (by decide +kernel) rfl rfl (by decide +kernel) rfl (fun c h => by cases h) (by intro zm zF zle; skip; ((repeat (refine sp ?_; intros)); exact WQ.q1 rfl)) ?_)); (try (refine WE.calm 17 (by decide +kernel) rfl rfl (by decide +kernel) rfl (fun c h => by cases h) (by intro zm zF zle; skip; ((repeat (refine sp ?_; intros)); exact WQ.q1 rfl)) ?_)); (try (refine WE.calm 18 (by decide +kernel) rfl rfl (by decide +kernel) rfl (fun c h => by cases h) (by intro zm zF zle; skip; ((repeat (refine sp ?_; intros)); exact WQ.q1 rfl)) ?_)); (try (refine WE.calm 19 (by decide +kernel) rfl rfl (by decide +kernel) rfl (fun c h => by cases h) (by intro zm zF zle; skip; ((repeat (refine sp ?_; intros)); exact WQ.q1 rfl)) ?_)); (try (refine WE.calm 20 (by decide +kernel) rfl rfl (by decide +kernel) rfl (fun c h => by cases h) (by intro zm zF zle; skip; ((repeat (refine sp ?_; intros)); exact WQ.q1 rfl)) ?_)); (try (refine WE.calm 21 (by decide +kernel) rfl rfl (by decide +kernel) rfl (fun c h => by cases h) (by intro zm zF zle; skip; ((repeat (refine sp ?_; intros)); exact WQ.q1 rfl)) ?_)); (try (refine WE.calm 22 (by decide +kernel) rfl rfl (by decide +kernel) rfl (fun c h => by cases h) (by intro zm zF zle; skip; ((repeat (refine sp ?_; intros)); exact WQ.q1 rfl)) ?_)); (try (refine WE.calm 23 (by decide +kernel) rfl rfl (by decide +kernel) rfl (fun c h => by cases h) (by intro zm zF zle; skip; ((repeat (refine sp ?_; intros)); exact WQ.q1 rfl)) ?_)); (try (refine WE.calm 24 (by decide +kernel) rfl rfl (by decide +kernel) rfl (fun c h => by cases h) (by intro zm zF zle; skip; ((repeat (refine sp ?_; intros)); exact WQ.q1 rfl)) ?_)); (try (refine WE.calm 25 (by decide +kernel) rfl rfl (by decide +kernel) rfl (fun c h => by cases h) (by intro zm zF zle; skip; ((repeat (refine sp ?_; intros)); exact WQ.q1 rfl)) ?_)); (try (refine WE.calm 26 (by decide +kernel) rfl rfl (by decide +kernel) rfl (fun c h => by cases h) (by intro zm zF zle; skip; ((repeat (refine sp ?_; intros)); exact WQ.q1 rfl)) ?_)); (try (refine WE.calm 27 (by decide +kernel) rfl rfl (by decide +kernel) rfl (fun c h => by cases h) (by intro zm zF zle; skip; ((repeat (refine sp ?_; intros)); exact WQ.q1 rfl)) ?_)); (try (refine WE.calm 28 (by decide +kernel) rfl rfl (by decide +kernel) rfl (fun c h => by cases h) (by intro zm zF zle; skip; ((repeat (refine sp ?_; intros)); exact WQ.q1 rfl)) ?_)); (try (refine WE.calm 29 (by decide +kernel) rfl rfl (by decide +kernel) rfl (fun c h => by cases h) (by intro zm zF zle; skip; ((repeat (refine sp ?_; intros)); exact WQ.q1 rfl)) ?_)); (try (refine WE.calm 30 (by decide +kernel) rfl rfl (by decide +kernel) rfl (fun c h => by cases h) (by intro zm zF zle; skip; ((repeat (refine sp ?_; intros)); exact WQ.q1 rfl)) ?_)); (try (refine WE.calm 31 (by decide +kernel) rfl rfl (by decide +kernel) rfl (fun c h => by cases h) (by intro zm zF zle; skip; ((repeat (refine sp ?_; intros)); exact WQ.q1 rfl)) ?_)); (try (refine WE.calm 32 (by decide +kernel) rfl rfl (by decide +kernel) rfl (fun c h => by cases h) (by intro zm zF zle; skip; ((repeat (refine sp ?_; intros)); exact WQ.q1 rfl)) ?_)); (try (refine WE.calm 33 (by decide +kernel) rfl rfl (by decide +kernel) rfl (fun c h => by cases h) (by intro zm zF zle; skip; ((repeat (refine sp ?_; intros)); exact WQ.q1 rfl)) ?_)); (try (refine WE.calm 34 (by decide +kernel) rfl rfl (by decide +kernel) rfl (fun c h => by cases h) (by intro zm zF zle; skip; ((repeat (refine sp ?_; intros)); exact WQ.q1 rfl)) ?_)); (try (refine WE.calm 35 (by decide +kernel) rfl rfl (by decide +kernel) rfl (fun c h => by cases h) (by intro zm zF zle; skip; ((repeat (refine sp ?_; intros)); exact WQ.q1 rfl)) ?_)); (try (refine WE.calm 36 (by decide +kernel) rfl rfl (by decide +kernel) rfl (fun c h => by cases h) (by intro zm zF zle; skip; ((repeat (refine sp ?_; intros)); exact WQ.q1 rfl)) ?_)); (try (refine WE.calm 37 (by decide +kernel) rfl rfl (by decide +kernel) rfl (fun c h => by cases h) (by intro zm zF zle; skip; ((repeat (refine sp ?_; intros)); exact WQ.q1 rfl)) ?_)); (try (refine WE.calm 38 (by decide +kernel) rfl rfl (by decide +kernel) rfl (fun c h => by cases h) (by intro zm zF zle; skip; ((repeat (refine sp ?_; intros)); exact WQ.q1 rfl)) ?_)); (try (refine WE.calm 39 (by decide +kernel) rfl rfl (by decide +kernel) rfl (fun c h => by cases h) (by intro zm zF zle; skip; ((repeat (refine sp ?_; intros)); exact WQ.q1 rfl)) ?_)); (try (refine WE.calm 40 (by decide +kernel) rfl rfl (by decide +kernel) rfl (fun c h => by cases h) (by intro zm zF zle; skip; ((repeat (refine sp ?_; intros)); exact WQ.q1 rfl)) ?_)); (try (refine WE.calm 41 (by decide +kernel) rfl rfl (by decide +kernel) rfl (fun c h => by cases h) (by intro zm zF zle; skip; ((repeat (refine sp ?_; intros)); exact WQ.q1 rfl)) ?_)))
    refine WE.act1 10 (by decide +kernel) rfl rfl (fun c h => by cases h) ?_
    (refine st ?_; intros; rename_i q0)
    refine WQ.acted (B := []) (U := .blk q0 (.cells [.int .i64 0, str B.d, str []].toArray 59 (0, 0)) :: .row c2 cp2 59 3 (B.l.map Stp.cs ++ [[.int .i64 0, str [], str B.p]]) :: H) rfl (Mem.le.refl _) (fun w h => Pick.sat (by iterate 60 (try (first | exact Pick.all | (apply Pick.take; (· (repeat (first | exact Out.here | apply Out.there)))) | apply Pick.drop))) h) ?_
    refine WE.act1 11 (by decide +kernel) rfl rfl (fun c h => by cases h) ?_
    (refine st ?_; intros; rename_i c3 cp3)
    refine WQ.acted (B := []) (U := .row c3 cp3 59 3 (B.l.map Stp.cs ++ [[.int .i64 0, str [], str B.p]] ++ [[.int .i64 0, str B.d, str []]]) :: H) rfl (Mem.le.refl _) (fun w h => Pick.sat (by iterate 60 (try (first | exact Pick.all | (apply Pick.take; (· (repeat (first | exact Out.here | apply Out.there)))) | apply Pick.drop))) h) ?_
    ((try (refine WE.calm 0 (by decide +kernel) rfl rfl (by decide +kernel) rfl (fun c h => by cases h) (by intro zm zF zle; skip; ((repeat (refine sp ?_; intros)); exact WQ.q1 rfl)) ?_)); (try (refine WE.calm 1 (by decide +kernel) rfl rfl (by decide +kernel) rfl (fun c h => by cases h) (by intro zm zF zle; skip; ((repeat (refine sp ?_; intros)); exact WQ.q1 rfl)) ?_)); (try (refine WE.calm 2 (by decide +kernel) rfl rfl (by decide +kernel) rfl (fun c h => by cases h) (by intro zm zF zle; skip; ((repeat (refine sp ?_; intros)); exact WQ.q1 rfl)) ?_)); (try (refine WE.calm 3 (by decide +kernel) rfl rfl (by decide +kernel) rfl (fun c h => by cases h) (by intro zm zF zle; skip; ((repeat (refine sp ?_; intros)); exact WQ.q1 rfl)) ?_)); (try (refine WE.calm 4 (by decide +kernel) rfl rfl (by decide +kernel) rfl (fun c h => by cases h) (by intro zm zF zle; skip; ((repeat (refine sp ?_; intros)); exact WQ.q1 rfl)) ?_)); (try (refine WE.calm 5 (by decide +kernel) rfl rfl (by decide +kernel) rfl (fun c h => by cases h) (by intro zm zF zle; skip; ((repeat (refine sp ?_; intros)); exact WQ.q1 rfl)) ?_)); (try (refine WE.calm 6 (by decide +kernel) rfl rfl (by decide +kernel) rfl (fun c h => by cases h) (by intro zm zF zle; skip; ((repeat (refine sp ?_; intros)); exact WQ.q1 rfl)) ?_)); (try (refine WE.calm 7 (by decide +kernel) rfl rfl (by decide +kernel) rfl (fun c h => by cases h) (by intro zm zF zle; skip; ((repeat (refine sp ?_; intros)); exact WQ.q1 rfl)) ?_)); (try (refine WE.calm 8 (by decide +kernel) rfl rfl (by decide +kernel) rfl (fun c h => by cases h) (by intro zm zF zle; skip; ((repeat (refine sp ?_; intros)); exact WQ.q1 rfl)) ?_)); (try (refine WE.calm 9 (by decide +kernel) rfl rfl (by decide +kernel) rfl (fun c h => by cases h) (by intro zm zF zle; skip; ((repeat (refine sp ?_; intros)); exact WQ.q1 rfl)) ?_)); (try (refine WE.calm 10 (by decide +kernel) rfl rfl (by decide +kernel) rfl (fun c h => by cases h) (by intro zm zF zle; skip; ((repeat (refine sp ?_; intros)); exact WQ.q1 rfl)) ?_)); (try (refine WE.calm 11 (by decide +kernel) rfl rfl (by decide +kernel) rfl (fun c h => by cases h) (by intro zm zF zle; skip; ((repeat (refine sp ?_; intros)); exact WQ.q1 rfl)) ?_)); (try (refine WE.calm 12 (by decide +kernel) rfl rfl (by decide +kernel) rfl (fun c h => by cases h) (by intro zm zF zle; skip; ((repeat (refine sp ?_; intros)); exact WQ.q1 rfl)) ?_)); (try (refine WE.calm 13 (by decide +kernel) rfl rfl (by decide +kernel) rfl (fun c h => by cases h) (by intro zm zF zle; skip; ((repeat (refine sp ?_; intros)); exact WQ.q1 rfl)) ?_)); (try (refine WE.calm 14 (by decide +kernel) rfl rfl (by decide +kernel) rfl (fun c h => by cases h) (by intro zm zF zle; skip; ((repeat (refine sp ?_; intros)); exact WQ.q1 rfl)) ?_)); (try (refine WE.calm 15 (by decide +kernel) rfl rfl (by decide +kernel) rfl (fun c h => by cases h) (by intro zm zF zle; skip; ((repeat (refine sp ?_; intros)); exact WQ.q1 rfl)) ?_)); (try (refine WE.calm 16 (by decide +kernel) rfl rfl (by decide +kernel) rfl (fun c h => by cases h) (by intro zm zF zle; skip; ((repeat (refine sp ?_; intros)); exact WQ.q1 rfl)) ?_)); (try (refine WE.calm 17 (by decide +kernel) rfl rfl (by decide +kernel) rfl (fun c h => by cases h) (by intro zm zF zle; skip; ((repeat (refine sp ?_; intros)); exact WQ.q1 rfl)) ?_)); (try (refine WE.calm 18 (by decide +kernel) rfl rfl (by decide +kernel) rfl (fun c h => by cases h) (by intro zm zF zle; skip; ((repeat (refine sp ?_; intros)); exact WQ.q1 rfl)) ?_)); (try (refine WE.calm 19 (by decide +kernel) rfl rfl (by decide +kernel) rfl (fun c h => by cases h) (by intro zm zF zle; skip; ((repeat (refine sp ?_; intros)); exact WQ.q1 rfl)) ?_)); (try (refine WE.calm 20 (by decide +kernel) rfl rfl (by decide +kernel) rfl (fun c h => by cases h) (by intro zm zF zle; skip; ((repeat (refine sp ?_; intros)); exact WQ.q1 rfl)) ?_)); (try (refine WE.calm 21 (by decide +kernel) rfl rfl (by decide +kernel) rfl (fun c h => by cases h) (by intro zm zF zle; skip; ((repeat (refine sp ?_; intros)); exact WQ.q1 rfl)) ?_)); (try (refine WE.calm 22 (by decide +kernel) rfl rfl (by decide +kernel) rfl (fun c h => by cases h) (by intro zm zF zle; skip; ((repeat (refine sp ?_; intros)); exact WQ.q1 rfl)) ?_)); (try (refine WE.calm 23 (by decide +kernel) rfl rfl (by decide +kernel) rfl (fun c h => by cases h) (by intro zm zF zle; skip; ((repeat (refine sp ?_; intros)); exact WQ.q1 rfl)) ?_)); (try (refine WE.calm 24 (by decide +kernel) rfl rfl (by decide +kernel) rfl (fun c h => by cases h) (by intro zm zF zle; skip; ((repeat (refine sp ?_; intros)); exact WQ.q1 rfl)) ?_)); (try (refine WE.calm 25 (by decide +kernel) rfl rfl (by decide +kernel) rfl (fun c h => by cases h) (by intro zm zF zle; skip; ((repeat (refine sp ?_; intros)); exact WQ.q1 rfl)) ?_)); (try (refine WE.calm 26 (by decide +kernel) rfl rfl (by decide +kernel) rfl (fun c h => by cases h) (by intro zm zF zle; skip; ((repeat (refine sp ?_; intros)); exact WQ.q1 rfl)) ?_)); (try (refine WE.calm 27 (by decide +kernel) rfl rfl (by decide +kernel) rfl (fun c h => by cases h) (by intro zm zF zle; skip; ((repeat (refine sp ?_; intros)); exact WQ.q1 rfl)) ?_)); (try (refine WE.calm 28 (by decide +kernel) rfl rfl (by decide +kernel) rfl (fun c h => by cases h) (by intro zm zF zle; skip; ((repeat (refine sp ?_; intros)); exact WQ.q1 rfl)) ?_)); (try (refine WE.calm 29 (by decide +kernel) rfl rfl (by decide +kernel) rfl (fun c h => by cases h) (by intro zm zF zle; skip; ((repeat (refine sp ?_; intros)); exact WQ.q1 rfl)) ?_)); (try (refine WE.calm 30 (by decide +kernel) rfl rfl (by decide +kernel) rfl (fun c h => by cases h) (by intro zm zF zle; skip; ((repeat (refine sp ?_; intros)); exact WQ.q1 rfl)) ?_)); (try (refine WE.calm 31 (by decide +kernel) rfl rfl (by decide +kernel) rfl (fun c h => by cases h) (by intro zm zF zle; skip; ((repeat (refine sp ?_; intros)); exact WQ.q1 rfl)) ?_)); (try (refine WE.calm 32 (by decide +kernel) rfl rfl (by decide +kernel) rfl (fun c h => by cases h) (by intro zm zF zle; skip; ((repeat (refine sp ?_; intros)); exact WQ.q1 rfl)) ?_)); (try (refine WE.calm 33 (by decide +kernel) rfl rfl (by decide +kernel) rfl (fun c h => by cases h) (by intro zm zF zle; skip; ((repeat (refine sp ?_; intros)); exact WQ.q1 rfl)) ?_)); (try (refine WE.calm 34 (by decide +kernel) rfl rfl (by decide +kernel) rfl (fun c h => by cases h) (by intro zm zF zle; skip; ((repeat (refine sp ?_; intros)); exact WQ.q1 rfl)) ?_)); (try (refine WE.calm 35 (by decide +kernel) rfl rfl (by decide +kernel) rfl (fun c h => by cases h) (by intro zm zF zle; skip; ((repeat (refine sp ?_; intros)); exact WQ.q1 rfl)) ?_)); (try (refine WE.calm 36 (by decide +kernel) rfl rfl (by decide +kernel) rfl (fun c h => by cases h) (by intro zm zF zle; skip; ((repeat (refine sp ?_; intros)); exact WQ.q1 rfl)) ?_)); (try (refine WE.calm 37 (by decide +kernel) rfl rfl (by decide +kernel) rfl (fun c h => by cases h) (by intro zm zF zle; skip; ((repeat (refine sp ?_; intros)); exact WQ.q1 rfl)) ?_)); (try (refine WE.calm 38 (by decide +kernel) rfl rfl (by decide +kernel) rfl (fun c h => by cases h) (by intro zm zF zle; skip; ((repeat (refine sp ?_; intros)); exact WQ.q1 rfl)) ?_)); (try (refine WE.calm 39 (by decide +kernel) rfl rfl (by decide +kernel) rfl (fun c h => by cases h) (by intro zm zF zle; skip; ((repeat (refine sp ?_; intros)); exact WQ.q1 rfl)) ?_)); (try (refine WE.calm 40 (by decide +kernel) rfl rfl (by decide +kernel) rfl (fun c h => by cases h) (by intro zm zF zle; skip; ((repeat (refine sp ?_; intros)); exact WQ.q1 rfl)) ?_)); (try (refine WE.calm 41 (by decide +kernel) rfl rfl (by decide +kernel) rfl (fun c h => by cases h) (by intro zm zF zle; skip; ((repeat (refine sp ?_; intros)); exact WQ.q1 rfl)) ?_)))
    refine WE.done (by decide +kernel) ?_
    (try (refine st ?_; intros))
    rw [hml1]
    have e : B.close.l = B.l ++ [⟨0, [], B.p⟩] ++ [⟨0, B.d, []⟩] := by simp [Bld.close, hp, hd]
    exact q_finNorm0 (H0 := .blk b (.cells [.slice c3 (B.l.length + 1 + 1) cp3, str [], str []].toArray 98 (0, 0)) :: .row c3 cp3 59 3 (B.l.map Stp.cs ++ [[.int .i64 0, str [], str B.p]] ++ [[.int .i64 0, str B.d, str []]]) :: H) ⟨rfl, rfl, c3, cp3, by rw [e]; simp [Stp.cs]⟩ (hd := (fun w h => Pick.sat (by iterate 60 (try (first | exact Pick.all | (apply Pick.take; (· (repeat (first | exact Out.here | apply Out.there)))) | apply Pick.drop))) h))
end Go.Proofs.Ytelgegefmjlimaa

/-
  Plain facts on changes: how large a builder grows. No condition.
-/
namespace Go.Eng
open Go
/-- no number of it is above N -/
structure BFit (N : Nat) (B : Bld) : Prop where
  len : B.l.length ≤ N
  k : ∀ s ∈ B.l, 0 ≤ s.k ∧ s.k ≤ N
  p : B.p.length ≤ N
  d : B.d.length ≤ N
theorem BFit.mono {N M : Nat} {B : Bld} (h : BFit N B) (hm : N ≤ M) : BFit M B :=
  ⟨by have := h.len; omega, fun s hs => by have := h.k s hs; omega, by have := h.p; omega, by have := h.d; omega⟩
theorem BFit.start : BFit 0 Bld.start := ⟨Nat.le_refl _, fun s hs => by simp [Bld.start] at hs, Nat.le_refl _, Nat.le_refl _⟩
theorem BFit.close {N : Nat} {B : Bld} (h : BFit N B) : BFit (N + 2) B.close := by
  refine ⟨?_, fun s hs => ?_, by simp [Bld.close], by simp [Bld.close]⟩
  · have := h.len
    unfold Bld.close
    split <;> split <;> simp <;> omega
  · unfold Bld.close at hs
    simp only [List.mem_append] at hs
    rcases hs with (hs | hs) | hs
    · have := h.k s hs; omega
    · split at hs <;> simp at hs; subst hs; simp; omega
    · split at hs <;> simp at hs; subst hs; simp; omega
theorem addKeep_k {N : Nat} {l : List Stp} {n : Nat} (h : ∀ s ∈ l, 0 ≤ s.k ∧ s.k ≤ N) : (∀ s ∈ addKeep l n, 0 ≤ s.k ∧ s.k ≤ ((N + n : Nat) : Int)) ∧ (addKeep l n).length ≤ l.length + 1 := by
  unfold addKeep
  cases hl : l.getLast? with
  | none => simp; omega
  | some s =>
    obtain ⟨ys, e⟩ := List.getLast?_eq_some_iff.1 hl
    have hs := h s (by rw [e]; simp)
    have e2 : l.dropLast = ys := by rw [e]; simp
    simp only [e2]
    split
    · refine ⟨fun x hx => ?_, by rw [e]; simp⟩
      simp only [List.mem_append, List.mem_singleton] at hx
      rcases hx with hx | rfl
      · have := h x (by rw [e]; simp [hx]); omega
      · simp; omega
    · refine ⟨fun x hx => ?_, by simp⟩
      simp only [List.mem_append, List.mem_singleton] at hx
      rcases hx with hx | rfl
      · have := h x hx; omega
      · simp; omega
theorem BFit.keep {N n : Nat} {B : Bld} (h : BFit N B) : BFit (N + n + 3) (B.keep n) := by
  unfold Bld.keep
  split
  · exact h.mono (by omega)
  · have hc := h.close
    obtain ⟨h1, h2⟩ := addKeep_k (n := n) hc.k
    exact ⟨by have := hc.len; simp only; omega, fun s hs => by have := h1 s hs; omega, by simp, by simp⟩
theorem BFit.atom {N : Nat} {B : Bld} (h : BFit N B) (a : Atm) : BFit (N + 4) (B.atom a) := by
  cases a with
  | k => exact h.keep (n := 1)
  | d c => exact ⟨by have := h.len; simp only [Bld.atom]; omega, fun s hs => by have := h.k s hs; omega, by have := h.p; simp only [Bld.atom]; omega, by have := h.d; simp [Bld.atom]; omega⟩
  | p c => exact ⟨by have := h.len; simp only [Bld.atom]; omega, fun s hs => by have := h.k s hs; omega, by have := h.p; simp [Bld.atom]; omega, by have := h.d; simp only [Bld.atom]; omega⟩
theorem BFit.run : ∀ (l : List Atm) {N : Nat} {B : Bld}, BFit N B → BFit (N + 4 * l.length) (B.run l)
  | [], _, _, h => h
  | a :: l, N, B, h => by
    have := BFit.run l (h.atom a)
    exact this.mono (by simp; omega)
theorem BFit.runs (l : List Atm) : BFit (4 * l.length) (Bld.start.run l) := (BFit.run l BFit.start).mono (by omega)
theorem atoms_len (s : Stp) : s.atoms.length = s.k.toNat + s.d.length + s.p.length := by simp [Stp.atoms]; omega
theorem atoms_le : ∀ l : List Atm, l.length ≤ fromA l + toA l
  | [] => Nat.le_refl _
  | .k :: l => by have := atoms_le l; simp only [fromA, toA, List.length_cons]; omega
  | .d _ :: l => by have := atoms_le l; simp only [fromA, toA, List.length_cons]; omega
  | .p _ :: l => by have := atoms_le l; simp only [fromA, toA, List.length_cons]; omega
theorem steps_le : ∀ l : List Stp, (∀ s ∈ l, stpOk s) → l.length ≤ (atomsOf l).length
  | [], _ => Nat.le_refl _
  | s :: l, h => by
    have := steps_le l (fun x hx => h x (List.mem_cons_of_mem _ hx))
    have h1 : 1 ≤ s.atoms.length := by
      rw [atoms_len]
      rcases h s List.mem_cons_self with ⟨h, _, _⟩ | ⟨_, h, _⟩ | ⟨_, _, h⟩
      · omega
      · have := List.length_pos_iff.2 h; omega
      · have := List.length_pos_iff.2 h; omega
    rw [atoms_cons, List.length_append, List.length_cons]; omega
theorem snoc_cases {α : Type} (l : List α) : l = [] ∨ ∃ ys s, l = ys ++ [s] := by
  rcases List.eq_nil_or_concat l with h | ⟨ys, s, h⟩
  · exact .inl h
  · exact .inr ⟨ys, s, by simpa using h⟩
end Go.Eng

/-
  The walks of package edit, sixth part: the builder's keep, step and done. No condition.
-/
namespace Go.Proofs.Ytelgegefmjlimaa
open Go Go.Eng
set_option maxRecDepth 100000
set_option maxHeartbeats 4000000
set_option linter.all false
attribute [local irreducible] WL WC WQ QFun QLoop Does Q1 QRound QAssign Go.Addr.add
theorem keep_any {b : Nat} {c : Option Addr} {cp : Nat} (B : Bld) (n : Nat) (hn : n ≤ 100000000000) (hB : BFit 100000000000 B) (w0 : World) (m : Mem) (H : SHeap) :
    Does Try.prog 55 #[.pointer (some ⟨b, 0, none⟩), .int .i64 (n : Int)] w0 m (.blk b (.cells [.slice c B.l.length cp, str B.p, str B.d].toArray 98 (0, 0)) :: .row c cp 59 3 (B.l.map Stp.cs) :: H)
      (fun v m' H' => v = .tuple #[] ∧ m' = m ∧ ∃ c' cp', H' = .blk b (.cells [.slice c' (B.keep n).l.length cp', str (B.keep n).p, str (B.keep n).d].toArray 98 (0, 0)) :: .row c' cp' 59 3 ((B.keep n).l.map Stp.cs) :: H) := by
  refine Does.of_body (args := [.pointer (some ⟨b, 0, none⟩), .int .i64 (n : Int)]) Try.func55 rfl Try.ntmps55 rfl ?_
  have hlen := hB.len
  by_cases h0 : n = 0
  · subst h0
    (try (refine st ?_; intros))
    exact q_fin0 (H0 := .blk b (.cells [.slice c B.l.length cp, str B.p, str B.d].toArray 98 (0, 0)) :: .row c cp 59 3 (B.l.map Stp.cs) :: H) ⟨rfl, rfl, c, cp, rfl⟩ (hd := (fun w h => Pick.sat (by iterate 60 (try (first | exact Pick.all | (apply Pick.take; (· (repeat (first | exact Out.here | apply Out.there)))) | apply Pick.drop))) h))
  · (try (refine st ?_; intros))
    refine w_callF Try.func72 ?_ (hs := close_any B (by omega) _ _ _)
    rintro v m1 H1 ⟨rfl, rfl, c1, cp1, rfl⟩
    have hkeep : B.keep n = ⟨addKeep B.close.l n, [], []⟩ := by unfold Bld.keep; rw [if_neg (by omega)]
    have hc := hB.close
    rw [hkeep]
    have hcl := hc.len
    have hck := hc.k
    generalize B.close.l = L at *
    have hml : (L.map Stp.cs).length = L.length := by simp
    rcases snoc_cases L with hL | ⟨ys, s, hL⟩
    · have hl0 : L.length = 0 := by rw [hL]; rfl
      (refine st ?_; intros; rename_i x2 c2 cp2)
      rw [hml]
      have e : addKeep L n = L ++ [⟨n, [], []⟩] := by rw [hL]; rfl
      exact q_finNorm0 (H0 := .blk b (.cells [.slice c2 (L.length + 1) cp2, str [], str []].toArray 98 (0, 0)) :: .row c2 cp2 59 3 (L.map Stp.cs ++ [[.int .i64 n, str [], str []]]) :: H) ⟨rfl, rfl, c2, cp2, by rw [e]; simp [Stp.cs]⟩ (hd := (fun w h => Pick.sat (by iterate 60 (try (first | exact Pick.all | (apply Pick.take; (· (repeat (first | exact Out.here | apply Out.there)))) | apply Pick.drop))) h))
    · have hl1 : L.length = ys.length + 1 := by rw [hL]; simp
      have hget : (L.map Stp.cs)[L.length - 1]? = some s.cs := by rw [hL]; simp
      have hsk := hck s (by rw [hL]; simp)
      refine WL.rowSome (a := c1) (by (repeat (first | exact List.Mem.head _ | apply List.Mem.tail))) (by omega) ?_
      rintro c0 rfl
      by_cases hs : 0 < s.k
      · (try (refine st ?_; intros))
        have e : (addKeep L n).length = L.length ∧ (addKeep L n).map Stp.cs = (L.map Stp.cs).set (L.length - 1) [.int .i64 (s.k + n), str s.d, str s.p] := by
          rw [hL]; constructor <;> simp [addKeep, hs, Stp.cs]
        exact q_fin0 (H0 := .blk b (.cells [.slice (some c0) L.length cp1, str [], str []].toArray 98 (0, 0)) :: .row (some c0) cp1 59 3 ((L.map Stp.cs).set (L.length - 1) [.int .i64 (s.k + n), str s.d, str s.p]) :: H) ⟨rfl, rfl, some c0, cp1, by rw [e.1, e.2]⟩ (hd := (fun w h => Pick.sat (by iterate 60 (try (first | exact Pick.all | (apply Pick.take; (· (repeat (first | exact Out.here | apply Out.there)))) | apply Pick.drop))) h))
      · (refine st ?_; intros; rename_i x2 c2 cp2)
        rw [hml]
        have e : addKeep L n = L ++ [⟨n, [], []⟩] := by rw [hL]; simp [addKeep, hs]
        exact q_finNorm0 (H0 := .blk b (.cells [.slice c2 (L.length + 1) cp2, str [], str []].toArray 98 (0, 0)) :: .row c2 cp2 59 3 (L.map Stp.cs ++ [[.int .i64 n, str [], str []]]) :: H) ⟨rfl, rfl, c2, cp2, by rw [e]; simp [Stp.cs]⟩ (hd := (fun w h => Pick.sat (by iterate 60 (try (first | exact Pick.all | (apply Pick.take; (· (repeat (first | exact Out.here | apply Out.there)))) | apply Pick.drop))) h))
end Go.Proofs.Ytelgegefmjlimaa

/-
  The walks of package edit, eighth part: the builder's step and done, the one form of a change. No condition.
-/
namespace Go.Eng
def Stp.v (s : Stp) : Value := .agg #[.int .i64 s.k, str s.d, str s.p]
end Go.Eng
namespace Go.Proofs.Ytelgegefmjlimaa
open Go Go.Eng
set_option maxRecDepth 100000
set_option maxHeartbeats 4000000
set_option linter.all false
attribute [local irreducible] WL WC WQ QFun QLoop Does Q1 QRound QAssign Go.Addr.add
theorem step_any {b : Nat} {c : Option Addr} {cp : Nat} (B : Bld) (s : Stp) (hk : s.k ≤ 100000000000) (hd : s.d.length ≤ 100000000000) (hp : s.p.length ≤ 100000000000) (hB : BFit 100000000000 B) (w0 : World) (m : Mem) (H : SHeap) :
    Does Try.prog 45 #[.pointer (some ⟨b, 0, none⟩), s.v] w0 m (.blk b (.cells [.slice c B.l.length cp, str B.p, str B.d].toArray 98 (0, 0)) :: .row c cp 59 3 (B.l.map Stp.cs) :: H)
      (fun v m' H' => v = .tuple #[] ∧ m' = m ∧ ∃ c' cp', H' = .blk b (.cells [.slice c' (B.step s).l.length cp', str (B.step s).p, str (B.step s).d].toArray 98 (0, 0)) :: .row c' cp' 59 3 ((B.step s).l.map Stp.cs) :: H) := by
  refine Does.of_body (args := [.pointer (some ⟨b, 0, none⟩), .agg #[.int .i64 s.k, str s.d, str s.p]]) Try.func45 rfl Try.ntmps45 rfl ?_
  have h1 := hB.p
  have h2 := hB.d
  by_cases h0 : 0 < s.k
  · obtain ⟨n, hn⟩ : ∃ n : Nat, s.k = (n : Int) := ⟨s.k.toNat, by omega⟩
    have e : B.step s = B.keep n := by unfold Bld.step; rw [if_pos h0, hn]
    rw [e, hn]
    have h0' : 0 < (n : Int) := by omega
    (refine st ?_; intros; rename_i b3)
    refine WL.heap (H' := .blk b (.cells [.slice c B.l.length cp, str B.p, str B.d].toArray 98 (0, 0)) :: .row c cp 59 3 (B.l.map Stp.cs) :: H) (fun w h => Pick.sat (by iterate 60 (try (first | exact Pick.all | (apply Pick.take; (· (repeat (first | exact Out.here | apply Out.there)))) | apply Pick.drop))) h) ?_
    refine w_callF Try.func55 ?_ (hs := keep_any B n (by omega) hB _ _ _)
    rintro v m1 H1 ⟨rfl, rfl, c1, cp1, rfl⟩
    (try (refine st ?_; intros))
    exact q_finNorm0 (H0 := _ :: _ :: H) ⟨rfl, rfl, c1, cp1, rfl⟩ (hd := (fun w h => Pick.sat (by iterate 60 (try (first | exact Pick.all | (apply Pick.take; (· (repeat (first | exact Out.here | apply Out.there)))) | apply Pick.drop))) h))
  · by_cases h3 : s.d = []
    · have e : B.step s = ⟨B.l, B.p ++ s.p, B.d⟩ := by unfold Bld.step; rw [if_neg h0, if_neg (fun h => h h3)]
      rw [e]
      (try (refine st ?_; intros))
      exact q_finNorm0 (H0 := .blk b (.cells [.slice c B.l.length cp, str (B.p ++ s.p), str B.d].toArray 98 (0, 0)) :: .row c cp 59 3 (B.l.map Stp.cs) :: H) ⟨rfl, rfl, c, cp, rfl⟩ (hd := (fun w h => Pick.sat (by iterate 60 (try (first | exact Pick.all | (apply Pick.take; (· (repeat (first | exact Out.here | apply Out.there)))) | apply Pick.drop))) h))
    · have e : B.step s = ⟨B.l, B.p, B.d ++ s.d⟩ := by unfold Bld.step; rw [if_neg h0, if_pos h3]
      rw [e]
      (try (refine st ?_; intros))
      exact q_finNorm0 (H0 := .blk b (.cells [.slice c B.l.length cp, str B.p, str (B.d ++ s.d)].toArray 98 (0, 0)) :: .row c cp 59 3 (B.l.map Stp.cs) :: H) ⟨rfl, rfl, c, cp, rfl⟩ (hd := (fun w h => Pick.sat (by iterate 60 (try (first | exact Pick.all | (apply Pick.take; (· (repeat (first | exact Out.here | apply Out.there)))) | apply Pick.drop))) h))
theorem done_any {b : Nat} {c : Option Addr} {cp : Nat} (B : Bld) (hB : B.l.length ≤ 1000000000000) (w0 : World) (m : Mem) (H : SHeap) :
    Does Try.prog 48 #[.pointer (some ⟨b, 0, none⟩)] w0 m (.blk b (.cells [.slice c B.l.length cp, str B.p, str B.d].toArray 98 (0, 0)) :: .row c cp 59 3 (B.l.map Stp.cs) :: H)
      (fun v m' H' => m' = m ∧ ∃ c' cp', v = .slice c' B.close.l.length cp' ∧ H' = .row c' cp' 59 3 (B.close.l.map Stp.cs) :: H) := by
  refine Does.of_body (args := [.pointer (some ⟨b, 0, none⟩)]) Try.func48 rfl Try.ntmps48 rfl ?_
  (try (refine st ?_; intros))
  refine w_callF Try.func72 ?_ (hs := close_any B hB _ _ _)
  rintro v m1 H1 ⟨rfl, rfl, c1, cp1, rfl⟩
  (try (refine st ?_; intros))
  exact q_fin0 (H0 := .row c1 cp1 59 3 (B.close.l.map Stp.cs) :: H) ⟨rfl, c1, cp1, rfl, rfl⟩ (hd := (fun w h => Pick.sat (by iterate 60 (try (first | exact Pick.all | (apply Pick.take; (· (repeat (first | exact Out.here | apply Out.there)))) | apply Pick.drop))) h))
theorem plain_any {a : Option Addr} {cap : Nat} {l : List Stp} (hok : ∀ s ∈ l, stpOk s) (hl : (atomsOf l).length ≤ 1000000000) (w0 : World) (m : Mem) (H : SHeap) (hr : RowR w0 m H 3 a (l.map Stp.cs)) :
    Does Try.prog 42 #[.slice a l.length cap] w0 m H (fun v m' H' => m' = m ∧ ∃ c' cp', v = .slice c' (plainOf l).length cp' ∧ H' = .row c' cp' 59 3 ((plainOf l).map Stp.cs) :: H) := by
  refine Does.of_body (args := [.slice a l.length cap]) Try.func42 rfl Try.ntmps42 rfl ?_
  have hln : (l.map Stp.cs).length = l.length := by simp
  have hlen := steps_le l hok
  (refine st ?_; intros; rename_i b)
  refine WC.newRow (T := 59) (sz := 3) ?_
  refine WC.loopH [(8, .int .i64 ((0) : Int)), (7, .int .i64 (l.length : Int)), (6, .slice a l.length cap), (3, .pointer (some ⟨b, 0, none⟩))] ?_ ?_ (fun j r ds m' H' => ∃ i c cp B, j = l.length - i ∧ r = [(8, .int .i64 (i : Int)), (7, .int .i64 (l.length : Int)), (6, .slice a l.length cap), (3, .pointer (some ⟨b, 0, none⟩))] ∧ ds = [] ∧ m = m' ∧ H' = .blk b (.cells [.slice c B.l.length cp, str B.p, str B.d].toArray 98 (0, 0)) :: .row c cp 59 3 (B.l.map Stp.cs) :: H ∧ (i ≤ l.length) ∧ (B = Bld.start.run (atomsOf (l.take i)))) (l.length - (0)) ⟨0, none, 0, Bld.start, rfl, rfl, rfl, rfl, rfl, by omega, by simp [atomsOf, Bld.run]⟩ ?_
  · (repeat (first | exact Env.Sub.nil | refine Env.Sub.cons rfl ?_))
  · exact (fun w h => Pick.sat (by iterate 60 (try (first | exact Pick.all | (apply Pick.take; (· (repeat (first | exact Out.here | apply Out.there)))) | apply Pick.drop))) h)
  rintro j r ds m' H' ⟨i, c, cp, B, rfl, rfl, rfl, rfl, rfl, hi, hB⟩
  have htl : (atomsOf (l.take i)).length ≤ (atomsOf l).length := by
    have e : atomsOf l = atomsOf (l.take i) ++ atomsOf (l.drop i) := by rw [← atoms_append, List.take_append_drop]
    rw [e]; simp
  have hfit : BFit 10000000000 B := by rw [hB]; exact (BFit.runs _).mono (by omega)
  by_cases hlt : i < l.length
  · obtain ⟨x, hx, hget, htk, hmem, hdr⟩ := at_idx (f := Stp.cs) hlt
    have hr1 := (hr.more (i := .row c cp 59 3 (B.l.map Stp.cs))).more (i := .blk b (.cells [.slice c B.l.length cp, str B.p, str B.d].toArray 98 (0, 0)))
    have hxl : x.atoms.length ≤ (atomsOf l).length := by
      have e : atomsOf l = atomsOf (l.take (i + 1)) ++ atomsOf (l.drop (i + 1)) := by rw [← atoms_append, List.take_append_drop]
      rw [e, htk, atoms_append, atoms_one]; simp only [List.length_append]; omega
    rw [atoms_len] at hxl
    refine WC.rSome hr1 (by omega) ?_
    rintro a0 rfl
    (refine st ?_; intros; rename_i bx)
    refine WL.heap (H' := .blk b (.cells [.slice c B.l.length cp, str B.p, str B.d].toArray 98 (0, 0)) :: .row c cp 59 3 (B.l.map Stp.cs) :: H) (fun w h => Pick.sat (by iterate 60 (try (first | exact Pick.all | (apply Pick.take; (· (repeat (first | exact Out.here | apply Out.there)))) | apply Pick.drop))) h) ?_
    refine w_callF Try.func45 ?_ (hs := step_any B x (by omega) (by omega) (by omega) (hfit.mono (by omega)) _ _ _)
    rintro v m1 H1 ⟨rfl, rfl, c1, cp1, rfl⟩
    (try (refine st ?_; intros))
    refine WQ.next (l.length - (i + 1)) ⟨i + 1, c1, cp1, B.step x, rfl, rfl, rfl, rfl, rfl, ?_, ?_⟩ (by omega) (by (repeat (first | exact Env.Sub.nil | refine Env.Sub.cons rfl ?_))) (fun w h => Pick.sat (by iterate 60 (try (first | exact Pick.all | (apply Pick.take; (· (repeat (first | exact Out.here | apply Out.there)))) | apply Pick.drop))) h)
    · omega
    · rw [htk, atoms_append, run_append, ← hB, atoms_one, run_step _ _ (hok x hmem)]
  · obtain rfl : i = l.length := by omega
    have hlen2 := hfit.len
    (try (refine st ?_; intros))
    refine w_callF Try.func48 ?_ (hs := done_any B (by omega) _ _ _)
    rintro v m1 H1 ⟨rfl, c1, cp1, rfl, rfl⟩
    (try (refine st ?_; intros))
    have e : B.close.l = plainOf l := by
      rw [hB, List.take_length, plainOf]
      have : ∀ (l : List Stp) (b : Bld), (∀ s ∈ l, stpOk s) → b.run (atomsOf l) = l.foldl Bld.step b := by
        intro l
        induction l with
        | nil => intro b _; rfl
        | cons s l ih => intro b h; rw [atoms_cons, run_append, run_step _ _ (h s List.mem_cons_self), ih _ (fun x hx => h x (List.mem_cons_of_mem _ hx)), List.foldl_cons]
      rw [this l _ hok]
    rw [e]
    exact q_fin0 (H0 := .row c1 cp1 59 3 ((plainOf l).map Stp.cs) :: H) ⟨rfl, c1, cp1, rfl, rfl⟩ (hd := (fun w h => Pick.sat (by iterate 60 (try (first | exact Pick.all | (apply Pick.take; (· (repeat (first | exact Out.here | apply Out.there)))) | apply Pick.drop))) h))
end Go.Proofs.Ytelgegefmjlimaa

/-
  Plain facts on changes: what a change makes of a text. No condition.
-/
namespace Go.Eng
open Go
/-- what a change makes of a text; none: they are apart -/
def applyA : List UInt8 → List Atm → Option (List UInt8)
  | _, [] => some []
  | s, .p b :: l => (applyA s l).map (b :: ·)
  | c :: s, .k :: l => (applyA s l).map (c :: ·)
  | c :: s, .d b :: l => if c = b then applyA s l else none
  | [], .k :: _ => none
  | [], .d _ :: _ => none
theorem applyA_p (s : List UInt8) (b : UInt8) (l : List Atm) : applyA s (.p b :: l) = (applyA s l).map (b :: ·) := by cases s <;> rfl
theorem applyA_nil (s : List UInt8) : applyA s [] = some [] := by cases s <;> rfl
theorem applyA_ps (s : List UInt8) : ∀ (ds : List UInt8) (l : List Atm), applyA s (ds.map .p ++ l) = (applyA s l).map (ds ++ ·)
  | [], l => by simp
  | b :: ds, l => by rw [List.map_cons, List.cons_append, applyA_p, applyA_ps s ds l, Option.map_map]; rfl
theorem applyA_ks : ∀ (n : Nat) (s : List UInt8) (l : List Atm), n ≤ s.length → applyA s (List.replicate n .k ++ l) = (applyA (s.drop n) l).map (s.take n ++ ·)
  | 0, s, l, _ => by simp
  | n + 1, [], l, h => by simp at h
  | n + 1, c :: s, l, h => by
    rw [List.replicate_succ, List.cons_append, applyA, applyA_ks n s l (by simpa using h), Option.map_map]; rfl
theorem applyA_ds : ∀ (ds s : List UInt8) (l : List Atm), ds.length ≤ s.length → applyA s (ds.map .d ++ l) = if s.take ds.length = ds then applyA (s.drop ds.length) l else none
  | [], s, l, _ => by simp
  | b :: ds, [], l, h => by simp at h
  | b :: ds, c :: s, l, h => by
    rw [List.map_cons, List.cons_append, applyA, applyA_ds ds s l (by simpa using h)]
    by_cases hb : c = b
    · subst hb; simp
    · simp [hb]
end Go.Eng

/-
  Plain facts on changes: parts of a step. No condition.
-/
namespace Go.Eng
open Go
def takeS (s : Stp) (n : Nat) : Stp := if 0 < s.k then ⟨n, [], []⟩ else if s.d ≠ [] then ⟨0, s.d.take n, []⟩ else ⟨0, [], s.p.take n⟩
def dropS (s : Stp) (n : Nat) : Stp := if 0 < s.k then ⟨s.k - n, [], []⟩ else if s.d ≠ [] then ⟨0, s.d.drop n, []⟩ else ⟨0, [], s.p.drop n⟩
def restS (s : Stp) (n : Nat) (X : List Stp) : List Stp := if n = s.atoms.length then X else dropS s n :: X
/-- the three kinds of a step -/
theorem step_kinds {s : Stp} (h : stpOk s) : (0 < s.k ∧ s.d = [] ∧ s.p = [] ∧ s.atoms = List.replicate s.k.toNat .k) ∨ (s.k = 0 ∧ s.d ≠ [] ∧ s.p = [] ∧ s.atoms = s.d.map .d) ∨ (s.k = 0 ∧ s.d = [] ∧ s.p ≠ [] ∧ s.atoms = s.p.map .p) := by
  rcases h with ⟨h1, h2, h3⟩ | ⟨h1, h2, h3⟩ | ⟨h1, h2, h3⟩
  · exact .inl ⟨h1, h2, h3, by simp [Stp.atoms, h2, h3]⟩
  · exact .inr (.inl ⟨h1, h2, h3, by simp [Stp.atoms, h1, h3]⟩)
  · exact .inr (.inr ⟨h1, h2, h3, by simp [Stp.atoms, h1, h2]⟩)
theorem atoms_pos {s : Stp} (h : stpOk s) : 0 < s.atoms.length := by
  rcases step_kinds h with ⟨h1, h2, h3, e⟩ | ⟨h1, h2, h3, e⟩ | ⟨h1, h2, h3, e⟩ <;> rw [e]
  · simp; omega
  · simpa [List.length_pos_iff] using h2
  · simpa [List.length_pos_iff] using h3
theorem takeS_ok {s : Stp} {n : Nat} (h : stpOk s) (h0 : 0 < n) (hn : n ≤ s.atoms.length) : stpOk (takeS s n) ∧ (takeS s n).atoms = s.atoms.take n := by
  rcases step_kinds h with ⟨h1, h2, h3, e⟩ | ⟨h1, h2, h3, e⟩ | ⟨h1, h2, h3, e⟩ <;> rw [e] at hn ⊢
  · have et : takeS s n = ⟨n, [], []⟩ := by simp [takeS, h1]
    rw [et]
    refine ⟨.inl ⟨by simp only; omega, rfl, rfl⟩, ?_⟩
    simp only [List.length_replicate] at hn
    simp [Stp.atoms, List.take_replicate, Nat.min_eq_left hn]
  · have et : takeS s n = ⟨0, s.d.take n, []⟩ := by simp [takeS, h1, h2]
    rw [et]
    refine ⟨.inr (.inl ⟨rfl, ?_, rfl⟩), ?_⟩
    · intro hc
      have : (s.d.take n).length = 0 := by rw [show s.d.take n = [] from hc]; rfl
      simp only [List.length_take, List.length_map] at this hn; omega
    · simp [Stp.atoms, List.map_take]
  · have et : takeS s n = ⟨0, [], s.p.take n⟩ := by simp [takeS, h1, h2]
    rw [et]
    refine ⟨.inr (.inr ⟨rfl, rfl, ?_⟩), ?_⟩
    · intro hc
      have : (s.p.take n).length = 0 := by rw [show s.p.take n = [] from hc]; rfl
      simp only [List.length_take, List.length_map] at this hn; omega
    · simp [Stp.atoms, List.map_take]
theorem takeS_all {s : Stp} (h : stpOk s) : takeS s s.atoms.length = s := by
  obtain ⟨k, d, p⟩ := s
  rcases step_kinds h with ⟨h1, h2, h3, e⟩ | ⟨h1, h2, h3, e⟩ | ⟨h1, h2, h3, e⟩ <;> rw [e] <;> simp only at h1 h2 h3
  · subst h2; subst h3
    simp only [takeS, h1, if_true, List.length_replicate]
    congr 1; omega
  · subst h1; subst h3
    simp [takeS, h2]
  · subst h1; subst h2
    simp [takeS]
theorem dropS_ok {s : Stp} {n : Nat} (h : stpOk s) (hn : n < s.atoms.length) : stpOk (dropS s n) ∧ (dropS s n).atoms = s.atoms.drop n := by
  rcases step_kinds h with ⟨h1, h2, h3, e⟩ | ⟨h1, h2, h3, e⟩ | ⟨h1, h2, h3, e⟩ <;> rw [e] at hn ⊢
  · have et : dropS s n = ⟨s.k - n, [], []⟩ := by simp [dropS, h1]
    rw [et]
    simp only [List.length_replicate] at hn
    refine ⟨.inl ⟨by simp only; omega, rfl, rfl⟩, ?_⟩
    simp only [Stp.atoms, List.map_nil, List.append_nil, List.drop_replicate]
    congr 1; omega
  · have et : dropS s n = ⟨0, s.d.drop n, []⟩ := by simp [dropS, h1, h2]
    rw [et]
    refine ⟨.inr (.inl ⟨rfl, ?_, rfl⟩), ?_⟩
    · intro hc
      have : (s.d.drop n).length = 0 := by rw [show s.d.drop n = [] from hc]; rfl
      simp only [List.length_drop, List.length_map] at this hn; omega
    · simp [Stp.atoms, List.map_drop]
  · have et : dropS s n = ⟨0, [], s.p.drop n⟩ := by simp [dropS, h1, h2]
    rw [et]
    refine ⟨.inr (.inr ⟨rfl, rfl, ?_⟩), ?_⟩
    · intro hc
      have : (s.p.drop n).length = 0 := by rw [show s.p.drop n = [] from hc]; rfl
      simp only [List.length_drop, List.length_map] at this hn; omega
    · simp [Stp.atoms, List.map_drop]
theorem restS_ok {s : Stp} {n : Nat} {X : List Stp} (h : ∀ x ∈ s :: X, stpOk x) (hn : n ≤ s.atoms.length) : (∀ x ∈ restS s n X, stpOk x) ∧ atomsOf (restS s n X) = s.atoms.drop n ++ atomsOf X := by
  unfold restS
  by_cases e : n = s.atoms.length
  · rw [if_pos e]
    exact ⟨fun x hx => h x (List.mem_cons_of_mem _ hx), by rw [e, List.drop_length]; rfl⟩
  · rw [if_neg e]
    obtain ⟨h1, h2⟩ := dropS_ok (h s List.mem_cons_self) (show n < s.atoms.length by omega)
    refine ⟨fun x hx => ?_, by rw [atoms_cons, h2]⟩
    rcases List.mem_cons.1 hx with rfl | hx
    · exact h1
    · exact h x (List.mem_cons_of_mem _ hx)
/-- a step's parts come one behind the other -/
theorem parts_S {s : Stp} {n : Nat} {X : List Stp} (h : ∀ x ∈ s :: X, stpOk x) (h0 : 0 < n) (hn : n ≤ s.atoms.length) : atomsOf (s :: X) = (takeS s n).atoms ++ atomsOf (restS s n X) := by
  rw [(restS_ok h hn).2, (takeS_ok (h s List.mem_cons_self) h0 hn).2, ← List.append_assoc, List.take_append_drop]; rfl
theorem takeS_kind {s : Stp} {n : Nat} (h : stpOk s) (h0 : 0 < n) (hn : n ≤ s.atoms.length) : (0 < (takeS s n).k ↔ 0 < s.k) ∧ ((takeS s n).d = [] ↔ s.d = []) ∧ ((takeS s n).p = [] ↔ s.p = []) ∧ (takeS s n).atoms.length = n := by
  obtain ⟨h1, h2⟩ := takeS_ok h h0 hn
  have h3 : (takeS s n).atoms.length = n := by rw [h2, List.length_take]; omega
  rw [h3]
  have h4 := h2
  rcases step_kinds h with ⟨g1, g2, g3, e⟩ | ⟨g1, g2, g3, e⟩ | ⟨g1, g2, g3, e⟩ <;> rcases step_kinds h1 with ⟨f1, f2, f3, e'⟩ | ⟨f1, f2, f3, e'⟩ | ⟨f1, f2, f3, e'⟩
  · exact ⟨⟨fun _ => g1, fun _ => f1⟩, ⟨fun _ => g2, fun _ => f2⟩, ⟨fun _ => g3, fun _ => f3⟩, rfl⟩
  · exfalso
    have et : takeS s n = ⟨n, [], []⟩ := by simp [takeS, g1]
    rw [et] at f2; exact f2 rfl
  · exfalso
    have et : takeS s n = ⟨n, [], []⟩ := by simp [takeS, g1]
    rw [et] at f3; exact f3 rfl
  · exfalso
    have et : takeS s n = ⟨0, s.d.take n, []⟩ := by simp [takeS, g1, g2]
    rw [et] at f1; simp at f1
  · exact ⟨⟨fun h => by omega, fun h => by omega⟩, ⟨fun h => absurd h f2, fun h => absurd h g2⟩, ⟨fun _ => g3, fun _ => f3⟩, rfl⟩
  · exfalso
    have et : takeS s n = ⟨0, s.d.take n, []⟩ := by simp [takeS, g1, g2]
    rw [et] at f3; exact f3 rfl
  · exfalso
    have et : takeS s n = ⟨0, [], s.p.take n⟩ := by simp [takeS, g1, g2]
    rw [et] at f1; simp at f1
  · exfalso
    have et : takeS s n = ⟨0, [], s.p.take n⟩ := by simp [takeS, g1, g2]
    rw [et] at f2; exact f2 rfl
  · exact ⟨⟨fun h => by omega, fun h => by omega⟩, ⟨fun _ => g2, fun _ => f2⟩, ⟨fun h => absurd h f3, fun h => absurd h g3⟩, rfl⟩
end Go.Eng

/-
  The walks of package edit, a stream's methods: size, now, take. No condition.
-/
namespace Go.Eng
open Go Go.RowKit
theorem Does.gives_mem {P : Program} {w0 : World} {m : Mem} {H : SHeap} {f : FuncId} {args : Array Value} {v : Value} {i : Item} (hm : i ∈ H) (h : ∀ H1, Does P f args w0 m (i :: H1) (Gives v m (i :: H1))) : Does P f args w0 m H (Gives v m H) := by
  intro w hs
  obtain ⟨H1, hp⟩ := hs.at_ hm
  refine (h H1 w (hs.perm hp)).mono ?_
  rintro e w' ⟨v', m', H', he, ⟨rfl, rfl, rfl⟩, hs'⟩
  exact ⟨_, _, _, he, ⟨rfl, rfl, rfl⟩, hs'.perm hp.symm⟩
section
variable {P : Program} {ro : Option Nat} {n : Nat} {w0 : World} {Q : Exit → Act → World → Prop} {r : Env} {ds : List Nat} {m : Mem} {H : SHeap} {ops : Array Oper} {l : List Oper} {d : Nat} {t ty : TypeId} {pos : String} {after : Array Edge}
theorem WL.indexAddr0 {e : TypeId} {x y : Operand} {a : Addr} {j k cap sz : Nat} {ki : IntKind} (hx : r.ev x = some (.slice (some (a.add j)) k cap)) (hy : r.ev y = some (.int ki 0)) (hu : P.underlying t = some (.slice e)) (hsz : sizeB P e = some sz)
    (hi : 0 < k) (hd : Nat.blt d n = true) (h : WL P ro n w0 ops Q l ((d, .pointer (some (a.add j))) :: r) ds m H) :
    WL P ro n w0 ops Q (⟨some d, .indexAddr t x y, ty, pos, after, none⟩ :: l) r ds m H := by
  refine WL.indexAddr (i := 0) hx hy rfl hu hsz hi hd ?_
  rw [addadd, Nat.zero_mul, Nat.add_zero]
  exact h
end
/-- a stream: what is left of a change, in a list of its own -/
structure Strm (a1 : Option Addr) (c1 : Nat) (ar : Option Addr) (pre : List (List Value)) (X : List Stp) : Prop where
  at_ : X ≠ [] → ∃ a0, ar = some a0 ∧ a1 = some (a0.add (pre.length * 3))
  cap : X.length ≤ c1
  ok : ∀ s ∈ X, stpOk s
theorem Does.gives_out2 {P : Program} {w0 : World} {m : Mem} {H H1 H2 : SHeap} {i1 i2 : Item} {f : FuncId} {args : Array Value} {v : Value} (o1 : Out i1 H H1) (o2 : Out i2 H1 H2) (h : ∀ H', Does P f args w0 m (i1 :: i2 :: H') (Gives v m (i1 :: i2 :: H'))) : Does P f args w0 m H (Gives v m H) := by
  have hp : List.Perm H (i1 :: i2 :: H2) := o1.perm.trans (List.Perm.cons _ o2.perm)
  intro w hs
  refine (h H2 w (hs.perm hp)).mono ?_
  rintro e w' ⟨v', m', H', he, ⟨rfl, rfl, rfl⟩, hs'⟩
  exact ⟨_, _, _, he, ⟨rfl, rfl, rfl⟩, hs'.perm hp.symm⟩
end Go.Eng
namespace Go.Proofs.Ytelgegefmjlimaa
open Go Go.Eng
set_option maxRecDepth 100000
set_option maxHeartbeats 4000000
set_option linter.all false
attribute [local irreducible] WL WC WQ QFun QLoop Does Q1 QRound QAssign Go.Addr.add
theorem size_any {s : Stp} (hok : stpOk s) (hl : s.atoms.length ≤ 100000000000) (w0 : World) (m : Mem) (H : SHeap) :
    Does Try.prog 47 #[s.v] w0 m H (Gives (.int .i64 (s.atoms.length : Int)) m H) := by
  refine Does.of_body (args := [.agg #[.int .i64 s.k, str s.d, str s.p]]) Try.func47 rfl Try.ntmps47 rfl ?_
  have hl2 := atoms_len s
  have hk : 0 ≤ s.k := by rcases hok with ⟨h, _, _⟩ | ⟨h, _, _⟩ | ⟨h, _, _⟩ <;> omega
  (try (refine st ?_; intros))
  rw [show s.k + (s.d.length : Int) + (s.p.length : Int) = (s.atoms.length : Int) by omega]
  (try (refine st ?_; intros))
  exact q_fin0 (H0 := H) (Gives.mk rfl) (hd := (fun w h => Pick.sat (by iterate 60 (try (first | exact Pick.all | (apply Pick.take; (· (repeat (first | exact Out.here | apply Out.there)))) | apply Pick.drop))) h))
theorem sq_E14_1 {G : Prop} (h : G := by (repeat (first | (refine sp ?_; (repeat intro zzc)) | (refine WL.indexAddr0 rfl rfl rfl rfl (by simp) rfl ?_))); exact WQ.q1 rfl) : G := h
theorem st_E14_1 {G G' : Prop} (next : G') (h : Bx G' → G := by intro zzn; (first | ((refine st ?_; (repeat intro zzc)); (try ((first | (refine WL.indexAddr0 rfl rfl rfl rfl (by simp) rfl ?_) | ((refine iDraw ?_; (first | refine WC.drawAll rfl (by decide +kernel) ?_ | refine WC.draw 1 rfl (by decide +kernel) ?_ | refine WC.draw 2 rfl (by decide +kernel) ?_ | refine WC.draw 3 rfl (by decide +kernel) ?_ | refine WC.draw 4 rfl (by decide +kernel) ?_ | refine WC.draw 5 rfl (by decide +kernel) ?_ | refine WC.draw 6 rfl (by decide +kernel) ?_ | refine WC.draw 7 rfl (by decide +kernel) ?_ | refine WC.draw 8 rfl (by decide +kernel) ?_ | refine WC.draw 9 rfl (by decide +kernel) ?_ | refine WC.draw 10 rfl (by decide +kernel) ?_ | refine WC.draw 11 rfl (by decide +kernel) ?_ | refine WC.draw 12 rfl (by decide +kernel) ?_ | refine WC.draw 13 rfl (by decide +kernel) ?_ | refine WC.draw 14 rfl (by decide +kernel) ?_ | refine WC.draw 15 rfl (by decide +kernel) ?_ | refine WC.draw 16 rfl (by decide +kernel) ?_ | refine WC.draw 17 rfl (by decide +kernel) ?_ | refine WC.draw 18 rfl (by decide +kernel) ?_ | refine WC.draw 19 rfl (by decide +kernel) ?_ | refine WC.draw 20 rfl (by decide +kernel) ?_ | refine WC.draw 21 rfl (by decide +kernel) ?_ | refine WC.draw 22 rfl (by decide +kernel) ?_ | refine WC.draw 23 rfl (by decide +kernel) ?_ | refine WC.draw 24 rfl (by decide +kernel) ?_)); (repeat (refine WD.cons rfl (fun c h => by cases h) sq_E14_1 ?_)); refine WD.nil ?_)); (try (refine st ?_; (repeat intro zzc)))))) | ((first | (refine WL.indexAddr0 rfl rfl rfl rfl (by simp) rfl ?_) | ((refine iDraw ?_; (first | refine WC.drawAll rfl (by decide +kernel) ?_ | refine WC.draw 1 rfl (by decide +kernel) ?_ | refine WC.draw 2 rfl (by decide +kernel) ?_ | refine WC.draw 3 rfl (by decide +kernel) ?_ | refine WC.draw 4 rfl (by decide +kernel) ?_ | refine WC.draw 5 rfl (by decide +kernel) ?_ | refine WC.draw 6 rfl (by decide +kernel) ?_ | refine WC.draw 7 rfl (by decide +kernel) ?_ | refine WC.draw 8 rfl (by decide +kernel) ?_ | refine WC.draw 9 rfl (by decide +kernel) ?_ | refine WC.draw 10 rfl (by decide +kernel) ?_ | refine WC.draw 11 rfl (by decide +kernel) ?_ | refine WC.draw 12 rfl (by decide +kernel) ?_ | refine WC.draw 13 rfl (by decide +kernel) ?_ | refine WC.draw 14 rfl (by decide +kernel) ?_ | refine WC.draw 15 rfl (by decide +kernel) ?_ | refine WC.draw 16 rfl (by decide +kernel) ?_ | refine WC.draw 17 rfl (by decide +kernel) ?_ | refine WC.draw 18 rfl (by decide +kernel) ?_ | refine WC.draw 19 rfl (by decide +kernel) ?_ | refine WC.draw 20 rfl (by decide +kernel) ?_ | refine WC.draw 21 rfl (by decide +kernel) ?_ | refine WC.draw 22 rfl (by decide +kernel) ?_ | refine WC.draw 23 rfl (by decide +kernel) ?_ | refine WC.draw 24 rfl (by decide +kernel) ?_)); (repeat (refine WD.cons rfl (fun c h => by cases h) sq_E14_1 ?_)); refine WD.nil ?_)); (try (refine st ?_; (repeat intro zzc))))); (repeat ((first | (refine WL.indexAddr0 rfl rfl rfl rfl (by simp) rfl ?_) | ((refine iDraw ?_; (first | refine WC.drawAll rfl (by decide +kernel) ?_ | refine WC.draw 1 rfl (by decide +kernel) ?_ | refine WC.draw 2 rfl (by decide +kernel) ?_ | refine WC.draw 3 rfl (by decide +kernel) ?_ | refine WC.draw 4 rfl (by decide +kernel) ?_ | refine WC.draw 5 rfl (by decide +kernel) ?_ | refine WC.draw 6 rfl (by decide +kernel) ?_ | refine WC.draw 7 rfl (by decide +kernel) ?_ | refine WC.draw 8 rfl (by decide +kernel) ?_ | refine WC.draw 9 rfl (by decide +kernel) ?_ | refine WC.draw 10 rfl (by decide +kernel) ?_ | refine WC.draw 11 rfl (by decide +kernel) ?_ | refine WC.draw 12 rfl (by decide +kernel) ?_ | refine WC.draw 13 rfl (by decide +kernel) ?_ | refine WC.draw 14 rfl (by decide +kernel) ?_ | refine WC.draw 15 rfl (by decide +kernel) ?_ | refine WC.draw 16 rfl (by decide +kernel) ?_ | refine WC.draw 17 rfl (by decide +kernel) ?_ | refine WC.draw 18 rfl (by decide +kernel) ?_ | refine WC.draw 19 rfl (by decide +kernel) ?_ | refine WC.draw 20 rfl (by decide +kernel) ?_ | refine WC.draw 21 rfl (by decide +kernel) ?_ | refine WC.draw 22 rfl (by decide +kernel) ?_ | refine WC.draw 23 rfl (by decide +kernel) ?_ | refine WC.draw 24 rfl (by decide +kernel) ?_)); (repeat (refine WD.cons rfl (fun c h => by cases h) sq_E14_1 ?_)); refine WD.nil ?_)); (try (refine st ?_; (repeat intro zzc))))); (repeat revert zzc); exact zzn.out) : G := h ⟨next⟩
theorem now_front {a1 : Option Addr} {c1 x cr : Nat} {ar : Option Addr} {pre : List (List Value)} {s : Stp} {X : List Stp} (h : Strm a1 c1 ar pre (s :: X)) (w0 : World) (m : Mem) (H : SHeap) :
    Does Try.prog 44 #[.pointer (some ⟨x, 0, none⟩)] w0 m (.blk x (.cells [.slice a1 (s :: X).length c1].toArray 96 (0, 0)) :: .row ar cr 59 3 (pre ++ (s :: X).map Stp.cs) :: H) (Gives (.tuple #[s.v, .bool true]) m (.blk x (.cells [.slice a1 (s :: X).length c1].toArray 96 (0, 0)) :: .row ar cr 59 3 (pre ++ (s :: X).map Stp.cs) :: H)) := by
  refine Does.of_body (args := [.pointer (some ⟨x, 0, none⟩)]) Try.func44 rfl Try.ntmps44 rfl ?_
  obtain ⟨a0, rfl, rfl⟩ := h.at_ (by simp)
  have hget : (pre ++ (s :: X).map Stp.cs)[pre.length]? = some s.cs := by simp
  have hl0 : (s :: X).length = X.length + 1 := rfl
  generalize pre ++ (s :: X).map Stp.cs = E at *
  (try (refine st_E14_1 ?_; intros))
  exact q_fin0 (H0 := .blk x (.cells [.slice (some (a0.add (pre.length * 3))) (s :: X).length c1].toArray 96 (0, 0)) :: .row (some a0) cr 59 3 E :: H) (Gives.mk rfl) (hd := (fun w h => Pick.sat (by iterate 60 (try (first | exact Pick.all | (apply Pick.take; (· (repeat (first | exact Out.here | apply Out.there)))) | apply Pick.drop))) h))
theorem now_cons {a1 : Option Addr} {c1 x cr : Nat} {ar : Option Addr} {pre : List (List Value)} {s : Stp} {X : List Stp} (h : Strm a1 c1 ar pre (s :: X)) {w0 : World} {m : Mem} {H H1 H2 : SHeap}
    (o1 : Out (.blk x (.cells [.slice a1 (s :: X).length c1].toArray 96 (0, 0))) H H1) (o2 : Out (.row ar cr 59 3 (pre ++ (s :: X).map Stp.cs)) H1 H2) :
    Does Try.prog 44 #[.pointer (some ⟨x, 0, none⟩)] w0 m H (Gives (.tuple #[s.v, .bool true]) m H) := Does.gives_out2 o1 o2 fun _ => now_front h _ _ _
theorem now_nil {a1 : Option Addr} {c1 x k : Nat} (hk : k = 0) {w0 : World} {m : Mem} {H : SHeap} (hm : Item.blk x (.cells [.slice a1 k c1].toArray 96 (0, 0)) ∈ H) :
    Does Try.prog 44 #[.pointer (some ⟨x, 0, none⟩)] w0 m H (Gives (.tuple #[.agg #[.int .i64 0, str [], str []], .bool false]) m H) := by
  refine Does.gives_mem hm fun H => ?_
  refine Does.of_body (args := [.pointer (some ⟨x, 0, none⟩)]) Try.func44 rfl Try.ntmps44 rfl ?_
  (try (refine st_E14_1 ?_; intros))
  exact q_fin0 (H0 := .blk x (.cells [.slice a1 k c1].toArray 96 (0, 0)) :: H) (Gives.mk rfl) (hd := (fun w h => Pick.sat (by iterate 60 (try (first | exact Pick.all | (apply Pick.take; (· (repeat (first | exact Out.here | apply Out.there)))) | apply Pick.drop))) h))
/-- what a take leaves of the stream -/
def TakenS (x cr : Nat) (ar : Option Addr) (s : Stp) (n : Nat) (X : List Stp) (m : Mem) (H : SHeap) : Value → Mem → SHeap → Prop := fun v m' H' => v = (takeS s n).v ∧ m' = m ∧ ∃ a2 c2 pre2, Strm a2 c2 ar pre2 (restS s n X) ∧
  H' = .blk x (.cells [.slice a2 (restS s n X).length c2].toArray 96 (0, 0)) :: .row ar cr 59 3 (pre2 ++ (restS s n X).map Stp.cs) :: H
theorem sq_E14_2 {G : Prop} (h : G := by (repeat (first | (refine sp ?_; (repeat intro zzc)) | (refine WL.indexAddr0 rfl rfl rfl rfl (by simp) rfl ?_) | (refine iF 47 rfl ?_; refine w_callG Try.func47 ?_ (hs := size_any (by assumption) (by omega) _ _ _)))); exact WQ.q1 rfl) : G := h
theorem st_E14_2 {G G' : Prop} (next : G') (h : Bx G' → G := by intro zzn; (first | ((refine st ?_; (repeat intro zzc)); (try ((first | (refine WL.indexAddr0 rfl rfl rfl rfl (by simp) rfl ?_) | (refine iF 47 rfl ?_; refine w_callG Try.func47 ?_ (hs := size_any (by assumption) (by omega) _ _ _)) | ((refine iDraw ?_; (first | refine WC.drawAll rfl (by decide +kernel) ?_ | refine WC.draw 1 rfl (by decide +kernel) ?_ | refine WC.draw 2 rfl (by decide +kernel) ?_ | refine WC.draw 3 rfl (by decide +kernel) ?_ | refine WC.draw 4 rfl (by decide +kernel) ?_ | refine WC.draw 5 rfl (by decide +kernel) ?_ | refine WC.draw 6 rfl (by decide +kernel) ?_ | refine WC.draw 7 rfl (by decide +kernel) ?_ | refine WC.draw 8 rfl (by decide +kernel) ?_ | refine WC.draw 9 rfl (by decide +kernel) ?_ | refine WC.draw 10 rfl (by decide +kernel) ?_ | refine WC.draw 11 rfl (by decide +kernel) ?_ | refine WC.draw 12 rfl (by decide +kernel) ?_ | refine WC.draw 13 rfl (by decide +kernel) ?_ | refine WC.draw 14 rfl (by decide +kernel) ?_ | refine WC.draw 15 rfl (by decide +kernel) ?_ | refine WC.draw 16 rfl (by decide +kernel) ?_ | refine WC.draw 17 rfl (by decide +kernel) ?_ | refine WC.draw 18 rfl (by decide +kernel) ?_ | refine WC.draw 19 rfl (by decide +kernel) ?_ | refine WC.draw 20 rfl (by decide +kernel) ?_ | refine WC.draw 21 rfl (by decide +kernel) ?_ | refine WC.draw 22 rfl (by decide +kernel) ?_ | refine WC.draw 23 rfl (by decide +kernel) ?_ | refine WC.draw 24 rfl (by decide +kernel) ?_)); (repeat (refine WD.cons rfl (fun c h => by cases h) sq_E14_2 ?_)); refine WD.nil ?_)); (try (refine st ?_; (repeat intro zzc)))))) | ((first | (refine WL.indexAddr0 rfl rfl rfl rfl (by simp) rfl ?_) | (refine iF 47 rfl ?_; refine w_callG Try.func47 ?_ (hs := size_any (by assumption) (by omega) _ _ _)) | ((refine iDraw ?_; (first | refine WC.drawAll rfl (by decide +kernel) ?_ | refine WC.draw 1 rfl (by decide +kernel) ?_ | refine WC.draw 2 rfl (by decide +kernel) ?_ | refine WC.draw 3 rfl (by decide +kernel) ?_ | refine WC.draw 4 rfl (by decide +kernel) ?_ | refine WC.draw 5 rfl (by decide +kernel) ?_ | refine WC.draw 6 rfl (by decide +kernel) ?_ | refine WC.draw 7 rfl (by decide +kernel) ?_ | refine WC.draw 8 rfl (by decide +kernel) ?_ | refine WC.draw 9 rfl (by decide +kernel) ?_ | refine WC.draw 10 rfl (by decide +kernel) ?_ | refine WC.draw 11 rfl (by decide +kernel) ?_ | refine WC.draw 12 rfl (by decide +kernel) ?_ | refine WC.draw 13 rfl (by decide +kernel) ?_ | refine WC.draw 14 rfl (by decide +kernel) ?_ | refine WC.draw 15 rfl (by decide +kernel) ?_ | refine WC.draw 16 rfl (by decide +kernel) ?_ | refine WC.draw 17 rfl (by decide +kernel) ?_ | refine WC.draw 18 rfl (by decide +kernel) ?_ | refine WC.draw 19 rfl (by decide +kernel) ?_ | refine WC.draw 20 rfl (by decide +kernel) ?_ | refine WC.draw 21 rfl (by decide +kernel) ?_ | refine WC.draw 22 rfl (by decide +kernel) ?_ | refine WC.draw 23 rfl (by decide +kernel) ?_ | refine WC.draw 24 rfl (by decide +kernel) ?_)); (repeat (refine WD.cons rfl (fun c h => by cases h) sq_E14_2 ?_)); refine WD.nil ?_)); (try (refine st ?_; (repeat intro zzc))))); (repeat ((first | (refine WL.indexAddr0 rfl rfl rfl rfl (by simp) rfl ?_) | (refine iF 47 rfl ?_; refine w_callG Try.func47 ?_ (hs := size_any (by assumption) (by omega) _ _ _)) | ((refine iDraw ?_; (first | refine WC.drawAll rfl (by decide +kernel) ?_ | refine WC.draw 1 rfl (by decide +kernel) ?_ | refine WC.draw 2 rfl (by decide +kernel) ?_ | refine WC.draw 3 rfl (by decide +kernel) ?_ | refine WC.draw 4 rfl (by decide +kernel) ?_ | refine WC.draw 5 rfl (by decide +kernel) ?_ | refine WC.draw 6 rfl (by decide +kernel) ?_ | refine WC.draw 7 rfl (by decide +kernel) ?_ | refine WC.draw 8 rfl (by decide +kernel) ?_ | refine WC.draw 9 rfl (by decide +kernel) ?_ | refine WC.draw 10 rfl (by decide +kernel) ?_ | refine WC.draw 11 rfl (by decide +kernel) ?_ | refine WC.draw 12 rfl (by decide +kernel) ?_ | refine WC.draw 13 rfl (by decide +kernel) ?_ | refine WC.draw 14 rfl (by decide +kernel) ?_ | refine WC.draw 15 rfl (by decide +kernel) ?_ | refine WC.draw 16 rfl (by decide +kernel) ?_ | refine WC.draw 17 rfl (by decide +kernel) ?_ | refine WC.draw 18 rfl (by decide +kernel) ?_ | refine WC.draw 19 rfl (by decide +kernel) ?_ | refine WC.draw 20 rfl (by decide +kernel) ?_ | refine WC.draw 21 rfl (by decide +kernel) ?_ | refine WC.draw 22 rfl (by decide +kernel) ?_ | refine WC.draw 23 rfl (by decide +kernel) ?_ | refine WC.draw 24 rfl (by decide +kernel) ?_)); (repeat (refine WD.cons rfl (fun c h => by cases h) sq_E14_2 ?_)); refine WD.nil ?_)); (try (refine st ?_; (repeat intro zzc))))); (repeat revert zzc); exact zzn.out) : G := h ⟨next⟩
theorem take_any {a1 : Option Addr} {c1 x cr : Nat} {ar : Option Addr} {pre : List (List Value)} {s : Stp} {X : List Stp} (n : Nat) (h : Strm a1 c1 ar pre (s :: X)) (h0 : 0 < n) (hn : n ≤ s.atoms.length) (hl : s.atoms.length ≤ 100000000000) (w0 : World) (m : Mem) (H : SHeap) :
    Does Try.prog 46 #[.pointer (some ⟨x, 0, none⟩), .int .i64 (n : Int)] w0 m (.blk x (.cells [.slice a1 (s :: X).length c1].toArray 96 (0, 0)) :: .row ar cr 59 3 (pre ++ (s :: X).map Stp.cs) :: H) (TakenS x cr ar s n X m H) := by
  refine Does.of_body (args := [.pointer (some ⟨x, 0, none⟩), .int .i64 (n : Int)]) Try.func46 rfl Try.ntmps46 rfl ?_
  have hst := h
  have hsk := h.ok s List.mem_cons_self
  have hcap := h.cap
  obtain ⟨a0, rfl, rfl⟩ := h.at_ (by simp)
  have hget : (pre ++ (s :: X).map Stp.cs)[pre.length]? = some s.cs := by simp
  have hset : ∀ e, (pre ++ (s :: X).map Stp.cs).set pre.length e = pre ++ e :: X.map Stp.cs := fun e => by simp
  have hl0 : (s :: X).length = X.length + 1 := rfl
  obtain ⟨E, hE⟩ : ∃ E, pre ++ (s :: X).map Stp.cs = E := ⟨_, rfl⟩
  rw [hE] at hget hset ⊢
  by_cases he : n = s.atoms.length
  · have er : restS s n X = X := if_pos he
    have et : takeS s n = s := by rw [he, takeS_all hsk]
    (try (refine st_E14_2 ?_; intros))
    refine q_fin0 (H0 := .blk x (.cells [subSl (some (a0.add (pre.length * 3))) c1 1 (s :: X).length 3].toArray 96 (0, 0)) :: .row (some a0) cr 59 3 E :: H) ⟨by rw [et]; try rfl, rfl, (if c1 = 1 then some (a0.add (pre.length * 3)) else (some (a0.add (pre.length * 3))).map (·.add (1 * 3))), c1 - 1, pre ++ [s.cs], ⟨?_, ?_, ?_⟩, ?_⟩ (hd := (fun w h => Pick.sat (by iterate 60 (try (first | exact Pick.all | (apply Pick.take; (· (repeat (first | exact Out.here | apply Out.there)))) | apply Pick.drop))) h))
    · intro hne
      rw [er] at hne
      have : 0 < X.length := List.length_pos_iff.2 hne
      refine ⟨a0, rfl, ?_⟩
      rw [if_neg (by omega), Option.map_some, addadd, List.length_append, List.length_singleton]
      congr 2; omega
    · rw [er]; omega
    · rw [er]; exact fun y hy => h.ok y (List.mem_cons_of_mem _ hy)
    · rw [er, ← hE]; simp [subSl]
  · have er : restS s n X = dropS s n :: X := if_neg he
    have hrs := restS_ok h.ok hn
    have hnl : n < s.atoms.length := by omega
    have fin : ∀ e, e = (dropS s n).cs → ∀ v, v = (takeS s n).v → TakenS x cr (some a0) s n X m H v m (.blk x (.cells [.slice (some (a0.add (pre.length * 3))) (s :: X).length c1].toArray 96 (0, 0)) :: .row (some a0) cr 59 3 (E.set pre.length e) :: H) := by
      intro e hee v hv
      refine ⟨hv, rfl, some (a0.add (pre.length * 3)), c1, pre, ⟨fun _ => ⟨a0, rfl, rfl⟩, ?_, hrs.1⟩, ?_⟩
      · rw [er]; exact hcap
      · rw [hset, er, hee]; simp
    rcases step_kinds hsk with ⟨g1, g2, g3, ea⟩ | ⟨g1, g2, g3, ea⟩ | ⟨g1, g2, g3, ea⟩
    · have hkl : s.atoms.length = s.k.toNat := by rw [ea]; simp
      (try (refine st_E14_2 ?_; intros))
      exact q_fin0 (H0 := .blk x (.cells [.slice (some (a0.add (pre.length * 3))) (s :: X).length c1].toArray 96 (0, 0)) :: .row (some a0) cr 59 3 (E.set pre.length [.int .i64 (s.k - n), str s.d, str s.p]) :: H) (fin _ (by simp [dropS, g1, g2, g3, Stp.cs]) (.agg #[.int .i64 (n : Int), str [], str []]) (by simp [takeS, g1, Stp.v])) (hd := (fun w h => Pick.sat (by iterate 60 (try (first | exact Pick.all | (apply Pick.take; (· (repeat (first | exact Out.here | apply Out.there)))) | apply Pick.drop))) h))
    · have hkl : s.atoms.length = s.d.length := by rw [ea]; simp
      (try (refine st_E14_2 ?_; intros))
      exact q_fin0 (H0 := .blk x (.cells [.slice (some (a0.add (pre.length * 3))) (s :: X).length c1].toArray 96 (0, 0)) :: .row (some a0) cr 59 3 (E.set pre.length [.int .i64 s.k, str (s.d.drop n), str s.p]) :: H) (fin _ (by simp [dropS, g1, g2, g3, Stp.cs]) (.agg #[.int .i64 0, str (s.d.take n), str []]) (by simp [takeS, g1, g2, Stp.v])) (hd := (fun w h => Pick.sat (by iterate 60 (try (first | exact Pick.all | (apply Pick.take; (· (repeat (first | exact Out.here | apply Out.there)))) | apply Pick.drop))) h))
    · have hkl : s.atoms.length = s.p.length := by rw [ea]; simp
      (try (refine st_E14_2 ?_; intros))
      exact q_fin0 (H0 := .blk x (.cells [.slice (some (a0.add (pre.length * 3))) (s :: X).length c1].toArray 96 (0, 0)) :: .row (some a0) cr 59 3 (E.set pre.length [.int .i64 s.k, str s.d, str (s.p.drop n)]) :: H) (fin _ (by simp [dropS, g1, g2, Stp.cs]) (.agg #[.int .i64 0, str [], str (s.p.take n)]) (by simp [takeS, g1, g2, Stp.v])) (hd := (fun w h => Pick.sat (by iterate 60 (try (first | exact Pick.all | (apply Pick.take; (· (repeat (first | exact Out.here | apply Out.there)))) | apply Pick.drop))) h))
end Go.Proofs.Ytelgegefmjlimaa

/-
  The walks of package edit, second part: the sizes of a change, by the program and by the reference. No condition.
-/
namespace Go.Proofs.Ytelgegefmjlimaa
open Go Go.Eng
set_option maxRecDepth 100000
set_option maxHeartbeats 4000000
set_option linter.all false
attribute [local irreducible] WL WC WQ QFun QLoop Does Q1 QRound QAssign Go.Addr.add
attribute [local irreducible] sizesF sizesOf
theorem sizes_any {a : Option Addr} {cap : Nat} {l : List Stp} (hf : Fit l) (w0 : World) (m : Mem) (H : SHeap) (hr : RowR w0 m H 3 a (l.map Stp.cs)) :
    Does Try.prog 40 #[.slice a l.length cap] w0 m H (Gives (szP (sizesOf l)) m H) := by
  refine Does.of_body (args := [.slice a l.length cap]) Try.func40 rfl Try.ntmps40 rfl ?_
  have hln : (l.map Stp.cs).length = l.length := by simp
  have hlen := hf.len
  (try (refine st ?_; intros))
  refine WC.loopH [(12, .int .i64 ((0) : Int)), (11, .int .i64 (l.length : Int)), (10, .slice a l.length cap), (5, .int .i64 (0)), (6, .int .i64 (0))] ?_ ?_ (fun j r ds m' H' => ∃ (i : _) (f : Int) (t : Int), j = l.length - i ∧ r = [(12, .int .i64 (i : Int)), (11, .int .i64 (l.length : Int)), (10, .slice a l.length cap), (5, .int .i64 f), (6, .int .i64 t)] ∧ ds = [] ∧ m = m' ∧ H' = H ∧ (i ≤ l.length) ∧ (0 ≤ f ∧ f ≤ 65536 ∧ 0 ≤ t ∧ t ≤ 65536) ∧ (sizesF (l.drop i) f t = sizesOf l) ∧ (RowR w0 m H 3 a (l.map Stp.cs))) (l.length - (0)) ⟨0, 0, 0, rfl, rfl, rfl, rfl, rfl, by omega, by omega, by rw [sizesOf]; rfl, hr⟩ ?_
  · (repeat (first | exact Env.Sub.nil | refine Env.Sub.cons rfl ?_))
  · exact (fun w h => Pick.sat (by iterate 60 (try (first | exact Pick.all | (apply Pick.take; (· (repeat (first | exact Out.here | apply Out.there)))) | apply Pick.drop))) h)
  rintro j r ds m' H' ⟨i, f, t, rfl, rfl, rfl, rfl, rfl, hi, hn, hs, hr⟩
  generalize H' = H at *
  by_cases hlt : i < l.length
  · obtain ⟨x, hx, hget, htk, hmem, hdr⟩ := at_idx (f := Stp.cs) hlt
    have hk := hf.k x hmem
    have hd := hf.d x hmem
    have hp := hf.p x hmem
    rw [hdr] at hs
    refine WC.rSome hr (by omega) ?_
    rintro a0 rfl
    have hdl : x.d = [] → x.d.length = 0 := fun h => by rw [h]; rfl
    have hpl : x.p = [] → x.p.length = 0 := fun h => by rw [h]; rfl
    by_cases h1 : x.k = 0 <;> by_cases h2 : x.d = [] <;> by_cases h3 : x.p = []
    · rw [sizesF_bad (fun h => by simp [stpOk, h1, h2, h3] at h)] at hs
      (try (refine st ?_; intros))
      exact q_fin0 (H0 := H) (Gives.mk (by rw [← hs]; try rfl)) (hd := (fun w h => Pick.sat (by iterate 60 (try (first | exact Pick.all | (apply Pick.take; (· (repeat (first | exact Out.here | apply Out.there)))) | apply Pick.drop))) h))
    · have hok : stpOk x := .inr (.inr ⟨h1, h2, h3⟩)
      have h2' := hdl h2
      by_cases h4 : t + (x.k + (x.p.length : Int)) ≤ 65536
      · rw [sizesF_good hok (by omega) (by omega) (by omega)] at hs
        (try (refine st ?_; intros))
        refine WQ.next (l.length - (i + 1)) ⟨i + 1, _, _, rfl, rfl, rfl, rfl, rfl, ?_, ?_, ?_, ?_⟩ (by omega) (by (repeat (first | exact Env.Sub.nil | refine Env.Sub.cons rfl ?_))) (fun w h => Pick.sat (by iterate 60 (try (first | exact Pick.all | (apply Pick.take; (· (repeat (first | exact Out.here | apply Out.there)))) | apply Pick.drop))) h)
        · omega
        · omega
        · rw [← hs]; congr 1 <;> omega
        · assumption
      · rw [sizesF_bad (by omega)] at hs
        (try (refine st ?_; intros))
        exact q_fin0 (H0 := H) (Gives.mk (by rw [← hs]; try rfl)) (hd := (fun w h => Pick.sat (by iterate 60 (try (first | exact Pick.all | (apply Pick.take; (· (repeat (first | exact Out.here | apply Out.there)))) | apply Pick.drop))) h))
    · have hok : stpOk x := .inr (.inl ⟨h1, h2, h3⟩)
      have h3' := hpl h3
      by_cases h4 : f + (x.k + (x.d.length : Int)) ≤ 65536
      · rw [sizesF_good hok (by omega) (by omega) (by omega)] at hs
        (try (refine st ?_; intros))
        refine WQ.next (l.length - (i + 1)) ⟨i + 1, _, _, rfl, rfl, rfl, rfl, rfl, ?_, ?_, ?_, ?_⟩ (by omega) (by (repeat (first | exact Env.Sub.nil | refine Env.Sub.cons rfl ?_))) (fun w h => Pick.sat (by iterate 60 (try (first | exact Pick.all | (apply Pick.take; (· (repeat (first | exact Out.here | apply Out.there)))) | apply Pick.drop))) h)
        · omega
        · omega
        · rw [← hs]; congr 1 <;> omega
        · assumption
      · rw [sizesF_bad (by omega)] at hs
        (try (refine st ?_; intros))
        exact q_fin0 (H0 := H) (Gives.mk (by rw [← hs]; try rfl)) (hd := (fun w h => Pick.sat (by iterate 60 (try (first | exact Pick.all | (apply Pick.take; (· (repeat (first | exact Out.here | apply Out.there)))) | apply Pick.drop))) h))
    · rw [sizesF_bad (fun h => by simp [stpOk, h1, h2, h3] at h)] at hs
      (try (refine st ?_; intros))
      exact q_fin0 (H0 := H) (Gives.mk (by rw [← hs]; try rfl)) (hd := (fun w h => Pick.sat (by iterate 60 (try (first | exact Pick.all | (apply Pick.take; (· (repeat (first | exact Out.here | apply Out.there)))) | apply Pick.drop))) h))
    · have h2' := hdl h2
      have h3' := hpl h3
      by_cases h5 : x.k < 0
      · rw [sizesF_bad (fun h => by rcases h.1 with g | g | g <;> omega)] at hs
        (try (refine st ?_; intros))
        exact q_fin0 (H0 := H) (Gives.mk (by rw [← hs]; try rfl)) (hd := (fun w h => Pick.sat (by iterate 60 (try (first | exact Pick.all | (apply Pick.take; (· (repeat (first | exact Out.here | apply Out.there)))) | apply Pick.drop))) h))
      · by_cases h6 : 65536 < x.k
        · rw [sizesF_bad (by omega)] at hs
          (try (refine st ?_; intros))
          exact q_fin0 (H0 := H) (Gives.mk (by rw [← hs]; try rfl)) (hd := (fun w h => Pick.sat (by iterate 60 (try (first | exact Pick.all | (apply Pick.take; (· (repeat (first | exact Out.here | apply Out.there)))) | apply Pick.drop))) h))
        · have hok : stpOk x := .inl ⟨by omega, h2, h3⟩
          by_cases h4 : f + (x.k + (x.d.length : Int)) ≤ 65536
          · by_cases h7 : t + (x.k + (x.p.length : Int)) ≤ 65536
            · rw [sizesF_good hok (by omega) (by omega) (by omega)] at hs
              (try (refine st ?_; intros))
              refine WQ.next (l.length - (i + 1)) ⟨i + 1, _, _, rfl, rfl, rfl, rfl, rfl, ?_, ?_, ?_, ?_⟩ (by omega) (by (repeat (first | exact Env.Sub.nil | refine Env.Sub.cons rfl ?_))) (fun w h => Pick.sat (by iterate 60 (try (first | exact Pick.all | (apply Pick.take; (· (repeat (first | exact Out.here | apply Out.there)))) | apply Pick.drop))) h)
              · omega
              · omega
              · rw [← hs]; congr 1 <;> omega
              · assumption
            · rw [sizesF_bad (by omega)] at hs
              (try (refine st ?_; intros))
              exact q_fin0 (H0 := H) (Gives.mk (by rw [← hs]; try rfl)) (hd := (fun w h => Pick.sat (by iterate 60 (try (first | exact Pick.all | (apply Pick.take; (· (repeat (first | exact Out.here | apply Out.there)))) | apply Pick.drop))) h))
          · rw [sizesF_bad (by omega)] at hs
            (try (refine st ?_; intros))
            exact q_fin0 (H0 := H) (Gives.mk (by rw [← hs]; try rfl)) (hd := (fun w h => Pick.sat (by iterate 60 (try (first | exact Pick.all | (apply Pick.take; (· (repeat (first | exact Out.here | apply Out.there)))) | apply Pick.drop))) h))
    all_goals
      rw [sizesF_bad (fun h => by simp [stpOk, h1, h2, h3] at h)] at hs
      (try (refine st ?_; intros))
      exact q_fin0 (H0 := H) (Gives.mk (by rw [← hs]; try rfl)) (hd := (fun w h => Pick.sat (by iterate 60 (try (first | exact Pick.all | (apply Pick.take; (· (repeat (first | exact Out.here | apply Out.there)))) | apply Pick.drop))) h))
  · obtain rfl : i = l.length := by omega
    rw [List.drop_length, sizesF] at hs
    (try (refine st ?_; intros))
    exact q_fin0 (H0 := H) (Gives.mk (by rw [← hs]; try rfl)) (hd := (fun w h => Pick.sat (by iterate 60 (try (first | exact Pick.all | (apply Pick.take; (· (repeat (first | exact Out.here | apply Out.there)))) | apply Pick.drop))) h))
end Go.Proofs.Ytelgegefmjlimaa

/-
  The walks of package edit, ninth part: where a place goes. No condition.
-/
namespace Go.Eng
/-- what a change that may be bounds -/
theorem sized {l : List Stp} {f t : Int} (h : sizesOf l = some (f, t)) : (∀ s ∈ l, stpOk s) ∧ (atomsOf l).length ≤ 131072 ∧ (atomsOf (plainOf l)).length ≤ 131072 ∧ f = (fromA (atomsOf l) : Int) ∧ t = (toA (atomsOf l) : Int) ∧ 0 ≤ f ∧ f ≤ 65536 ∧ 0 ≤ t ∧ t ≤ 65536 := by
  obtain ⟨h1, h2, h3, h4, h5⟩ := sizesOf_some h
  have hok : ∀ s ∈ l, stpOk s := fun s hs => (h1 s hs).1
  have a1 := atoms_le (atomsOf l)
  have a2 := atoms_le (atomsOf (plainOf l))
  obtain ⟨n1, n2⟩ := nf_sizes l hok
  rw [plain_atoms, n1, n2] at a2
  unfold maxT at h4 h5
  rw [plain_atoms]
  exact ⟨hok, by omega, by omega, h2, h3, by omega, by omega, by omega, by omega⟩
end Go.Eng
namespace Go.Proofs.Ytelgegefmjlimaa
open Go Go.Eng
set_option maxRecDepth 100000
set_option maxHeartbeats 4000000
set_option linter.all false
attribute [local irreducible] WL WC WQ QFun QLoop Does Q1 QRound QAssign Go.Addr.add
theorem move_any {a : Option Addr} {cap : Nat} {l : List Stp} {at_ : Int} {bh : Bool} (hok : ∀ s ∈ l, stpOk s) (hl : (atomsOf l).length ≤ 1000000000) (hat : -1000000000 ≤ at_ ∧ at_ ≤ 1000000000) (w0 : World) (m : Mem) (H : SHeap) (hr : RowR w0 m H 3 a (l.map Stp.cs)) :
    Does Try.prog 41 #[.slice a l.length cap, .int .i64 at_, .bool bh] w0 m H (Gives (.int .i64 (moveOf l at_ bh)) m H) := by
  refine Does.of_body (args := [.slice a l.length cap, .int .i64 at_, .bool bh]) Try.func41 rfl Try.ntmps41 rfl ?_
  have hln : (l.map Stp.cs).length = l.length := by simp
  have hlen := steps_le l hok
  (try (refine st ?_; intros))
  refine WC.loopH [(13, .int .i64 ((0) : Int)), (12, .int .i64 (l.length : Int)), (11, .slice a l.length cap), (1, .int .i64 at_), (2, .bool bh), (7, .int .i64 (0)), (8, .int .i64 (0))] ?_ ?_ (fun j r ds m' H' => ∃ (i : _) (o : Int) (ah : Int), j = l.length - i ∧ r = [(13, .int .i64 (i : Int)), (12, .int .i64 (l.length : Int)), (11, .slice a l.length cap), (1, .int .i64 at_), (2, .bool bh), (7, .int .i64 o), (8, .int .i64 ah)] ∧ ds = [] ∧ m = m' ∧ H' = H ∧ (i ≤ l.length) ∧ (0 ≤ o ∧ o ≤ ((atomsOf (l.take i)).length : Int) ∧ 0 ≤ ah ∧ ah ≤ ((atomsOf (l.take i)).length : Int)) ∧ ((l.drop i).foldl (moveStep at_ bh) (o, ah) = l.foldl (moveStep at_ bh) (0, 0)) ∧ (RowR w0 m H 3 a (l.map Stp.cs))) (l.length - (0)) ⟨0, 0, 0, rfl, rfl, rfl, rfl, rfl, by omega, by simp, rfl, hr⟩ ?_
  · (repeat (first | exact Env.Sub.nil | refine Env.Sub.cons rfl ?_))
  · exact (fun w h => Pick.sat (by iterate 60 (try (first | exact Pick.all | (apply Pick.take; (· (repeat (first | exact Out.here | apply Out.there)))) | apply Pick.drop))) h)
  rintro j r ds m' H' ⟨i, o, ah, rfl, rfl, rfl, rfl, rfl, hi, hb, hs, hr⟩
  generalize H' = H at *
  by_cases hlt : i < l.length
  · obtain ⟨x, hx, hget, htk, hmem, hdr⟩ := at_idx (f := Stp.cs) hlt
    have hxl : (atomsOf (l.take (i + 1))).length = (atomsOf (l.take i)).length + x.atoms.length := by rw [htk, atoms_append, atoms_one, List.length_append]
    have hxm : (atomsOf (l.take (i + 1))).length ≤ (atomsOf l).length := by
      have e : atomsOf l = atomsOf (l.take (i + 1)) ++ atomsOf (l.drop (i + 1)) := by rw [← atoms_append, List.take_append_drop]
      rw [e, List.length_append]; omega
    rw [atoms_len] at hxl
    rw [hdr, List.foldl_cons] at hs
    refine WC.rSome hr (by omega) ?_
    rintro a0 rfl
    rcases hok x hmem with ⟨h1, h2, h3⟩ | ⟨h1, h2, h3⟩ | ⟨h1, h2, h3⟩
    · have e : moveStep at_ bh (o, ah) x = (o + max 0 (min x.k (at_ - ah)), ah + x.k) := by simp [moveStep, h2, h3]
      rw [e] at hs
      (try (refine st ?_; intros))
      refine WQ.next (l.length - (i + 1)) ⟨i + 1, o + max 0 (min x.k (at_ - ah)), ah + x.k, rfl, rfl, rfl, rfl, rfl, ?_, ?_, ?_, ?_⟩ (by omega) (by (repeat (first | exact Env.Sub.nil | refine Env.Sub.cons rfl ?_))) (fun w h => Pick.sat (by iterate 60 (try (first | exact Pick.all | (apply Pick.take; (· (repeat (first | exact Out.here | apply Out.there)))) | apply Pick.drop))) h)
      · omega
      · omega
      · exact hs
      · assumption
    · have e : moveStep at_ bh (o, ah) x = (o, ah + x.d.length) := by simp [moveStep, h2, h3]
      rw [e] at hs
      (try (refine st ?_; intros))
      refine WQ.next (l.length - (i + 1)) ⟨i + 1, o, ah + x.d.length, rfl, rfl, rfl, rfl, rfl, ?_, ?_, ?_, ?_⟩ (by omega) (by (repeat (first | exact Env.Sub.nil | refine Env.Sub.cons rfl ?_))) (fun w h => Pick.sat (by iterate 60 (try (first | exact Pick.all | (apply Pick.take; (· (repeat (first | exact Out.here | apply Out.there)))) | apply Pick.drop))) h)
      · omega
      · omega
      · exact hs
      · assumption
    · rcases (show ah < at_ ∨ ah = at_ ∨ at_ < ah by omega) with h4 | h4 | h4
      · have e : moveStep at_ bh (o, ah) x = (o + x.p.length, ah) := by simp [moveStep, h3, h4]
        rw [e] at hs
        (try (refine st ?_; intros))
        refine WQ.next (l.length - (i + 1)) ⟨i + 1, o + x.p.length, ah, rfl, rfl, rfl, rfl, rfl, ?_, ?_, ?_, ?_⟩ (by omega) (by (repeat (first | exact Env.Sub.nil | refine Env.Sub.cons rfl ?_))) (fun w h => Pick.sat (by iterate 60 (try (first | exact Pick.all | (apply Pick.take; (· (repeat (first | exact Out.here | apply Out.there)))) | apply Pick.drop))) h)
        · omega
        · omega
        · exact hs
        · assumption
      · cases bh with
        | true =>
          have e : moveStep at_ true (o, ah) x = (o + x.p.length, ah) := by simp [moveStep, h3, h4]
          rw [e] at hs
          (try (refine st ?_; intros))
          refine WQ.next (l.length - (i + 1)) ⟨i + 1, o + x.p.length, ah, rfl, rfl, rfl, rfl, rfl, ?_, ?_, ?_, ?_⟩ (by omega) (by (repeat (first | exact Env.Sub.nil | refine Env.Sub.cons rfl ?_))) (fun w h => Pick.sat (by iterate 60 (try (first | exact Pick.all | (apply Pick.take; (· (repeat (first | exact Out.here | apply Out.there)))) | apply Pick.drop))) h)
          · omega
          · omega
          · exact hs
          · assumption
        | false =>
          have e : moveStep at_ false (o, ah) x = (o, ah) := by simp [moveStep, h3, h4]
          rw [e] at hs
          (try (refine st ?_; intros))
          refine WQ.next (l.length - (i + 1)) ⟨i + 1, o, ah, rfl, rfl, rfl, rfl, rfl, ?_, ?_, ?_, ?_⟩ (by omega) (by (repeat (first | exact Env.Sub.nil | refine Env.Sub.cons rfl ?_))) (fun w h => Pick.sat (by iterate 60 (try (first | exact Pick.all | (apply Pick.take; (· (repeat (first | exact Out.here | apply Out.there)))) | apply Pick.drop))) h)
          · omega
          · omega
          · exact hs
          · assumption
      · have e : moveStep at_ bh (o, ah) x = (o, ah) := by
          simp only [moveStep]
          rw [if_pos h3, if_neg (by omega)]
        rw [e] at hs
        (try (refine st ?_; intros))
        refine WQ.next (l.length - (i + 1)) ⟨i + 1, o, ah, rfl, rfl, rfl, rfl, rfl, ?_, ?_, ?_, ?_⟩ (by omega) (by (repeat (first | exact Env.Sub.nil | refine Env.Sub.cons rfl ?_))) (fun w h => Pick.sat (by iterate 60 (try (first | exact Pick.all | (apply Pick.take; (· (repeat (first | exact Out.here | apply Out.there)))) | apply Pick.drop))) h)
        · omega
        · omega
        · exact hs
        · assumption
  · obtain rfl : i = l.length := by omega
    rw [List.drop_length, List.foldl_nil] at hs
    (try (refine st ?_; intros))
    exact q_fin0 (H0 := H) (Gives.mk (by rw [moveOf, ← hs])) (hd := (fun w h => Pick.sat (by iterate 60 (try (first | exact Pick.all | (apply Pick.take; (· (repeat (first | exact Out.here | apply Out.there)))) | apply Pick.drop))) h))
def moveV (l : List Stp) (at_ : Int) (bh : Bool) : Value := match sizesOf l with
  | none => .tuple #[.int .i64 0, .int .i64 2]
  | some (f, _) => if at_ < 0 ∨ f < at_ then .tuple #[.int .i64 0, .int .i64 5] else .tuple #[.int .i64 (moveOf (plainOf l) at_ bh), .int .i64 0]
theorem sq_E9_1 {G : Prop} (h : G := by (repeat (first | (refine sp ?_; (repeat intro zzc)) | (refine iF 40 rfl ?_; refine w_callG Try.func40 ?_ (hs := sizes_any (by assumption) _ _ _ (by assumption))))); exact WQ.q1 rfl) : G := h
theorem st_E9_1 {G G' : Prop} (next : G') (h : Bx G' → G := by intro zzn; (first | ((refine st ?_; (repeat intro zzc)); (try ((first | (refine iF 40 rfl ?_; refine w_callG Try.func40 ?_ (hs := sizes_any (by assumption) _ _ _ (by assumption))) | ((refine iDraw ?_; (first | refine WC.drawAll rfl (by decide +kernel) ?_ | refine WC.draw 1 rfl (by decide +kernel) ?_ | refine WC.draw 2 rfl (by decide +kernel) ?_ | refine WC.draw 3 rfl (by decide +kernel) ?_ | refine WC.draw 4 rfl (by decide +kernel) ?_ | refine WC.draw 5 rfl (by decide +kernel) ?_ | refine WC.draw 6 rfl (by decide +kernel) ?_ | refine WC.draw 7 rfl (by decide +kernel) ?_ | refine WC.draw 8 rfl (by decide +kernel) ?_ | refine WC.draw 9 rfl (by decide +kernel) ?_ | refine WC.draw 10 rfl (by decide +kernel) ?_ | refine WC.draw 11 rfl (by decide +kernel) ?_ | refine WC.draw 12 rfl (by decide +kernel) ?_ | refine WC.draw 13 rfl (by decide +kernel) ?_ | refine WC.draw 14 rfl (by decide +kernel) ?_ | refine WC.draw 15 rfl (by decide +kernel) ?_ | refine WC.draw 16 rfl (by decide +kernel) ?_ | refine WC.draw 17 rfl (by decide +kernel) ?_ | refine WC.draw 18 rfl (by decide +kernel) ?_ | refine WC.draw 19 rfl (by decide +kernel) ?_ | refine WC.draw 20 rfl (by decide +kernel) ?_ | refine WC.draw 21 rfl (by decide +kernel) ?_ | refine WC.draw 22 rfl (by decide +kernel) ?_ | refine WC.draw 23 rfl (by decide +kernel) ?_ | refine WC.draw 24 rfl (by decide +kernel) ?_)); (repeat (refine WD.cons rfl (fun c h => by cases h) sq_E9_1 ?_)); refine WD.nil ?_)); (try (refine st ?_; (repeat intro zzc)))))) | ((first | (refine iF 40 rfl ?_; refine w_callG Try.func40 ?_ (hs := sizes_any (by assumption) _ _ _ (by assumption))) | ((refine iDraw ?_; (first | refine WC.drawAll rfl (by decide +kernel) ?_ | refine WC.draw 1 rfl (by decide +kernel) ?_ | refine WC.draw 2 rfl (by decide +kernel) ?_ | refine WC.draw 3 rfl (by decide +kernel) ?_ | refine WC.draw 4 rfl (by decide +kernel) ?_ | refine WC.draw 5 rfl (by decide +kernel) ?_ | refine WC.draw 6 rfl (by decide +kernel) ?_ | refine WC.draw 7 rfl (by decide +kernel) ?_ | refine WC.draw 8 rfl (by decide +kernel) ?_ | refine WC.draw 9 rfl (by decide +kernel) ?_ | refine WC.draw 10 rfl (by decide +kernel) ?_ | refine WC.draw 11 rfl (by decide +kernel) ?_ | refine WC.draw 12 rfl (by decide +kernel) ?_ | refine WC.draw 13 rfl (by decide +kernel) ?_ | refine WC.draw 14 rfl (by decide +kernel) ?_ | refine WC.draw 15 rfl (by decide +kernel) ?_ | refine WC.draw 16 rfl (by decide +kernel) ?_ | refine WC.draw 17 rfl (by decide +kernel) ?_ | refine WC.draw 18 rfl (by decide +kernel) ?_ | refine WC.draw 19 rfl (by decide +kernel) ?_ | refine WC.draw 20 rfl (by decide +kernel) ?_ | refine WC.draw 21 rfl (by decide +kernel) ?_ | refine WC.draw 22 rfl (by decide +kernel) ?_ | refine WC.draw 23 rfl (by decide +kernel) ?_ | refine WC.draw 24 rfl (by decide +kernel) ?_)); (repeat (refine WD.cons rfl (fun c h => by cases h) sq_E9_1 ?_)); refine WD.nil ?_)); (try (refine st ?_; (repeat intro zzc))))); (repeat ((first | (refine iF 40 rfl ?_; refine w_callG Try.func40 ?_ (hs := sizes_any (by assumption) _ _ _ (by assumption))) | ((refine iDraw ?_; (first | refine WC.drawAll rfl (by decide +kernel) ?_ | refine WC.draw 1 rfl (by decide +kernel) ?_ | refine WC.draw 2 rfl (by decide +kernel) ?_ | refine WC.draw 3 rfl (by decide +kernel) ?_ | refine WC.draw 4 rfl (by decide +kernel) ?_ | refine WC.draw 5 rfl (by decide +kernel) ?_ | refine WC.draw 6 rfl (by decide +kernel) ?_ | refine WC.draw 7 rfl (by decide +kernel) ?_ | refine WC.draw 8 rfl (by decide +kernel) ?_ | refine WC.draw 9 rfl (by decide +kernel) ?_ | refine WC.draw 10 rfl (by decide +kernel) ?_ | refine WC.draw 11 rfl (by decide +kernel) ?_ | refine WC.draw 12 rfl (by decide +kernel) ?_ | refine WC.draw 13 rfl (by decide +kernel) ?_ | refine WC.draw 14 rfl (by decide +kernel) ?_ | refine WC.draw 15 rfl (by decide +kernel) ?_ | refine WC.draw 16 rfl (by decide +kernel) ?_ | refine WC.draw 17 rfl (by decide +kernel) ?_ | refine WC.draw 18 rfl (by decide +kernel) ?_ | refine WC.draw 19 rfl (by decide +kernel) ?_ | refine WC.draw 20 rfl (by decide +kernel) ?_ | refine WC.draw 21 rfl (by decide +kernel) ?_ | refine WC.draw 22 rfl (by decide +kernel) ?_ | refine WC.draw 23 rfl (by decide +kernel) ?_ | refine WC.draw 24 rfl (by decide +kernel) ?_)); (repeat (refine WD.cons rfl (fun c h => by cases h) sq_E9_1 ?_)); refine WD.nil ?_)); (try (refine st ?_; (repeat intro zzc))))); (repeat revert zzc); exact zzn.out) : G := h ⟨next⟩
theorem eMove_any {a : Option Addr} {cap : Nat} {l : List Stp} {at_ : Int} {bh : Bool} (hf : Fit l) (w0 : World) (m : Mem) (H : SHeap) (hr : RowR w0 m H 3 a (l.map Stp.cs)) :
    Does Try.prog 15 #[.slice a l.length cap, .int .i64 at_, .bool bh] w0 m H (Gives (moveV l at_ bh) m H) := by
  refine Does.of_body (args := [.slice a l.length cap, .int .i64 at_, .bool bh]) Try.func15 rfl Try.ntmps15 rfl ?_
  cases hs : sizesOf l with
  | none =>
    have e : moveV l at_ bh = .tuple #[.int .i64 0, .int .i64 2] := by simp [moveV, hs]
    have e2 : szP (sizesOf l) = .tuple #[.int .i64 0, .int .i64 0, .int .i64 2] := by rw [hs]; rfl
    rw [e]
    (try (refine st_E9_1 ?_; intros))
    rw [e2]
    (try (refine st_E9_1 ?_; intros))
    exact q_fin0 (H0 := H) (Gives.mk rfl) (hd := (fun w h => Pick.sat (by iterate 60 (try (first | exact Pick.all | (apply Pick.take; (· (repeat (first | exact Out.here | apply Out.there)))) | apply Pick.drop))) h))
  | some ft =>
    obtain ⟨f, t⟩ := ft
    have e2 : szP (sizesOf l) = .tuple #[.int .i64 f, .int .i64 t, .int .i64 0] := by rw [hs]; rfl
    obtain ⟨hok, hal, hpl, _, _, g1, g2, _, _⟩ := sized hs
    by_cases h1 : at_ < 0 ∨ f < at_
    · have e : moveV l at_ bh = .tuple #[.int .i64 0, .int .i64 5] := by simp [moveV, hs, h1]
      rw [e]
      rcases (show at_ < 0 ∨ (0 ≤ at_ ∧ f < at_) by omega) with h2 | h2
      all_goals ((try (refine st_E9_1 ?_; intros)); rw [e2]; (try (refine st_E9_1 ?_; intros)); exact q_fin0 (H0 := H) (Gives.mk rfl) (hd := (fun w h => Pick.sat (by iterate 60 (try (first | exact Pick.all | (apply Pick.take; (· (repeat (first | exact Out.here | apply Out.there)))) | apply Pick.drop))) h)))
    · have e : moveV l at_ bh = .tuple #[.int .i64 (moveOf (plainOf l) at_ bh), .int .i64 0] := by simp [moveV, hs, h1]
      rw [e]
      (try (refine st_E9_1 ?_; intros))
      rw [e2]
      (try (refine st_E9_1 ?_; intros))
      refine w_callF Try.func42 ?_ (hs := plain_any hok (by omega) _ _ _ hr)
      rintro v m1 H1 ⟨rfl, c, cp, rfl, rfl⟩
      (try (refine st_E9_1 ?_; intros))
      refine w_callF Try.func41 ?_ (hs := move_any (plain_ok l) (by omega) (by omega) _ _ _ (RowR.row (by (repeat (first | exact List.Mem.head _ | apply List.Mem.tail)))))
      rintro v m2 H2 ⟨rfl, rfl, rfl⟩
      (try (refine st_E9_1 ?_; intros))
      exact q_fin0 (H0 := H) (Gives.mk rfl) (hd := (fun w h => Pick.sat (by iterate 60 (try (first | exact Pick.all | (apply Pick.take; (· (repeat (first | exact Out.here | apply Out.there)))) | apply Pick.drop))) h))
end Go.Proofs.Ytelgegefmjlimaa

/-
  Plain facts on changes: composing them by parts of steps. No condition.
-/
namespace Go.Eng
open Go
theorem notPut_atoms {Y : List Stp} (h : ∀ y ∈ Y, stpOk y) (hp : ∀ t Y', Y = t :: Y' → t.p = []) : notPut (atomsOf Y) = true := by
  cases Y with
  | nil => rfl
  | cons t Y' =>
    have ht := hp t Y' rfl
    rw [atoms_cons]
    rcases step_kinds (h t List.mem_cons_self) with ⟨h1, h2, h3, e⟩ | ⟨h1, h2, h3, e⟩ | ⟨h1, h2, h3, e⟩
    · rw [e]
      obtain ⟨n, hn⟩ : ∃ n, t.k.toNat = n + 1 := ⟨t.k.toNat - 1, by omega⟩
      rw [hn, List.replicate_succ]; rfl
    · rw [e]
      cases hd : t.d with
      | nil => exact absurd hd h2
      | cons b d => rfl
    · exact absurd ht h3
theorem comp_put {X Y : List Stp} {t : Stp} (ht : stpOk t) (hp : t.p ≠ []) : compA (atomsOf X) (atomsOf (t :: Y)) = (compA (atomsOf X) (atomsOf Y)).map (t.atoms ++ ·) := by
  rcases step_kinds ht with ⟨h1, h2, h3, e⟩ | ⟨h1, h2, h3, e⟩ | ⟨h1, h2, h3, e⟩
  · exact absurd h3 hp
  · exact absurd h3 hp
  · rw [atoms_cons, e, compA_ps]
theorem comp_drop {X Y : List Stp} {s : Stp} (hs : stpOk s) (hd : s.d ≠ []) (hY : ∀ y ∈ Y, stpOk y) (hp : ∀ t Y', Y = t :: Y' → t.p = []) : compA (atomsOf (s :: X)) (atomsOf Y) = (compA (atomsOf X) (atomsOf Y)).map (s.atoms ++ ·) := by
  rcases step_kinds hs with ⟨h1, h2, h3, e⟩ | ⟨h1, h2, h3, e⟩ | ⟨h1, h2, h3, e⟩
  · exact absurd h2 hd
  · rw [atoms_cons, e, compA_ds _ _ _ (notPut_atoms hY hp)]
  · exact absurd h2 hd
theorem comp_nilY {X : List Stp} (hX : ∀ x ∈ X, stpOk x) (hd : ∀ s X', X = s :: X' → s.d = []) : compA (atomsOf X) (atomsOf []) = some [] := by
  cases X with
  | nil => rw [show atomsOf [] = [] from rfl, compA]
  | cons s X' =>
    have h := hd s X' rfl
    rw [atoms_cons, show atomsOf [] = [] from rfl]
    rcases step_kinds (hX s List.mem_cons_self) with ⟨h1, h2, h3, e⟩ | ⟨h1, h2, h3, e⟩ | ⟨h1, h2, h3, e⟩
    · rw [e]
      obtain ⟨n, hn⟩ : ∃ n, s.k.toNat = n + 1 := ⟨s.k.toNat - 1, by omega⟩
      rw [hn, List.replicate_succ, List.cons_append, compA]
    · exact absurd h h2
    · rw [e]
      cases hp : s.p with
      | nil => exact absurd hp h3
      | cons b p => rw [List.map_cons, List.cons_append, compA]
theorem comp_nilX {Y : List Stp} (hY : ∀ y ∈ Y, stpOk y) (hp : ∀ t Y', Y = t :: Y' → t.p = []) : compA (atomsOf []) (atomsOf Y) = some [] := compA_nil _ (notPut_atoms hY hp)
/-- one round: so many bytes of both -/
theorem comp_both {X Y : List Stp} {s t : Stp} {n : Nat} (hX : ∀ x ∈ s :: X, stpOk x) (hY : ∀ y ∈ t :: Y, stpOk y) (hd : s.d = []) (hp : t.p = []) (h0 : 0 < n) (hs : n ≤ s.atoms.length) (ht : n ≤ t.atoms.length) :
    compA (atomsOf (s :: X)) (atomsOf (t :: Y)) = if 0 < (takeS s n).k then (compA (atomsOf (restS s n X)) (atomsOf (restS t n Y))).map ((takeS t n).atoms ++ ·)
      else if 0 < (takeS t n).k then (compA (atomsOf (restS s n X)) (atomsOf (restS t n Y))).map ((takeS s n).atoms ++ ·)
      else if (takeS s n).p = (takeS t n).d then compA (atomsOf (restS s n X)) (atomsOf (restS t n Y)) else none := by
  have a1 := takeS_kind (hX s List.mem_cons_self) h0 hs
  have a2 := takeS_kind (hY t List.mem_cons_self) h0 ht
  have o1 := (takeS_ok (hX s List.mem_cons_self) h0 hs).1
  have o2 := (takeS_ok (hY t List.mem_cons_self) h0 ht).1
  rw [parts_S hX h0 hs, parts_S hY h0 ht]
  generalize takeS s n = s1 at *
  generalize takeS t n = t1 at *
  have d1 : s1.d = [] := a1.2.1.2 hd
  have p2 : t1.p = [] := a2.2.2.1.2 hp
  have l1 := a1.2.2.2
  have l2 := a2.2.2.2
  rcases step_kinds o1 with ⟨h1, h2, h3, e⟩ | ⟨h1, h2, h3, e⟩ | ⟨h1, h2, h3, e⟩
  · rw [if_pos h1, e]
    have el : s1.k.toNat = n := by rw [e] at l1; simpa using l1
    rcases step_kinds o2 with ⟨g1, g2, g3, f⟩ | ⟨g1, g2, g3, f⟩ | ⟨g1, g2, g3, f⟩
    · have el2 : t1.k.toNat = n := by rw [f] at l2; simpa using l2
      rw [f, el, el2, compA_kk]
    · have el2 : t1.d.length = n := by rw [f] at l2; simpa using l2
      rw [f, el, ← el2, compA_kd]
    · exact absurd p2 g3
  · exact absurd d1 h2
  · rw [if_neg (by omega), e]
    have el : s1.p.length = n := by rw [e] at l1; simpa using l1
    rcases step_kinds o2 with ⟨g1, g2, g3, f⟩ | ⟨g1, g2, g3, f⟩ | ⟨g1, g2, g3, f⟩
    · have el2 : t1.k.toNat = n := by rw [f] at l2; simpa using l2
      rw [if_pos g1, f, el2, ← el, compA_pk]
    · have el2 : t1.d.length = n := by rw [f] at l2; simpa using l2
      rw [if_neg (by omega), f, compA_pd _ _ _ _ (by omega)]
    · exact absurd p2 g3
/-- what two changes come to, one behind the other -/
def compP (a b : List Stp) : Int ⊕ List Stp := match sizesOf a, sizesOf b with
  | some (_, mid), some (from_, _) => if mid ≠ from_ then .inl 5 else match compA (nfOf (gapsOf a)) (nfOf (gapsOf b)) with
    | none => .inl 270
    | some o => .inr (Bld.start.run o).close.l
  | _, _ => .inl 2
end Go.Eng

