/-
  Parts of a walk, joined: O3 O4 O5 O6 O7. No condition.
-/
import Derived.Test.YtljfncpecpkhhaaP4
set_option linter.all false
/-
  The walks of a rope's nodes, third part: turned, joined. No condition.
-/
namespace Go.Proofs.Ytljfncpecpkhhaa
open Go Go.Eng
set_option maxRecDepth 100000
set_option maxHeartbeats 4000000
set_option linter.all false
attribute [local irreducible] WL WC WQ QFun QLoop Does Q1 QRound QAssign Go.Addr.add
section
variable {ro : Option Nat} {n : Nat} {w0 : World} {Q : Exit → Act → World → Prop} {r : Env} {ds : List Nat} {m : Mem} {H : SHeap} {ops : Array Oper} {l : List Oper} {d : Nat} {ty : TypeId} {pos : String} {after : Array Edge}
theorem w_asAny {T : Nd} {v : Value} {x : Operand} {xt : TypeId} (hx : r.ev x = some v) (hT : NAt m T v) (hd : Nat.blt d n = true) (h : ∀ p q, WL Try.prog ro n w0 ops Q l ((d, .tuple #[.pointer p, .bool q]) :: r) ds m H) :
    WL Try.prog ro n w0 ops Q (⟨some d, .typeAssert x xt 119 true, ty, pos, after, none⟩ :: l) r ds m H := by
  cases T with
  | leaf s =>
    cases hT
    exact WL.assertNo (z := .pointer none) hx rfl (by kernel_rfl) (fun _ => by kernel_rfl) hd (h _ _)
  | joint a b =>
    obtain ⟨q, vl, vr, rfl, h1, _⟩ := hT
    exact WL.assertYes hx (by kernel_rfl) hd (h _ _)
end
def Tied (A B : Nd) (m : Mem) (H : SHeap) : Value → Mem → SHeap → Prop := fun v m' H' => m.le m' ∧ H' = H ∧ ∃ T, NAt m' T v ∧ T.Ok ∧ T.text = A.text ++ B.text
theorem size_parts {a b : Nd} : (Nd.joint a b).size = a.size + b.size := Nd.size_joint a b
theorem sq_O3_1 {G : Prop} (h : G := by (repeat (first | (refine sp ?_; (repeat intro zzc)) | (refine iInv rfl ?_; first | refine w_size rfl (by assumption) rfl ?_ | refine w_depth rfl (by assumption) rfl ?_))); exact WQ.q1 rfl) : G := h
theorem st_O3_1 {G G' : Prop} (next : G') (h : Bx G' → G := by intro zzn; (first | ((refine st ?_; (repeat intro zzc)); (try ((first | (refine iInv rfl ?_; first | refine w_size rfl (by assumption) rfl ?_ | refine w_depth rfl (by assumption) rfl ?_) | ((refine iDraw ?_; (first | refine WC.drawAll rfl (by decide +kernel) ?_ | refine WC.draw 1 rfl (by decide +kernel) ?_ | refine WC.draw 2 rfl (by decide +kernel) ?_ | refine WC.draw 3 rfl (by decide +kernel) ?_ | refine WC.draw 4 rfl (by decide +kernel) ?_ | refine WC.draw 5 rfl (by decide +kernel) ?_ | refine WC.draw 6 rfl (by decide +kernel) ?_ | refine WC.draw 7 rfl (by decide +kernel) ?_ | refine WC.draw 8 rfl (by decide +kernel) ?_ | refine WC.draw 9 rfl (by decide +kernel) ?_ | refine WC.draw 10 rfl (by decide +kernel) ?_ | refine WC.draw 11 rfl (by decide +kernel) ?_ | refine WC.draw 12 rfl (by decide +kernel) ?_ | refine WC.draw 13 rfl (by decide +kernel) ?_ | refine WC.draw 14 rfl (by decide +kernel) ?_ | refine WC.draw 15 rfl (by decide +kernel) ?_ | refine WC.draw 16 rfl (by decide +kernel) ?_ | refine WC.draw 17 rfl (by decide +kernel) ?_ | refine WC.draw 18 rfl (by decide +kernel) ?_ | refine WC.draw 19 rfl (by decide +kernel) ?_ | refine WC.draw 20 rfl (by decide +kernel) ?_ | refine WC.draw 21 rfl (by decide +kernel) ?_ | refine WC.draw 22 rfl (by decide +kernel) ?_ | refine WC.draw 23 rfl (by decide +kernel) ?_ | refine WC.draw 24 rfl (by decide +kernel) ?_)); (repeat (refine WD.cons rfl (fun c h => by cases h) sq_O3_1 ?_)); refine WD.nil ?_)); (try (refine st ?_; (repeat intro zzc)))))) | ((first | (refine iInv rfl ?_; first | refine w_size rfl (by assumption) rfl ?_ | refine w_depth rfl (by assumption) rfl ?_) | ((refine iDraw ?_; (first | refine WC.drawAll rfl (by decide +kernel) ?_ | refine WC.draw 1 rfl (by decide +kernel) ?_ | refine WC.draw 2 rfl (by decide +kernel) ?_ | refine WC.draw 3 rfl (by decide +kernel) ?_ | refine WC.draw 4 rfl (by decide +kernel) ?_ | refine WC.draw 5 rfl (by decide +kernel) ?_ | refine WC.draw 6 rfl (by decide +kernel) ?_ | refine WC.draw 7 rfl (by decide +kernel) ?_ | refine WC.draw 8 rfl (by decide +kernel) ?_ | refine WC.draw 9 rfl (by decide +kernel) ?_ | refine WC.draw 10 rfl (by decide +kernel) ?_ | refine WC.draw 11 rfl (by decide +kernel) ?_ | refine WC.draw 12 rfl (by decide +kernel) ?_ | refine WC.draw 13 rfl (by decide +kernel) ?_ | refine WC.draw 14 rfl (by decide +kernel) ?_ | refine WC.draw 15 rfl (by decide +kernel) ?_ | refine WC.draw 16 rfl (by decide +kernel) ?_ | refine WC.draw 17 rfl (by decide +kernel) ?_ | refine WC.draw 18 rfl (by decide +kernel) ?_ | refine WC.draw 19 rfl (by decide +kernel) ?_ | refine WC.draw 20 rfl (by decide +kernel) ?_ | refine WC.draw 21 rfl (by decide +kernel) ?_ | refine WC.draw 22 rfl (by decide +kernel) ?_ | refine WC.draw 23 rfl (by decide +kernel) ?_ | refine WC.draw 24 rfl (by decide +kernel) ?_)); (repeat (refine WD.cons rfl (fun c h => by cases h) sq_O3_1 ?_)); refine WD.nil ?_)); (try (refine st ?_; (repeat intro zzc))))); (repeat ((first | (refine iInv rfl ?_; first | refine w_size rfl (by assumption) rfl ?_ | refine w_depth rfl (by assumption) rfl ?_) | ((refine iDraw ?_; (first | refine WC.drawAll rfl (by decide +kernel) ?_ | refine WC.draw 1 rfl (by decide +kernel) ?_ | refine WC.draw 2 rfl (by decide +kernel) ?_ | refine WC.draw 3 rfl (by decide +kernel) ?_ | refine WC.draw 4 rfl (by decide +kernel) ?_ | refine WC.draw 5 rfl (by decide +kernel) ?_ | refine WC.draw 6 rfl (by decide +kernel) ?_ | refine WC.draw 7 rfl (by decide +kernel) ?_ | refine WC.draw 8 rfl (by decide +kernel) ?_ | refine WC.draw 9 rfl (by decide +kernel) ?_ | refine WC.draw 10 rfl (by decide +kernel) ?_ | refine WC.draw 11 rfl (by decide +kernel) ?_ | refine WC.draw 12 rfl (by decide +kernel) ?_ | refine WC.draw 13 rfl (by decide +kernel) ?_ | refine WC.draw 14 rfl (by decide +kernel) ?_ | refine WC.draw 15 rfl (by decide +kernel) ?_ | refine WC.draw 16 rfl (by decide +kernel) ?_ | refine WC.draw 17 rfl (by decide +kernel) ?_ | refine WC.draw 18 rfl (by decide +kernel) ?_ | refine WC.draw 19 rfl (by decide +kernel) ?_ | refine WC.draw 20 rfl (by decide +kernel) ?_ | refine WC.draw 21 rfl (by decide +kernel) ?_ | refine WC.draw 22 rfl (by decide +kernel) ?_ | refine WC.draw 23 rfl (by decide +kernel) ?_ | refine WC.draw 24 rfl (by decide +kernel) ?_)); (repeat (refine WD.cons rfl (fun c h => by cases h) sq_O3_1 ?_)); refine WD.nil ?_)); (try (refine st ?_; (repeat intro zzc))))); (repeat revert zzc); exact zzn.out) : G := h ⟨next⟩
theorem cmx_O3_0 {G G' : Prop} (next : G') (h : Bx G' → G := by intro zzn; (try (refine wcal 0 ?_ (hwl := by intro zm zF zle; have zb := zle _ _ hqa; exact sq_O3_1))); (try (refine wcal 1 ?_ (hwl := by intro zm zF zle; have zb := zle _ _ hqa; exact sq_O3_1))); (try (refine wcal 2 ?_ (hwl := by intro zm zF zle; have zb := zle _ _ hqa; exact sq_O3_1))); (try (refine wcal 3 ?_ (hwl := by intro zm zF zle; have zb := zle _ _ hqa; exact sq_O3_1))); (try (refine wcal 4 ?_ (hwl := by intro zm zF zle; have zb := zle _ _ hqa; exact sq_O3_1))); (try (refine wcal 5 ?_ (hwl := by intro zm zF zle; have zb := zle _ _ hqa; exact sq_O3_1))); (try (refine wcal 6 ?_ (hwl := by intro zm zF zle; have zb := zle _ _ hqa; exact sq_O3_1))); (try (refine wcal 7 ?_ (hwl := by intro zm zF zle; have zb := zle _ _ hqa; exact sq_O3_1))); (try (refine wcal 8 ?_ (hwl := by intro zm zF zle; have zb := zle _ _ hqa; exact sq_O3_1))); (try (refine wcal 9 ?_ (hwl := by intro zm zF zle; have zb := zle _ _ hqa; exact sq_O3_1))); (try (refine wcal 10 ?_ (hwl := by intro zm zF zle; have zb := zle _ _ hqa; exact sq_O3_1))); (try (refine wcal 11 ?_ (hwl := by intro zm zF zle; have zb := zle _ _ hqa; exact sq_O3_1))); (try (refine wcal 12 ?_ (hwl := by intro zm zF zle; have zb := zle _ _ hqa; exact sq_O3_1))); (try (refine wcal 13 ?_ (hwl := by intro zm zF zle; have zb := zle _ _ hqa; exact sq_O3_1))); (try (refine wcal 14 ?_ (hwl := by intro zm zF zle; have zb := zle _ _ hqa; exact sq_O3_1))); (try (refine wcal 15 ?_ (hwl := by intro zm zF zle; have zb := zle _ _ hqa; exact sq_O3_1))); (try (refine wcal 16 ?_ (hwl := by intro zm zF zle; have zb := zle _ _ hqa; exact sq_O3_1))); (try (refine wcal 17 ?_ (hwl := by intro zm zF zle; have zb := zle _ _ hqa; exact sq_O3_1))); (try (refine wcal 18 ?_ (hwl := by intro zm zF zle; have zb := zle _ _ hqa; exact sq_O3_1))); (try (refine wcal 19 ?_ (hwl := by intro zm zF zle; have zb := zle _ _ hqa; exact sq_O3_1))); (try (refine wcal 20 ?_ (hwl := by intro zm zF zle; have zb := zle _ _ hqa; exact sq_O3_1))); (try (refine wcal 21 ?_ (hwl := by intro zm zF zle; have zb := zle _ _ hqa; exact sq_O3_1))); (try (refine wcal 22 ?_ (hwl := by intro zm zF zle; have zb := zle _ _ hqa; exact sq_O3_1))); (try (refine wcal 23 ?_ (hwl := by intro zm zF zle; have zb := zle _ _ hqa; exact sq_O3_1))); (try (refine wcal 24 ?_ (hwl := by intro zm zF zle; have zb := zle _ _ hqa; exact sq_O3_1))); (try (refine wcal 25 ?_ (hwl := by intro zm zF zle; have zb := zle _ _ hqa; exact sq_O3_1))); (try (refine wcal 26 ?_ (hwl := by intro zm zF zle; have zb := zle _ _ hqa; exact sq_O3_1))); (try (refine wcal 27 ?_ (hwl := by intro zm zF zle; have zb := zle _ _ hqa; exact sq_O3_1))); (try (refine wcal 28 ?_ (hwl := by intro zm zF zle; have zb := zle _ _ hqa; exact sq_O3_1))); (try (refine wcal 29 ?_ (hwl := by intro zm zF zle; have zb := zle _ _ hqa; exact sq_O3_1))); (try (refine wcal 30 ?_ (hwl := by intro zm zF zle; have zb := zle _ _ hqa; exact sq_O3_1))); (try (refine wcal 31 ?_ (hwl := by intro zm zF zle; have zb := zle _ _ hqa; exact sq_O3_1))); (try (refine wcal 32 ?_ (hwl := by intro zm zF zle; have zb := zle _ _ hqa; exact sq_O3_1))); (try (refine wcal 33 ?_ (hwl := by intro zm zF zle; have zb := zle _ _ hqa; exact sq_O3_1))); (try (refine wcal 34 ?_ (hwl := by intro zm zF zle; have zb := zle _ _ hqa; exact sq_O3_1))); (try (refine wcal 35 ?_ (hwl := by intro zm zF zle; have zb := zle _ _ hqa; exact sq_O3_1))); (try (refine wcal 36 ?_ (hwl := by intro zm zF zle; have zb := zle _ _ hqa; exact sq_O3_1))); (try (refine wcal 37 ?_ (hwl := by intro zm zF zle; have zb := zle _ _ hqa; exact sq_O3_1))); (try (refine wcal 38 ?_ (hwl := by intro zm zF zle; have zb := zle _ _ hqa; exact sq_O3_1))); (try (refine wcal 39 ?_ (hwl := by intro zm zF zle; have zb := zle _ _ hqa; exact sq_O3_1))); (try (refine wcal 40 ?_ (hwl := by intro zm zF zle; have zb := zle _ _ hqa; exact sq_O3_1))); (try (refine wcal 41 ?_ (hwl := by intro zm zF zle; have zb := zle _ _ hqa; exact sq_O3_1))); exact zzn.out) : G := h ⟨next⟩
theorem cmx_O3_1 {G G' : Prop} (next : G') (h : Bx G' → G := by intro zzn; (try (refine wcal 0 ?_ (hwl := by intro zm zF zle; have zb := zle _ _ (hle1 _ _ hqa); exact sq_O3_1))); (try (refine wcal 1 ?_ (hwl := by intro zm zF zle; have zb := zle _ _ (hle1 _ _ hqa); exact sq_O3_1))); (try (refine wcal 2 ?_ (hwl := by intro zm zF zle; have zb := zle _ _ (hle1 _ _ hqa); exact sq_O3_1))); (try (refine wcal 3 ?_ (hwl := by intro zm zF zle; have zb := zle _ _ (hle1 _ _ hqa); exact sq_O3_1))); (try (refine wcal 4 ?_ (hwl := by intro zm zF zle; have zb := zle _ _ (hle1 _ _ hqa); exact sq_O3_1))); (try (refine wcal 5 ?_ (hwl := by intro zm zF zle; have zb := zle _ _ (hle1 _ _ hqa); exact sq_O3_1))); (try (refine wcal 6 ?_ (hwl := by intro zm zF zle; have zb := zle _ _ (hle1 _ _ hqa); exact sq_O3_1))); (try (refine wcal 7 ?_ (hwl := by intro zm zF zle; have zb := zle _ _ (hle1 _ _ hqa); exact sq_O3_1))); (try (refine wcal 8 ?_ (hwl := by intro zm zF zle; have zb := zle _ _ (hle1 _ _ hqa); exact sq_O3_1))); (try (refine wcal 9 ?_ (hwl := by intro zm zF zle; have zb := zle _ _ (hle1 _ _ hqa); exact sq_O3_1))); (try (refine wcal 10 ?_ (hwl := by intro zm zF zle; have zb := zle _ _ (hle1 _ _ hqa); exact sq_O3_1))); (try (refine wcal 11 ?_ (hwl := by intro zm zF zle; have zb := zle _ _ (hle1 _ _ hqa); exact sq_O3_1))); (try (refine wcal 12 ?_ (hwl := by intro zm zF zle; have zb := zle _ _ (hle1 _ _ hqa); exact sq_O3_1))); (try (refine wcal 13 ?_ (hwl := by intro zm zF zle; have zb := zle _ _ (hle1 _ _ hqa); exact sq_O3_1))); (try (refine wcal 14 ?_ (hwl := by intro zm zF zle; have zb := zle _ _ (hle1 _ _ hqa); exact sq_O3_1))); (try (refine wcal 15 ?_ (hwl := by intro zm zF zle; have zb := zle _ _ (hle1 _ _ hqa); exact sq_O3_1))); (try (refine wcal 16 ?_ (hwl := by intro zm zF zle; have zb := zle _ _ (hle1 _ _ hqa); exact sq_O3_1))); (try (refine wcal 17 ?_ (hwl := by intro zm zF zle; have zb := zle _ _ (hle1 _ _ hqa); exact sq_O3_1))); (try (refine wcal 18 ?_ (hwl := by intro zm zF zle; have zb := zle _ _ (hle1 _ _ hqa); exact sq_O3_1))); (try (refine wcal 19 ?_ (hwl := by intro zm zF zle; have zb := zle _ _ (hle1 _ _ hqa); exact sq_O3_1))); (try (refine wcal 20 ?_ (hwl := by intro zm zF zle; have zb := zle _ _ (hle1 _ _ hqa); exact sq_O3_1))); (try (refine wcal 21 ?_ (hwl := by intro zm zF zle; have zb := zle _ _ (hle1 _ _ hqa); exact sq_O3_1))); (try (refine wcal 22 ?_ (hwl := by intro zm zF zle; have zb := zle _ _ (hle1 _ _ hqa); exact sq_O3_1))); (try (refine wcal 23 ?_ (hwl := by intro zm zF zle; have zb := zle _ _ (hle1 _ _ hqa); exact sq_O3_1))); (try (refine wcal 24 ?_ (hwl := by intro zm zF zle; have zb := zle _ _ (hle1 _ _ hqa); exact sq_O3_1))); (try (refine wcal 25 ?_ (hwl := by intro zm zF zle; have zb := zle _ _ (hle1 _ _ hqa); exact sq_O3_1))); (try (refine wcal 26 ?_ (hwl := by intro zm zF zle; have zb := zle _ _ (hle1 _ _ hqa); exact sq_O3_1))); (try (refine wcal 27 ?_ (hwl := by intro zm zF zle; have zb := zle _ _ (hle1 _ _ hqa); exact sq_O3_1))); (try (refine wcal 28 ?_ (hwl := by intro zm zF zle; have zb := zle _ _ (hle1 _ _ hqa); exact sq_O3_1))); (try (refine wcal 29 ?_ (hwl := by intro zm zF zle; have zb := zle _ _ (hle1 _ _ hqa); exact sq_O3_1))); (try (refine wcal 30 ?_ (hwl := by intro zm zF zle; have zb := zle _ _ (hle1 _ _ hqa); exact sq_O3_1))); (try (refine wcal 31 ?_ (hwl := by intro zm zF zle; have zb := zle _ _ (hle1 _ _ hqa); exact sq_O3_1))); (try (refine wcal 32 ?_ (hwl := by intro zm zF zle; have zb := zle _ _ (hle1 _ _ hqa); exact sq_O3_1))); (try (refine wcal 33 ?_ (hwl := by intro zm zF zle; have zb := zle _ _ (hle1 _ _ hqa); exact sq_O3_1))); (try (refine wcal 34 ?_ (hwl := by intro zm zF zle; have zb := zle _ _ (hle1 _ _ hqa); exact sq_O3_1))); (try (refine wcal 35 ?_ (hwl := by intro zm zF zle; have zb := zle _ _ (hle1 _ _ hqa); exact sq_O3_1))); (try (refine wcal 36 ?_ (hwl := by intro zm zF zle; have zb := zle _ _ (hle1 _ _ hqa); exact sq_O3_1))); (try (refine wcal 37 ?_ (hwl := by intro zm zF zle; have zb := zle _ _ (hle1 _ _ hqa); exact sq_O3_1))); (try (refine wcal 38 ?_ (hwl := by intro zm zF zle; have zb := zle _ _ (hle1 _ _ hqa); exact sq_O3_1))); (try (refine wcal 39 ?_ (hwl := by intro zm zF zle; have zb := zle _ _ (hle1 _ _ hqa); exact sq_O3_1))); (try (refine wcal 40 ?_ (hwl := by intro zm zF zle; have zb := zle _ _ (hle1 _ _ hqa); exact sq_O3_1))); (try (refine wcal 41 ?_ (hwl := by intro zm zF zle; have zb := zle _ _ (hle1 _ _ hqa); exact sq_O3_1))); exact zzn.out) : G := h ⟨next⟩
theorem cmx_O3_2 {G G' : Prop} (next : G') (h : Bx G' → G := by intro zzn; (try (refine wcal 0 ?_ (hwl := by intro zm zF zle; have zb := zle _ _ hqa; have zc := zle _ _ hqr; exact sq_O3_1))); (try (refine wcal 1 ?_ (hwl := by intro zm zF zle; have zb := zle _ _ hqa; have zc := zle _ _ hqr; exact sq_O3_1))); (try (refine wcal 2 ?_ (hwl := by intro zm zF zle; have zb := zle _ _ hqa; have zc := zle _ _ hqr; exact sq_O3_1))); (try (refine wcal 3 ?_ (hwl := by intro zm zF zle; have zb := zle _ _ hqa; have zc := zle _ _ hqr; exact sq_O3_1))); (try (refine wcal 4 ?_ (hwl := by intro zm zF zle; have zb := zle _ _ hqa; have zc := zle _ _ hqr; exact sq_O3_1))); (try (refine wcal 5 ?_ (hwl := by intro zm zF zle; have zb := zle _ _ hqa; have zc := zle _ _ hqr; exact sq_O3_1))); (try (refine wcal 6 ?_ (hwl := by intro zm zF zle; have zb := zle _ _ hqa; have zc := zle _ _ hqr; exact sq_O3_1))); (try (refine wcal 7 ?_ (hwl := by intro zm zF zle; have zb := zle _ _ hqa; have zc := zle _ _ hqr; exact sq_O3_1))); (try (refine wcal 8 ?_ (hwl := by intro zm zF zle; have zb := zle _ _ hqa; have zc := zle _ _ hqr; exact sq_O3_1))); (try (refine wcal 9 ?_ (hwl := by intro zm zF zle; have zb := zle _ _ hqa; have zc := zle _ _ hqr; exact sq_O3_1))); (try (refine wcal 10 ?_ (hwl := by intro zm zF zle; have zb := zle _ _ hqa; have zc := zle _ _ hqr; exact sq_O3_1))); (try (refine wcal 11 ?_ (hwl := by intro zm zF zle; have zb := zle _ _ hqa; have zc := zle _ _ hqr; exact sq_O3_1))); (try (refine wcal 12 ?_ (hwl := by intro zm zF zle; have zb := zle _ _ hqa; have zc := zle _ _ hqr; exact sq_O3_1))); (try (refine wcal 13 ?_ (hwl := by intro zm zF zle; have zb := zle _ _ hqa; have zc := zle _ _ hqr; exact sq_O3_1))); (try (refine wcal 14 ?_ (hwl := by intro zm zF zle; have zb := zle _ _ hqa; have zc := zle _ _ hqr; exact sq_O3_1))); (try (refine wcal 15 ?_ (hwl := by intro zm zF zle; have zb := zle _ _ hqa; have zc := zle _ _ hqr; exact sq_O3_1))); (try (refine wcal 16 ?_ (hwl := by intro zm zF zle; have zb := zle _ _ hqa; have zc := zle _ _ hqr; exact sq_O3_1))); (try (refine wcal 17 ?_ (hwl := by intro zm zF zle; have zb := zle _ _ hqa; have zc := zle _ _ hqr; exact sq_O3_1))); (try (refine wcal 18 ?_ (hwl := by intro zm zF zle; have zb := zle _ _ hqa; have zc := zle _ _ hqr; exact sq_O3_1))); (try (refine wcal 19 ?_ (hwl := by intro zm zF zle; have zb := zle _ _ hqa; have zc := zle _ _ hqr; exact sq_O3_1))); (try (refine wcal 20 ?_ (hwl := by intro zm zF zle; have zb := zle _ _ hqa; have zc := zle _ _ hqr; exact sq_O3_1))); (try (refine wcal 21 ?_ (hwl := by intro zm zF zle; have zb := zle _ _ hqa; have zc := zle _ _ hqr; exact sq_O3_1))); (try (refine wcal 22 ?_ (hwl := by intro zm zF zle; have zb := zle _ _ hqa; have zc := zle _ _ hqr; exact sq_O3_1))); (try (refine wcal 23 ?_ (hwl := by intro zm zF zle; have zb := zle _ _ hqa; have zc := zle _ _ hqr; exact sq_O3_1))); (try (refine wcal 24 ?_ (hwl := by intro zm zF zle; have zb := zle _ _ hqa; have zc := zle _ _ hqr; exact sq_O3_1))); (try (refine wcal 25 ?_ (hwl := by intro zm zF zle; have zb := zle _ _ hqa; have zc := zle _ _ hqr; exact sq_O3_1))); (try (refine wcal 26 ?_ (hwl := by intro zm zF zle; have zb := zle _ _ hqa; have zc := zle _ _ hqr; exact sq_O3_1))); (try (refine wcal 27 ?_ (hwl := by intro zm zF zle; have zb := zle _ _ hqa; have zc := zle _ _ hqr; exact sq_O3_1))); (try (refine wcal 28 ?_ (hwl := by intro zm zF zle; have zb := zle _ _ hqa; have zc := zle _ _ hqr; exact sq_O3_1))); (try (refine wcal 29 ?_ (hwl := by intro zm zF zle; have zb := zle _ _ hqa; have zc := zle _ _ hqr; exact sq_O3_1))); (try (refine wcal 30 ?_ (hwl := by intro zm zF zle; have zb := zle _ _ hqa; have zc := zle _ _ hqr; exact sq_O3_1))); (try (refine wcal 31 ?_ (hwl := by intro zm zF zle; have zb := zle _ _ hqa; have zc := zle _ _ hqr; exact sq_O3_1))); (try (refine wcal 32 ?_ (hwl := by intro zm zF zle; have zb := zle _ _ hqa; have zc := zle _ _ hqr; exact sq_O3_1))); (try (refine wcal 33 ?_ (hwl := by intro zm zF zle; have zb := zle _ _ hqa; have zc := zle _ _ hqr; exact sq_O3_1))); (try (refine wcal 34 ?_ (hwl := by intro zm zF zle; have zb := zle _ _ hqa; have zc := zle _ _ hqr; exact sq_O3_1))); (try (refine wcal 35 ?_ (hwl := by intro zm zF zle; have zb := zle _ _ hqa; have zc := zle _ _ hqr; exact sq_O3_1))); (try (refine wcal 36 ?_ (hwl := by intro zm zF zle; have zb := zle _ _ hqa; have zc := zle _ _ hqr; exact sq_O3_1))); (try (refine wcal 37 ?_ (hwl := by intro zm zF zle; have zb := zle _ _ hqa; have zc := zle _ _ hqr; exact sq_O3_1))); (try (refine wcal 38 ?_ (hwl := by intro zm zF zle; have zb := zle _ _ hqa; have zc := zle _ _ hqr; exact sq_O3_1))); (try (refine wcal 39 ?_ (hwl := by intro zm zF zle; have zb := zle _ _ hqa; have zc := zle _ _ hqr; exact sq_O3_1))); (try (refine wcal 40 ?_ (hwl := by intro zm zF zle; have zb := zle _ _ hqa; have zc := zle _ _ hqr; exact sq_O3_1))); (try (refine wcal 41 ?_ (hwl := by intro zm zF zle; have zb := zle _ _ hqa; have zc := zle _ _ hqr; exact sq_O3_1))); exact zzn.out) : G := h ⟨next⟩
theorem cmx_O3_3 {G G' : Prop} (next : G') (h : Bx G' → G := by intro zzn; (try (refine wcal 0 ?_ (hwl := by intro zm zF zle; have zb := zle _ _ hqb; exact sq_O3_1))); (try (refine wcal 1 ?_ (hwl := by intro zm zF zle; have zb := zle _ _ hqb; exact sq_O3_1))); (try (refine wcal 2 ?_ (hwl := by intro zm zF zle; have zb := zle _ _ hqb; exact sq_O3_1))); (try (refine wcal 3 ?_ (hwl := by intro zm zF zle; have zb := zle _ _ hqb; exact sq_O3_1))); (try (refine wcal 4 ?_ (hwl := by intro zm zF zle; have zb := zle _ _ hqb; exact sq_O3_1))); (try (refine wcal 5 ?_ (hwl := by intro zm zF zle; have zb := zle _ _ hqb; exact sq_O3_1))); (try (refine wcal 6 ?_ (hwl := by intro zm zF zle; have zb := zle _ _ hqb; exact sq_O3_1))); (try (refine wcal 7 ?_ (hwl := by intro zm zF zle; have zb := zle _ _ hqb; exact sq_O3_1))); (try (refine wcal 8 ?_ (hwl := by intro zm zF zle; have zb := zle _ _ hqb; exact sq_O3_1))); (try (refine wcal 9 ?_ (hwl := by intro zm zF zle; have zb := zle _ _ hqb; exact sq_O3_1))); (try (refine wcal 10 ?_ (hwl := by intro zm zF zle; have zb := zle _ _ hqb; exact sq_O3_1))); (try (refine wcal 11 ?_ (hwl := by intro zm zF zle; have zb := zle _ _ hqb; exact sq_O3_1))); (try (refine wcal 12 ?_ (hwl := by intro zm zF zle; have zb := zle _ _ hqb; exact sq_O3_1))); (try (refine wcal 13 ?_ (hwl := by intro zm zF zle; have zb := zle _ _ hqb; exact sq_O3_1))); (try (refine wcal 14 ?_ (hwl := by intro zm zF zle; have zb := zle _ _ hqb; exact sq_O3_1))); (try (refine wcal 15 ?_ (hwl := by intro zm zF zle; have zb := zle _ _ hqb; exact sq_O3_1))); (try (refine wcal 16 ?_ (hwl := by intro zm zF zle; have zb := zle _ _ hqb; exact sq_O3_1))); (try (refine wcal 17 ?_ (hwl := by intro zm zF zle; have zb := zle _ _ hqb; exact sq_O3_1))); (try (refine wcal 18 ?_ (hwl := by intro zm zF zle; have zb := zle _ _ hqb; exact sq_O3_1))); (try (refine wcal 19 ?_ (hwl := by intro zm zF zle; have zb := zle _ _ hqb; exact sq_O3_1))); (try (refine wcal 20 ?_ (hwl := by intro zm zF zle; have zb := zle _ _ hqb; exact sq_O3_1))); (try (refine wcal 21 ?_ (hwl := by intro zm zF zle; have zb := zle _ _ hqb; exact sq_O3_1))); (try (refine wcal 22 ?_ (hwl := by intro zm zF zle; have zb := zle _ _ hqb; exact sq_O3_1))); (try (refine wcal 23 ?_ (hwl := by intro zm zF zle; have zb := zle _ _ hqb; exact sq_O3_1))); (try (refine wcal 24 ?_ (hwl := by intro zm zF zle; have zb := zle _ _ hqb; exact sq_O3_1))); (try (refine wcal 25 ?_ (hwl := by intro zm zF zle; have zb := zle _ _ hqb; exact sq_O3_1))); (try (refine wcal 26 ?_ (hwl := by intro zm zF zle; have zb := zle _ _ hqb; exact sq_O3_1))); (try (refine wcal 27 ?_ (hwl := by intro zm zF zle; have zb := zle _ _ hqb; exact sq_O3_1))); (try (refine wcal 28 ?_ (hwl := by intro zm zF zle; have zb := zle _ _ hqb; exact sq_O3_1))); (try (refine wcal 29 ?_ (hwl := by intro zm zF zle; have zb := zle _ _ hqb; exact sq_O3_1))); (try (refine wcal 30 ?_ (hwl := by intro zm zF zle; have zb := zle _ _ hqb; exact sq_O3_1))); (try (refine wcal 31 ?_ (hwl := by intro zm zF zle; have zb := zle _ _ hqb; exact sq_O3_1))); (try (refine wcal 32 ?_ (hwl := by intro zm zF zle; have zb := zle _ _ hqb; exact sq_O3_1))); (try (refine wcal 33 ?_ (hwl := by intro zm zF zle; have zb := zle _ _ hqb; exact sq_O3_1))); (try (refine wcal 34 ?_ (hwl := by intro zm zF zle; have zb := zle _ _ hqb; exact sq_O3_1))); (try (refine wcal 35 ?_ (hwl := by intro zm zF zle; have zb := zle _ _ hqb; exact sq_O3_1))); (try (refine wcal 36 ?_ (hwl := by intro zm zF zle; have zb := zle _ _ hqb; exact sq_O3_1))); (try (refine wcal 37 ?_ (hwl := by intro zm zF zle; have zb := zle _ _ hqb; exact sq_O3_1))); (try (refine wcal 38 ?_ (hwl := by intro zm zF zle; have zb := zle _ _ hqb; exact sq_O3_1))); (try (refine wcal 39 ?_ (hwl := by intro zm zF zle; have zb := zle _ _ hqb; exact sq_O3_1))); (try (refine wcal 40 ?_ (hwl := by intro zm zF zle; have zb := zle _ _ hqb; exact sq_O3_1))); (try (refine wcal 41 ?_ (hwl := by intro zm zF zle; have zb := zle _ _ hqb; exact sq_O3_1))); exact zzn.out) : G := h ⟨next⟩
theorem cmx_O3_4 {G G' : Prop} (next : G') (h : Bx G' → G := by intro zzn; (try (refine wcal 0 ?_ (hwl := by intro zm zF zle; have zb := zle _ _ (hle1 _ _ hqb); exact sq_O3_1))); (try (refine wcal 1 ?_ (hwl := by intro zm zF zle; have zb := zle _ _ (hle1 _ _ hqb); exact sq_O3_1))); (try (refine wcal 2 ?_ (hwl := by intro zm zF zle; have zb := zle _ _ (hle1 _ _ hqb); exact sq_O3_1))); (try (refine wcal 3 ?_ (hwl := by intro zm zF zle; have zb := zle _ _ (hle1 _ _ hqb); exact sq_O3_1))); (try (refine wcal 4 ?_ (hwl := by intro zm zF zle; have zb := zle _ _ (hle1 _ _ hqb); exact sq_O3_1))); (try (refine wcal 5 ?_ (hwl := by intro zm zF zle; have zb := zle _ _ (hle1 _ _ hqb); exact sq_O3_1))); (try (refine wcal 6 ?_ (hwl := by intro zm zF zle; have zb := zle _ _ (hle1 _ _ hqb); exact sq_O3_1))); (try (refine wcal 7 ?_ (hwl := by intro zm zF zle; have zb := zle _ _ (hle1 _ _ hqb); exact sq_O3_1))); (try (refine wcal 8 ?_ (hwl := by intro zm zF zle; have zb := zle _ _ (hle1 _ _ hqb); exact sq_O3_1))); (try (refine wcal 9 ?_ (hwl := by intro zm zF zle; have zb := zle _ _ (hle1 _ _ hqb); exact sq_O3_1))); (try (refine wcal 10 ?_ (hwl := by intro zm zF zle; have zb := zle _ _ (hle1 _ _ hqb); exact sq_O3_1))); (try (refine wcal 11 ?_ (hwl := by intro zm zF zle; have zb := zle _ _ (hle1 _ _ hqb); exact sq_O3_1))); (try (refine wcal 12 ?_ (hwl := by intro zm zF zle; have zb := zle _ _ (hle1 _ _ hqb); exact sq_O3_1))); (try (refine wcal 13 ?_ (hwl := by intro zm zF zle; have zb := zle _ _ (hle1 _ _ hqb); exact sq_O3_1))); (try (refine wcal 14 ?_ (hwl := by intro zm zF zle; have zb := zle _ _ (hle1 _ _ hqb); exact sq_O3_1))); (try (refine wcal 15 ?_ (hwl := by intro zm zF zle; have zb := zle _ _ (hle1 _ _ hqb); exact sq_O3_1))); (try (refine wcal 16 ?_ (hwl := by intro zm zF zle; have zb := zle _ _ (hle1 _ _ hqb); exact sq_O3_1))); (try (refine wcal 17 ?_ (hwl := by intro zm zF zle; have zb := zle _ _ (hle1 _ _ hqb); exact sq_O3_1))); (try (refine wcal 18 ?_ (hwl := by intro zm zF zle; have zb := zle _ _ (hle1 _ _ hqb); exact sq_O3_1))); (try (refine wcal 19 ?_ (hwl := by intro zm zF zle; have zb := zle _ _ (hle1 _ _ hqb); exact sq_O3_1))); (try (refine wcal 20 ?_ (hwl := by intro zm zF zle; have zb := zle _ _ (hle1 _ _ hqb); exact sq_O3_1))); (try (refine wcal 21 ?_ (hwl := by intro zm zF zle; have zb := zle _ _ (hle1 _ _ hqb); exact sq_O3_1))); (try (refine wcal 22 ?_ (hwl := by intro zm zF zle; have zb := zle _ _ (hle1 _ _ hqb); exact sq_O3_1))); (try (refine wcal 23 ?_ (hwl := by intro zm zF zle; have zb := zle _ _ (hle1 _ _ hqb); exact sq_O3_1))); (try (refine wcal 24 ?_ (hwl := by intro zm zF zle; have zb := zle _ _ (hle1 _ _ hqb); exact sq_O3_1))); (try (refine wcal 25 ?_ (hwl := by intro zm zF zle; have zb := zle _ _ (hle1 _ _ hqb); exact sq_O3_1))); (try (refine wcal 26 ?_ (hwl := by intro zm zF zle; have zb := zle _ _ (hle1 _ _ hqb); exact sq_O3_1))); (try (refine wcal 27 ?_ (hwl := by intro zm zF zle; have zb := zle _ _ (hle1 _ _ hqb); exact sq_O3_1))); (try (refine wcal 28 ?_ (hwl := by intro zm zF zle; have zb := zle _ _ (hle1 _ _ hqb); exact sq_O3_1))); (try (refine wcal 29 ?_ (hwl := by intro zm zF zle; have zb := zle _ _ (hle1 _ _ hqb); exact sq_O3_1))); (try (refine wcal 30 ?_ (hwl := by intro zm zF zle; have zb := zle _ _ (hle1 _ _ hqb); exact sq_O3_1))); (try (refine wcal 31 ?_ (hwl := by intro zm zF zle; have zb := zle _ _ (hle1 _ _ hqb); exact sq_O3_1))); (try (refine wcal 32 ?_ (hwl := by intro zm zF zle; have zb := zle _ _ (hle1 _ _ hqb); exact sq_O3_1))); (try (refine wcal 33 ?_ (hwl := by intro zm zF zle; have zb := zle _ _ (hle1 _ _ hqb); exact sq_O3_1))); (try (refine wcal 34 ?_ (hwl := by intro zm zF zle; have zb := zle _ _ (hle1 _ _ hqb); exact sq_O3_1))); (try (refine wcal 35 ?_ (hwl := by intro zm zF zle; have zb := zle _ _ (hle1 _ _ hqb); exact sq_O3_1))); (try (refine wcal 36 ?_ (hwl := by intro zm zF zle; have zb := zle _ _ (hle1 _ _ hqb); exact sq_O3_1))); (try (refine wcal 37 ?_ (hwl := by intro zm zF zle; have zb := zle _ _ (hle1 _ _ hqb); exact sq_O3_1))); (try (refine wcal 38 ?_ (hwl := by intro zm zF zle; have zb := zle _ _ (hle1 _ _ hqb); exact sq_O3_1))); (try (refine wcal 39 ?_ (hwl := by intro zm zF zle; have zb := zle _ _ (hle1 _ _ hqb); exact sq_O3_1))); (try (refine wcal 40 ?_ (hwl := by intro zm zF zle; have zb := zle _ _ (hle1 _ _ hqb); exact sq_O3_1))); (try (refine wcal 41 ?_ (hwl := by intro zm zF zle; have zb := zle _ _ (hle1 _ _ hqb); exact sq_O3_1))); exact zzn.out) : G := h ⟨next⟩
theorem cmx_O3_5 {G G' : Prop} (next : G') (h : Bx G' → G := by intro zzn; (try (refine wcal 0 ?_ (hwl := by intro zm zF zle; have zb := zle _ _ hqb; have zc := zle _ _ hql; exact sq_O3_1))); (try (refine wcal 1 ?_ (hwl := by intro zm zF zle; have zb := zle _ _ hqb; have zc := zle _ _ hql; exact sq_O3_1))); (try (refine wcal 2 ?_ (hwl := by intro zm zF zle; have zb := zle _ _ hqb; have zc := zle _ _ hql; exact sq_O3_1))); (try (refine wcal 3 ?_ (hwl := by intro zm zF zle; have zb := zle _ _ hqb; have zc := zle _ _ hql; exact sq_O3_1))); (try (refine wcal 4 ?_ (hwl := by intro zm zF zle; have zb := zle _ _ hqb; have zc := zle _ _ hql; exact sq_O3_1))); (try (refine wcal 5 ?_ (hwl := by intro zm zF zle; have zb := zle _ _ hqb; have zc := zle _ _ hql; exact sq_O3_1))); (try (refine wcal 6 ?_ (hwl := by intro zm zF zle; have zb := zle _ _ hqb; have zc := zle _ _ hql; exact sq_O3_1))); (try (refine wcal 7 ?_ (hwl := by intro zm zF zle; have zb := zle _ _ hqb; have zc := zle _ _ hql; exact sq_O3_1))); (try (refine wcal 8 ?_ (hwl := by intro zm zF zle; have zb := zle _ _ hqb; have zc := zle _ _ hql; exact sq_O3_1))); (try (refine wcal 9 ?_ (hwl := by intro zm zF zle; have zb := zle _ _ hqb; have zc := zle _ _ hql; exact sq_O3_1))); (try (refine wcal 10 ?_ (hwl := by intro zm zF zle; have zb := zle _ _ hqb; have zc := zle _ _ hql; exact sq_O3_1))); (try (refine wcal 11 ?_ (hwl := by intro zm zF zle; have zb := zle _ _ hqb; have zc := zle _ _ hql; exact sq_O3_1))); (try (refine wcal 12 ?_ (hwl := by intro zm zF zle; have zb := zle _ _ hqb; have zc := zle _ _ hql; exact sq_O3_1))); (try (refine wcal 13 ?_ (hwl := by intro zm zF zle; have zb := zle _ _ hqb; have zc := zle _ _ hql; exact sq_O3_1))); (try (refine wcal 14 ?_ (hwl := by intro zm zF zle; have zb := zle _ _ hqb; have zc := zle _ _ hql; exact sq_O3_1))); (try (refine wcal 15 ?_ (hwl := by intro zm zF zle; have zb := zle _ _ hqb; have zc := zle _ _ hql; exact sq_O3_1))); (try (refine wcal 16 ?_ (hwl := by intro zm zF zle; have zb := zle _ _ hqb; have zc := zle _ _ hql; exact sq_O3_1))); (try (refine wcal 17 ?_ (hwl := by intro zm zF zle; have zb := zle _ _ hqb; have zc := zle _ _ hql; exact sq_O3_1))); (try (refine wcal 18 ?_ (hwl := by intro zm zF zle; have zb := zle _ _ hqb; have zc := zle _ _ hql; exact sq_O3_1))); (try (refine wcal 19 ?_ (hwl := by intro zm zF zle; have zb := zle _ _ hqb; have zc := zle _ _ hql; exact sq_O3_1))); (try (refine wcal 20 ?_ (hwl := by intro zm zF zle; have zb := zle _ _ hqb; have zc := zle _ _ hql; exact sq_O3_1))); (try (refine wcal 21 ?_ (hwl := by intro zm zF zle; have zb := zle _ _ hqb; have zc := zle _ _ hql; exact sq_O3_1))); (try (refine wcal 22 ?_ (hwl := by intro zm zF zle; have zb := zle _ _ hqb; have zc := zle _ _ hql; exact sq_O3_1))); (try (refine wcal 23 ?_ (hwl := by intro zm zF zle; have zb := zle _ _ hqb; have zc := zle _ _ hql; exact sq_O3_1))); (try (refine wcal 24 ?_ (hwl := by intro zm zF zle; have zb := zle _ _ hqb; have zc := zle _ _ hql; exact sq_O3_1))); (try (refine wcal 25 ?_ (hwl := by intro zm zF zle; have zb := zle _ _ hqb; have zc := zle _ _ hql; exact sq_O3_1))); (try (refine wcal 26 ?_ (hwl := by intro zm zF zle; have zb := zle _ _ hqb; have zc := zle _ _ hql; exact sq_O3_1))); (try (refine wcal 27 ?_ (hwl := by intro zm zF zle; have zb := zle _ _ hqb; have zc := zle _ _ hql; exact sq_O3_1))); (try (refine wcal 28 ?_ (hwl := by intro zm zF zle; have zb := zle _ _ hqb; have zc := zle _ _ hql; exact sq_O3_1))); (try (refine wcal 29 ?_ (hwl := by intro zm zF zle; have zb := zle _ _ hqb; have zc := zle _ _ hql; exact sq_O3_1))); (try (refine wcal 30 ?_ (hwl := by intro zm zF zle; have zb := zle _ _ hqb; have zc := zle _ _ hql; exact sq_O3_1))); (try (refine wcal 31 ?_ (hwl := by intro zm zF zle; have zb := zle _ _ hqb; have zc := zle _ _ hql; exact sq_O3_1))); (try (refine wcal 32 ?_ (hwl := by intro zm zF zle; have zb := zle _ _ hqb; have zc := zle _ _ hql; exact sq_O3_1))); (try (refine wcal 33 ?_ (hwl := by intro zm zF zle; have zb := zle _ _ hqb; have zc := zle _ _ hql; exact sq_O3_1))); (try (refine wcal 34 ?_ (hwl := by intro zm zF zle; have zb := zle _ _ hqb; have zc := zle _ _ hql; exact sq_O3_1))); (try (refine wcal 35 ?_ (hwl := by intro zm zF zle; have zb := zle _ _ hqb; have zc := zle _ _ hql; exact sq_O3_1))); (try (refine wcal 36 ?_ (hwl := by intro zm zF zle; have zb := zle _ _ hqb; have zc := zle _ _ hql; exact sq_O3_1))); (try (refine wcal 37 ?_ (hwl := by intro zm zF zle; have zb := zle _ _ hqb; have zc := zle _ _ hql; exact sq_O3_1))); (try (refine wcal 38 ?_ (hwl := by intro zm zF zle; have zb := zle _ _ hqb; have zc := zle _ _ hql; exact sq_O3_1))); (try (refine wcal 39 ?_ (hwl := by intro zm zF zle; have zb := zle _ _ hqb; have zc := zle _ _ hql; exact sq_O3_1))); (try (refine wcal 40 ?_ (hwl := by intro zm zF zle; have zb := zle _ _ hqb; have zc := zle _ _ hql; exact sq_O3_1))); (try (refine wcal 41 ?_ (hwl := by intro zm zF zle; have zb := zle _ _ hqb; have zc := zle _ _ hql; exact sq_O3_1))); exact zzn.out) : G := h ⟨next⟩
theorem turned_any {A B : Nd} {va vb : Value} (hA : A.Ok) (hB : B.Ok) (hs : A.size + B.size ≤ 100000000) (w0 : World) (m : Mem) (H : SHeap) (ha : NAt m A va) (hb : NAt m B vb) :
    Does Try.prog 69 #[va, vb] w0 m H (Tied A B m H) := by
  have da := Nd.deep_lt hA
  have db := Nd.deep_lt hB
  refine Does.of_body (args := [va, vb]) Try.func69 rfl Try.ntmps69 rfl ?_
  by_cases h1 : B.deep + 1 < A.deep
  · obtain ⟨al, ar, rfl⟩ := Nd.joint_of_deep (x := A) (by omega)
    have ha0 := ha
    obtain ⟨qa, val, var, rfl, hqa, hal, har⟩ := ha
    rw [size_parts] at hs
    have dal := Nd.deep_lt hA.1
    have dar := Nd.deep_lt hA.2
    (try (refine st_O3_1 ?_; intros))
    refine WL.assertYes rfl (by kernel_rfl) rfl ?_
    (try (refine st_O3_1 ?_; intros))
    refine w_asAny rfl hb rfl fun p q => ?_
    (try (refine st_O3_1 ?_; intros))
    by_cases h2 : ar.deep ≤ al.deep
    · (try (refine st_O3_1 ?_; intros))
      refine WC.drawE 11 ([]) (H) rfl (by decide +kernel) zpk ?_
      (refine cmx_O3_0 ?_)
      refine WE.act1 9 (by decide +kernel) rfl rfl (fun c h => by cases h) ?_
      refine w_callF Try.func70 ?_ (hs := two_any hA.2 hB (by omega) _ _ _ har hb)
      rintro v m1 H ⟨hle1, rfl, hT1⟩
      (try (refine st_O3_1 ?_; intros))
      refine WQ.acted (B := []) (U := H) rfl hle1 zpk ?_
      (refine cmx_O3_1 ?_)
      refine WE.act1 10 (by decide +kernel) rfl rfl (fun c h => by cases h) ?_
      refine w_callF Try.func70 ?_ (hs := two_any (A := al) (B := ar.joint B) hA.1 ⟨hA.2, hB⟩ (by rw [size_parts]; omega) _ _ _ (hal.le hle1) hT1)
      rintro v m2 H ⟨hle2, rfl, hT2⟩
      (try (refine st_O3_1 ?_; intros))
      refine WQ.acted (B := []) (U := H) rfl hle2 zpk ?_
      refine WE.done (by decide +kernel) ?_
      (try (refine st_O3_1 ?_; intros))
      exact q_fin0 (H0 := H) ⟨hle1.trans hle2, rfl, _, hT2, ⟨hA.1, hA.2, hB⟩, by simp [Nd.text]⟩ (hd := zpk)
    · obtain ⟨il, ir, rfl⟩ := Nd.joint_of_deep (x := ar) (by omega)
      have har0 := har
      obtain ⟨qr, vil, vir, rfl, hqr, hil, hir⟩ := har
      have hsz : (il.joint ir).size = il.size + ir.size := size_parts
      (try (refine st_O3_1 ?_; intros))
      refine WL.assertIs rfl (by kernel_rfl) rfl ?_
      (try (refine st_O3_1 ?_; intros))
      refine WC.drawE 16 ([]) (H) rfl (by decide +kernel) zpk ?_
      (refine cmx_O3_2 ?_)
      refine WE.act2 8 14 (by decide +kernel) rfl rfl (fun c h => by cases h) rfl rfl (fun c h => by cases h) ?_ ?_
      · refine w_callF Try.func70 ?_ (hs := two_any hA.1 hA.2.1 (by omega) _ _ _ hal hil)
        rintro v m1 H ⟨hle1, rfl, hT1⟩
        (try (refine st_O3_1 ?_; intros))
        refine WQ.acted (B := []) (U := H) rfl hle1 zpk ?_
        refine WE.act1 14 (by decide +kernel) rfl rfl (fun c h => by cases h) ?_
        refine w_callF Try.func70 ?_ (hs := two_any hA.2.2 hB (by omega) _ _ _ (hir.le hle1) (hb.le hle1))
        rintro v m2 H ⟨hle2, rfl, hT2⟩
        (try (refine st_O3_1 ?_; intros))
        refine WQ.acted (B := []) (U := H) rfl hle2 zpk ?_
        refine WE.act1 15 (by decide +kernel) rfl rfl (fun c h => by cases h) ?_
        refine w_callF Try.func70 ?_ (hs := two_any (A := al.joint il) (B := ir.joint B) ⟨hA.1, hA.2.1⟩ ⟨hA.2.2, hB⟩ (by rw [size_parts, size_parts]; omega) _ _ _ (hT1.le hle2) hT2)
        rintro v m3 H ⟨hle3, rfl, hT3⟩
        (try (refine st_O3_1 ?_; intros))
        refine WQ.acted (B := []) (U := H) rfl hle3 zpk ?_
        refine WE.done (by decide +kernel) ?_
        (try (refine st_O3_1 ?_; intros))
        exact q_fin0 (H0 := H) ⟨hle1.trans (hle2.trans hle3), rfl, _, hT3, ⟨⟨hA.1, hA.2.1⟩, hA.2.2, hB⟩, by simp [Nd.text]⟩ (hd := zpk)
      · refine w_callF Try.func70 ?_ (hs := two_any hA.2.2 hB (by omega) _ _ _ hir hb)
        rintro v m1 H ⟨hle1, rfl, hT1⟩
        (try (refine st_O3_1 ?_; intros))
        refine WQ.acted (B := []) (U := H) rfl hle1 zpk ?_
        refine WE.act1 8 (by decide +kernel) rfl rfl (fun c h => by cases h) ?_
        refine w_callF Try.func70 ?_ (hs := two_any hA.1 hA.2.1 (by omega) _ _ _ (hal.le hle1) (hil.le hle1))
        rintro v m2 H ⟨hle2, rfl, hT2⟩
        (try (refine st_O3_1 ?_; intros))
        refine WQ.acted (B := []) (U := H) rfl hle2 zpk ?_
        refine WE.act1 15 (by decide +kernel) rfl rfl (fun c h => by cases h) ?_
        refine w_callF Try.func70 ?_ (hs := two_any (A := al.joint il) (B := ir.joint B) ⟨hA.1, hA.2.1⟩ ⟨hA.2.2, hB⟩ (by rw [size_parts, size_parts]; omega) _ _ _ hT2 (hT1.le hle2))
        rintro v m3 H ⟨hle3, rfl, hT3⟩
        (try (refine st_O3_1 ?_; intros))
        refine WQ.acted (B := []) (U := H) rfl hle3 zpk ?_
        refine WE.done (by decide +kernel) ?_
        (try (refine st_O3_1 ?_; intros))
        exact q_fin0 (H0 := H) ⟨hle1.trans (hle2.trans hle3), rfl, _, hT3, ⟨⟨hA.1, hA.2.1⟩, hA.2.2, hB⟩, by simp [Nd.text]⟩ (hd := zpk)
  · by_cases h2 : A.deep + 1 < B.deep
    · obtain ⟨bl, br, rfl⟩ := Nd.joint_of_deep (x := B) (by omega)
      have hb0 := hb
      obtain ⟨qb, vbl, vbr, rfl, hqb, hbl, hbr⟩ := hb
      have hszb : (bl.joint br).size = bl.size + br.size := size_parts
      rw [size_parts] at hs
      have dbl := Nd.deep_lt hB.1
      have dbr := Nd.deep_lt hB.2
      (try (refine st_O3_1 ?_; intros))
      refine w_asAny rfl ha rfl fun p q => ?_
      (try (refine st_O3_1 ?_; intros))
      refine WL.assertYes rfl (by kernel_rfl) rfl ?_
      (try (refine st_O3_1 ?_; intros))
      cases q
      all_goals
        (try (refine st_O3_1 ?_; intros))
        by_cases h3 : bl.deep ≤ br.deep
        · (try (refine st_O3_1 ?_; intros))
          refine WC.drawE 11 ([]) (H) rfl (by decide +kernel) zpk ?_
          (refine cmx_O3_3 ?_)
          refine WE.act1 5 (by decide +kernel) rfl rfl (fun c h => by cases h) ?_
          refine w_callF Try.func70 ?_ (hs := two_any hA hB.1 (by omega) _ _ _ ha hbl)
          rintro v m1 H ⟨hle1, rfl, hT1⟩
          (try (refine st_O3_1 ?_; intros))
          refine WQ.acted (B := []) (U := H) rfl hle1 zpk ?_
          (refine cmx_O3_4 ?_)
          refine WE.act1 10 (by decide +kernel) rfl rfl (fun c h => by cases h) ?_
          refine w_callF Try.func70 ?_ (hs := two_any (A := A.joint bl) (B := br) ⟨hA, hB.1⟩ hB.2 (by rw [size_parts]; omega) _ _ _ hT1 (hbr.le hle1))
          rintro v m2 H ⟨hle2, rfl, hT2⟩
          (try (refine st_O3_1 ?_; intros))
          refine WQ.acted (B := []) (U := H) rfl hle2 zpk ?_
          refine WE.done (by decide +kernel) ?_
          (try (refine st_O3_1 ?_; intros))
          exact q_fin0 (H0 := H) ⟨hle1.trans hle2, rfl, _, hT2, ⟨⟨hA, hB.1⟩, hB.2⟩, by simp [Nd.text]⟩ (hd := zpk)
        · obtain ⟨il, ir, rfl⟩ := Nd.joint_of_deep (x := bl) (by omega)
          have hbl0 := hbl
          obtain ⟨ql, vil, vir, rfl, hql, hil, hir⟩ := hbl
          have hsz : (il.joint ir).size = il.size + ir.size := size_parts
          (try (refine st_O3_1 ?_; intros))
          refine WL.assertIs rfl (by kernel_rfl) rfl ?_
          (try (refine st_O3_1 ?_; intros))
          refine WC.drawE 16 ([]) (H) rfl (by decide +kernel) zpk ?_
          (refine cmx_O3_5 ?_)
          refine WE.act2 5 14 (by decide +kernel) rfl rfl (fun c h => by cases h) rfl rfl (fun c h => by cases h) ?_ ?_
          · refine w_callF Try.func70 ?_ (hs := two_any hA hB.1.1 (by omega) _ _ _ ha hil)
            rintro v m1 H ⟨hle1, rfl, hT1⟩
            (try (refine st_O3_1 ?_; intros))
            refine WQ.acted (B := []) (U := H) rfl hle1 zpk ?_
            refine WE.act1 14 (by decide +kernel) rfl rfl (fun c h => by cases h) ?_
            refine w_callF Try.func70 ?_ (hs := two_any hB.1.2 hB.2 (by omega) _ _ _ (hir.le hle1) (hbr.le hle1))
            rintro v m2 H ⟨hle2, rfl, hT2⟩
            (try (refine st_O3_1 ?_; intros))
            refine WQ.acted (B := []) (U := H) rfl hle2 zpk ?_
            refine WE.act1 15 (by decide +kernel) rfl rfl (fun c h => by cases h) ?_
            refine w_callF Try.func70 ?_ (hs := two_any (A := A.joint il) (B := ir.joint br) ⟨hA, hB.1.1⟩ ⟨hB.1.2, hB.2⟩ (by rw [size_parts, size_parts]; omega) _ _ _ (hT1.le hle2) hT2)
            rintro v m3 H ⟨hle3, rfl, hT3⟩
            (try (refine st_O3_1 ?_; intros))
            refine WQ.acted (B := []) (U := H) rfl hle3 zpk ?_
            refine WE.done (by decide +kernel) ?_
            (try (refine st_O3_1 ?_; intros))
            exact q_fin0 (H0 := H) ⟨hle1.trans (hle2.trans hle3), rfl, _, hT3, ⟨⟨hA, hB.1.1⟩, hB.1.2, hB.2⟩, by simp [Nd.text]⟩ (hd := zpk)
          · refine w_callF Try.func70 ?_ (hs := two_any hB.1.2 hB.2 (by omega) _ _ _ hir hbr)
            rintro v m1 H ⟨hle1, rfl, hT1⟩
            (try (refine st_O3_1 ?_; intros))
            refine WQ.acted (B := []) (U := H) rfl hle1 zpk ?_
            refine WE.act1 5 (by decide +kernel) rfl rfl (fun c h => by cases h) ?_
            refine w_callF Try.func70 ?_ (hs := two_any hA hB.1.1 (by omega) _ _ _ (ha.le hle1) (hil.le hle1))
            rintro v m2 H ⟨hle2, rfl, hT2⟩
            (try (refine st_O3_1 ?_; intros))
            refine WQ.acted (B := []) (U := H) rfl hle2 zpk ?_
            refine WE.act1 15 (by decide +kernel) rfl rfl (fun c h => by cases h) ?_
            refine w_callF Try.func70 ?_ (hs := two_any (A := A.joint il) (B := ir.joint br) ⟨hA, hB.1.1⟩ ⟨hB.1.2, hB.2⟩ (by rw [size_parts, size_parts]; omega) _ _ _ hT2 (hT1.le hle2))
            rintro v m3 H ⟨hle3, rfl, hT3⟩
            (try (refine st_O3_1 ?_; intros))
            refine WQ.acted (B := []) (U := H) rfl hle3 zpk ?_
            refine WE.done (by decide +kernel) ?_
            (try (refine st_O3_1 ?_; intros))
            exact q_fin0 (H0 := H) ⟨hle1.trans (hle2.trans hle3), rfl, _, hT3, ⟨⟨hA, hB.1.1⟩, hB.1.2, hB.2⟩, by simp [Nd.text]⟩ (hd := zpk)
    · (try (refine st_O3_1 ?_; intros))
      refine w_asAny rfl ha rfl fun p q => ?_
      (try (refine st_O3_1 ?_; intros))
      refine w_asAny rfl hb rfl fun p2 q2 => ?_
      (try (refine st_O3_1 ?_; intros))
      cases q <;> cases q2
      all_goals
        (try (refine st_O3_1 ?_; intros))
        refine w_callF Try.func70 ?_ (hs := two_any hA hB (by omega) _ _ _ ha hb)
        rintro v m1 H ⟨hle1, rfl, hT1⟩
        (try (refine st_O3_1 ?_; intros))
        exact q_fin0 (H0 := H) ⟨hle1, rfl, _, hT1, ⟨hA, hB⟩, rfl⟩ (hd := zpk)
end Go.Proofs.Ytljfncpecpkhhaa

/-
  The walks of a rope's nodes, fourth part: joined. No condition.
-/
namespace Go.Proofs.Ytljfncpecpkhhaa
open Go Go.Eng
set_option maxRecDepth 100000
set_option maxHeartbeats 4000000
set_option linter.all false
attribute [local irreducible] WL WC WQ QFun QLoop Does Q1 QRound QAssign Go.Addr.add
def JoinP (A B : Nd) (m : Mem) (H : SHeap) : Value → Mem → SHeap → Prop := fun v m' H' => m.le m' ∧ H' = H ∧ ∃ T, NAt m' T v ∧ T.Ok ∧ T.text = A.text ++ B.text ∧ (1024 < A.size + B.size → A.deep ≤ B.deep + 1 → B.deep ≤ A.deep + 1 → T = .joint A B)
theorem sq_O4_1 {G : Prop} (h : G := by (repeat (first | (refine sp ?_; (repeat intro zzc)) | (refine iInv rfl ?_; first | refine w_size rfl (by assumption) rfl ?_ | refine w_depth rfl (by assumption) rfl ?_) | (refine iB_eql rfl ?_; refine WL.eqlNilI rfl (by first | exact .inr ⟨_, _, rfl, rfl⟩ | exact .inl ⟨rfl, rfl⟩) rfl rfl ?_))); exact WQ.q1 rfl) : G := h
theorem st_O4_1 {G G' : Prop} (next : G') (h : Bx G' → G := by intro zzn; (first | ((refine st ?_; (repeat intro zzc)); (try ((first | (refine iInv rfl ?_; first | refine w_size rfl (by assumption) rfl ?_ | refine w_depth rfl (by assumption) rfl ?_) | (refine iB_eql rfl ?_; refine WL.eqlNilI rfl (by first | exact .inr ⟨_, _, rfl, rfl⟩ | exact .inl ⟨rfl, rfl⟩) rfl rfl ?_) | ((refine iDraw ?_; (first | refine WC.drawAll rfl (by decide +kernel) ?_ | refine WC.draw 1 rfl (by decide +kernel) ?_ | refine WC.draw 2 rfl (by decide +kernel) ?_ | refine WC.draw 3 rfl (by decide +kernel) ?_ | refine WC.draw 4 rfl (by decide +kernel) ?_ | refine WC.draw 5 rfl (by decide +kernel) ?_ | refine WC.draw 6 rfl (by decide +kernel) ?_ | refine WC.draw 7 rfl (by decide +kernel) ?_ | refine WC.draw 8 rfl (by decide +kernel) ?_ | refine WC.draw 9 rfl (by decide +kernel) ?_ | refine WC.draw 10 rfl (by decide +kernel) ?_ | refine WC.draw 11 rfl (by decide +kernel) ?_ | refine WC.draw 12 rfl (by decide +kernel) ?_ | refine WC.draw 13 rfl (by decide +kernel) ?_ | refine WC.draw 14 rfl (by decide +kernel) ?_ | refine WC.draw 15 rfl (by decide +kernel) ?_ | refine WC.draw 16 rfl (by decide +kernel) ?_ | refine WC.draw 17 rfl (by decide +kernel) ?_ | refine WC.draw 18 rfl (by decide +kernel) ?_ | refine WC.draw 19 rfl (by decide +kernel) ?_ | refine WC.draw 20 rfl (by decide +kernel) ?_ | refine WC.draw 21 rfl (by decide +kernel) ?_ | refine WC.draw 22 rfl (by decide +kernel) ?_ | refine WC.draw 23 rfl (by decide +kernel) ?_ | refine WC.draw 24 rfl (by decide +kernel) ?_)); (repeat (refine WD.cons rfl (fun c h => by cases h) sq_O4_1 ?_)); refine WD.nil ?_)); (try (refine st ?_; (repeat intro zzc)))))) | ((first | (refine iInv rfl ?_; first | refine w_size rfl (by assumption) rfl ?_ | refine w_depth rfl (by assumption) rfl ?_) | (refine iB_eql rfl ?_; refine WL.eqlNilI rfl (by first | exact .inr ⟨_, _, rfl, rfl⟩ | exact .inl ⟨rfl, rfl⟩) rfl rfl ?_) | ((refine iDraw ?_; (first | refine WC.drawAll rfl (by decide +kernel) ?_ | refine WC.draw 1 rfl (by decide +kernel) ?_ | refine WC.draw 2 rfl (by decide +kernel) ?_ | refine WC.draw 3 rfl (by decide +kernel) ?_ | refine WC.draw 4 rfl (by decide +kernel) ?_ | refine WC.draw 5 rfl (by decide +kernel) ?_ | refine WC.draw 6 rfl (by decide +kernel) ?_ | refine WC.draw 7 rfl (by decide +kernel) ?_ | refine WC.draw 8 rfl (by decide +kernel) ?_ | refine WC.draw 9 rfl (by decide +kernel) ?_ | refine WC.draw 10 rfl (by decide +kernel) ?_ | refine WC.draw 11 rfl (by decide +kernel) ?_ | refine WC.draw 12 rfl (by decide +kernel) ?_ | refine WC.draw 13 rfl (by decide +kernel) ?_ | refine WC.draw 14 rfl (by decide +kernel) ?_ | refine WC.draw 15 rfl (by decide +kernel) ?_ | refine WC.draw 16 rfl (by decide +kernel) ?_ | refine WC.draw 17 rfl (by decide +kernel) ?_ | refine WC.draw 18 rfl (by decide +kernel) ?_ | refine WC.draw 19 rfl (by decide +kernel) ?_ | refine WC.draw 20 rfl (by decide +kernel) ?_ | refine WC.draw 21 rfl (by decide +kernel) ?_ | refine WC.draw 22 rfl (by decide +kernel) ?_ | refine WC.draw 23 rfl (by decide +kernel) ?_ | refine WC.draw 24 rfl (by decide +kernel) ?_)); (repeat (refine WD.cons rfl (fun c h => by cases h) sq_O4_1 ?_)); refine WD.nil ?_)); (try (refine st ?_; (repeat intro zzc))))); (repeat ((first | (refine iInv rfl ?_; first | refine w_size rfl (by assumption) rfl ?_ | refine w_depth rfl (by assumption) rfl ?_) | (refine iB_eql rfl ?_; refine WL.eqlNilI rfl (by first | exact .inr ⟨_, _, rfl, rfl⟩ | exact .inl ⟨rfl, rfl⟩) rfl rfl ?_) | ((refine iDraw ?_; (first | refine WC.drawAll rfl (by decide +kernel) ?_ | refine WC.draw 1 rfl (by decide +kernel) ?_ | refine WC.draw 2 rfl (by decide +kernel) ?_ | refine WC.draw 3 rfl (by decide +kernel) ?_ | refine WC.draw 4 rfl (by decide +kernel) ?_ | refine WC.draw 5 rfl (by decide +kernel) ?_ | refine WC.draw 6 rfl (by decide +kernel) ?_ | refine WC.draw 7 rfl (by decide +kernel) ?_ | refine WC.draw 8 rfl (by decide +kernel) ?_ | refine WC.draw 9 rfl (by decide +kernel) ?_ | refine WC.draw 10 rfl (by decide +kernel) ?_ | refine WC.draw 11 rfl (by decide +kernel) ?_ | refine WC.draw 12 rfl (by decide +kernel) ?_ | refine WC.draw 13 rfl (by decide +kernel) ?_ | refine WC.draw 14 rfl (by decide +kernel) ?_ | refine WC.draw 15 rfl (by decide +kernel) ?_ | refine WC.draw 16 rfl (by decide +kernel) ?_ | refine WC.draw 17 rfl (by decide +kernel) ?_ | refine WC.draw 18 rfl (by decide +kernel) ?_ | refine WC.draw 19 rfl (by decide +kernel) ?_ | refine WC.draw 20 rfl (by decide +kernel) ?_ | refine WC.draw 21 rfl (by decide +kernel) ?_ | refine WC.draw 22 rfl (by decide +kernel) ?_ | refine WC.draw 23 rfl (by decide +kernel) ?_ | refine WC.draw 24 rfl (by decide +kernel) ?_)); (repeat (refine WD.cons rfl (fun c h => by cases h) sq_O4_1 ?_)); refine WD.nil ?_)); (try (refine st ?_; (repeat intro zzc))))); (repeat revert zzc); exact zzn.out) : G := h ⟨next⟩
theorem cmx_O4_0 {G G' : Prop} (next : G') (h : Bx G' → G := by intro zzn; (try (refine wcal 0 ?_ (hwl := by intro zm zF zle; have zb := zle _ _ hqa; exact sq_O4_1))); (try (refine wcal 1 ?_ (hwl := by intro zm zF zle; have zb := zle _ _ hqa; exact sq_O4_1))); (try (refine wcal 2 ?_ (hwl := by intro zm zF zle; have zb := zle _ _ hqa; exact sq_O4_1))); (try (refine wcal 3 ?_ (hwl := by intro zm zF zle; have zb := zle _ _ hqa; exact sq_O4_1))); (try (refine wcal 4 ?_ (hwl := by intro zm zF zle; have zb := zle _ _ hqa; exact sq_O4_1))); (try (refine wcal 5 ?_ (hwl := by intro zm zF zle; have zb := zle _ _ hqa; exact sq_O4_1))); (try (refine wcal 6 ?_ (hwl := by intro zm zF zle; have zb := zle _ _ hqa; exact sq_O4_1))); (try (refine wcal 7 ?_ (hwl := by intro zm zF zle; have zb := zle _ _ hqa; exact sq_O4_1))); (try (refine wcal 8 ?_ (hwl := by intro zm zF zle; have zb := zle _ _ hqa; exact sq_O4_1))); (try (refine wcal 9 ?_ (hwl := by intro zm zF zle; have zb := zle _ _ hqa; exact sq_O4_1))); (try (refine wcal 10 ?_ (hwl := by intro zm zF zle; have zb := zle _ _ hqa; exact sq_O4_1))); (try (refine wcal 11 ?_ (hwl := by intro zm zF zle; have zb := zle _ _ hqa; exact sq_O4_1))); (try (refine wcal 12 ?_ (hwl := by intro zm zF zle; have zb := zle _ _ hqa; exact sq_O4_1))); (try (refine wcal 13 ?_ (hwl := by intro zm zF zle; have zb := zle _ _ hqa; exact sq_O4_1))); (try (refine wcal 14 ?_ (hwl := by intro zm zF zle; have zb := zle _ _ hqa; exact sq_O4_1))); (try (refine wcal 15 ?_ (hwl := by intro zm zF zle; have zb := zle _ _ hqa; exact sq_O4_1))); (try (refine wcal 16 ?_ (hwl := by intro zm zF zle; have zb := zle _ _ hqa; exact sq_O4_1))); (try (refine wcal 17 ?_ (hwl := by intro zm zF zle; have zb := zle _ _ hqa; exact sq_O4_1))); (try (refine wcal 18 ?_ (hwl := by intro zm zF zle; have zb := zle _ _ hqa; exact sq_O4_1))); (try (refine wcal 19 ?_ (hwl := by intro zm zF zle; have zb := zle _ _ hqa; exact sq_O4_1))); (try (refine wcal 20 ?_ (hwl := by intro zm zF zle; have zb := zle _ _ hqa; exact sq_O4_1))); (try (refine wcal 21 ?_ (hwl := by intro zm zF zle; have zb := zle _ _ hqa; exact sq_O4_1))); (try (refine wcal 22 ?_ (hwl := by intro zm zF zle; have zb := zle _ _ hqa; exact sq_O4_1))); (try (refine wcal 23 ?_ (hwl := by intro zm zF zle; have zb := zle _ _ hqa; exact sq_O4_1))); (try (refine wcal 24 ?_ (hwl := by intro zm zF zle; have zb := zle _ _ hqa; exact sq_O4_1))); (try (refine wcal 25 ?_ (hwl := by intro zm zF zle; have zb := zle _ _ hqa; exact sq_O4_1))); (try (refine wcal 26 ?_ (hwl := by intro zm zF zle; have zb := zle _ _ hqa; exact sq_O4_1))); (try (refine wcal 27 ?_ (hwl := by intro zm zF zle; have zb := zle _ _ hqa; exact sq_O4_1))); (try (refine wcal 28 ?_ (hwl := by intro zm zF zle; have zb := zle _ _ hqa; exact sq_O4_1))); (try (refine wcal 29 ?_ (hwl := by intro zm zF zle; have zb := zle _ _ hqa; exact sq_O4_1))); (try (refine wcal 30 ?_ (hwl := by intro zm zF zle; have zb := zle _ _ hqa; exact sq_O4_1))); (try (refine wcal 31 ?_ (hwl := by intro zm zF zle; have zb := zle _ _ hqa; exact sq_O4_1))); (try (refine wcal 32 ?_ (hwl := by intro zm zF zle; have zb := zle _ _ hqa; exact sq_O4_1))); (try (refine wcal 33 ?_ (hwl := by intro zm zF zle; have zb := zle _ _ hqa; exact sq_O4_1))); (try (refine wcal 34 ?_ (hwl := by intro zm zF zle; have zb := zle _ _ hqa; exact sq_O4_1))); (try (refine wcal 35 ?_ (hwl := by intro zm zF zle; have zb := zle _ _ hqa; exact sq_O4_1))); (try (refine wcal 36 ?_ (hwl := by intro zm zF zle; have zb := zle _ _ hqa; exact sq_O4_1))); (try (refine wcal 37 ?_ (hwl := by intro zm zF zle; have zb := zle _ _ hqa; exact sq_O4_1))); (try (refine wcal 38 ?_ (hwl := by intro zm zF zle; have zb := zle _ _ hqa; exact sq_O4_1))); (try (refine wcal 39 ?_ (hwl := by intro zm zF zle; have zb := zle _ _ hqa; exact sq_O4_1))); (try (refine wcal 40 ?_ (hwl := by intro zm zF zle; have zb := zle _ _ hqa; exact sq_O4_1))); (try (refine wcal 41 ?_ (hwl := by intro zm zF zle; have zb := zle _ _ hqa; exact sq_O4_1))); exact zzn.out) : G := h ⟨next⟩
theorem cmx_O4_1 {G G' : Prop} (next : G') (h : Bx G' → G := by intro zzn; (try (refine wcal 0 ?_ (hwl := by intro zm zF zle; have zb := zle _ _ hqb; exact sq_O4_1))); (try (refine wcal 1 ?_ (hwl := by intro zm zF zle; have zb := zle _ _ hqb; exact sq_O4_1))); (try (refine wcal 2 ?_ (hwl := by intro zm zF zle; have zb := zle _ _ hqb; exact sq_O4_1))); (try (refine wcal 3 ?_ (hwl := by intro zm zF zle; have zb := zle _ _ hqb; exact sq_O4_1))); (try (refine wcal 4 ?_ (hwl := by intro zm zF zle; have zb := zle _ _ hqb; exact sq_O4_1))); (try (refine wcal 5 ?_ (hwl := by intro zm zF zle; have zb := zle _ _ hqb; exact sq_O4_1))); (try (refine wcal 6 ?_ (hwl := by intro zm zF zle; have zb := zle _ _ hqb; exact sq_O4_1))); (try (refine wcal 7 ?_ (hwl := by intro zm zF zle; have zb := zle _ _ hqb; exact sq_O4_1))); (try (refine wcal 8 ?_ (hwl := by intro zm zF zle; have zb := zle _ _ hqb; exact sq_O4_1))); (try (refine wcal 9 ?_ (hwl := by intro zm zF zle; have zb := zle _ _ hqb; exact sq_O4_1))); (try (refine wcal 10 ?_ (hwl := by intro zm zF zle; have zb := zle _ _ hqb; exact sq_O4_1))); (try (refine wcal 11 ?_ (hwl := by intro zm zF zle; have zb := zle _ _ hqb; exact sq_O4_1))); (try (refine wcal 12 ?_ (hwl := by intro zm zF zle; have zb := zle _ _ hqb; exact sq_O4_1))); (try (refine wcal 13 ?_ (hwl := by intro zm zF zle; have zb := zle _ _ hqb; exact sq_O4_1))); (try (refine wcal 14 ?_ (hwl := by intro zm zF zle; have zb := zle _ _ hqb; exact sq_O4_1))); (try (refine wcal 15 ?_ (hwl := by intro zm zF zle; have zb := zle _ _ hqb; exact sq_O4_1))); (try (refine wcal 16 ?_ (hwl := by intro zm zF zle; have zb := zle _ _ hqb; exact sq_O4_1))); (try (refine wcal 17 ?_ (hwl := by intro zm zF zle; have zb := zle _ _ hqb; exact sq_O4_1))); (try (refine wcal 18 ?_ (hwl := by intro zm zF zle; have zb := zle _ _ hqb; exact sq_O4_1))); (try (refine wcal 19 ?_ (hwl := by intro zm zF zle; have zb := zle _ _ hqb; exact sq_O4_1))); (try (refine wcal 20 ?_ (hwl := by intro zm zF zle; have zb := zle _ _ hqb; exact sq_O4_1))); (try (refine wcal 21 ?_ (hwl := by intro zm zF zle; have zb := zle _ _ hqb; exact sq_O4_1))); (try (refine wcal 22 ?_ (hwl := by intro zm zF zle; have zb := zle _ _ hqb; exact sq_O4_1))); (try (refine wcal 23 ?_ (hwl := by intro zm zF zle; have zb := zle _ _ hqb; exact sq_O4_1))); (try (refine wcal 24 ?_ (hwl := by intro zm zF zle; have zb := zle _ _ hqb; exact sq_O4_1))); (try (refine wcal 25 ?_ (hwl := by intro zm zF zle; have zb := zle _ _ hqb; exact sq_O4_1))); (try (refine wcal 26 ?_ (hwl := by intro zm zF zle; have zb := zle _ _ hqb; exact sq_O4_1))); (try (refine wcal 27 ?_ (hwl := by intro zm zF zle; have zb := zle _ _ hqb; exact sq_O4_1))); (try (refine wcal 28 ?_ (hwl := by intro zm zF zle; have zb := zle _ _ hqb; exact sq_O4_1))); (try (refine wcal 29 ?_ (hwl := by intro zm zF zle; have zb := zle _ _ hqb; exact sq_O4_1))); (try (refine wcal 30 ?_ (hwl := by intro zm zF zle; have zb := zle _ _ hqb; exact sq_O4_1))); (try (refine wcal 31 ?_ (hwl := by intro zm zF zle; have zb := zle _ _ hqb; exact sq_O4_1))); (try (refine wcal 32 ?_ (hwl := by intro zm zF zle; have zb := zle _ _ hqb; exact sq_O4_1))); (try (refine wcal 33 ?_ (hwl := by intro zm zF zle; have zb := zle _ _ hqb; exact sq_O4_1))); (try (refine wcal 34 ?_ (hwl := by intro zm zF zle; have zb := zle _ _ hqb; exact sq_O4_1))); (try (refine wcal 35 ?_ (hwl := by intro zm zF zle; have zb := zle _ _ hqb; exact sq_O4_1))); (try (refine wcal 36 ?_ (hwl := by intro zm zF zle; have zb := zle _ _ hqb; exact sq_O4_1))); (try (refine wcal 37 ?_ (hwl := by intro zm zF zle; have zb := zle _ _ hqb; exact sq_O4_1))); (try (refine wcal 38 ?_ (hwl := by intro zm zF zle; have zb := zle _ _ hqb; exact sq_O4_1))); (try (refine wcal 39 ?_ (hwl := by intro zm zF zle; have zb := zle _ _ hqb; exact sq_O4_1))); (try (refine wcal 40 ?_ (hwl := by intro zm zF zle; have zb := zle _ _ hqb; exact sq_O4_1))); (try (refine wcal 41 ?_ (hwl := by intro zm zF zle; have zb := zle _ _ hqb; exact sq_O4_1))); exact zzn.out) : G := h ⟨next⟩
theorem cmx_O4_2 {G G' : Prop} (next : G') (h : Bx G' → G := by intro zzn; (try (refine wcal 0 ?_ (hwl := by intro zm zF zle; have zb := zle _ _ (hle1 _ _ hqb); exact sq_O4_1))); (try (refine wcal 1 ?_ (hwl := by intro zm zF zle; have zb := zle _ _ (hle1 _ _ hqb); exact sq_O4_1))); (try (refine wcal 2 ?_ (hwl := by intro zm zF zle; have zb := zle _ _ (hle1 _ _ hqb); exact sq_O4_1))); (try (refine wcal 3 ?_ (hwl := by intro zm zF zle; have zb := zle _ _ (hle1 _ _ hqb); exact sq_O4_1))); (try (refine wcal 4 ?_ (hwl := by intro zm zF zle; have zb := zle _ _ (hle1 _ _ hqb); exact sq_O4_1))); (try (refine wcal 5 ?_ (hwl := by intro zm zF zle; have zb := zle _ _ (hle1 _ _ hqb); exact sq_O4_1))); (try (refine wcal 6 ?_ (hwl := by intro zm zF zle; have zb := zle _ _ (hle1 _ _ hqb); exact sq_O4_1))); (try (refine wcal 7 ?_ (hwl := by intro zm zF zle; have zb := zle _ _ (hle1 _ _ hqb); exact sq_O4_1))); (try (refine wcal 8 ?_ (hwl := by intro zm zF zle; have zb := zle _ _ (hle1 _ _ hqb); exact sq_O4_1))); (try (refine wcal 9 ?_ (hwl := by intro zm zF zle; have zb := zle _ _ (hle1 _ _ hqb); exact sq_O4_1))); (try (refine wcal 10 ?_ (hwl := by intro zm zF zle; have zb := zle _ _ (hle1 _ _ hqb); exact sq_O4_1))); (try (refine wcal 11 ?_ (hwl := by intro zm zF zle; have zb := zle _ _ (hle1 _ _ hqb); exact sq_O4_1))); (try (refine wcal 12 ?_ (hwl := by intro zm zF zle; have zb := zle _ _ (hle1 _ _ hqb); exact sq_O4_1))); (try (refine wcal 13 ?_ (hwl := by intro zm zF zle; have zb := zle _ _ (hle1 _ _ hqb); exact sq_O4_1))); (try (refine wcal 14 ?_ (hwl := by intro zm zF zle; have zb := zle _ _ (hle1 _ _ hqb); exact sq_O4_1))); (try (refine wcal 15 ?_ (hwl := by intro zm zF zle; have zb := zle _ _ (hle1 _ _ hqb); exact sq_O4_1))); (try (refine wcal 16 ?_ (hwl := by intro zm zF zle; have zb := zle _ _ (hle1 _ _ hqb); exact sq_O4_1))); (try (refine wcal 17 ?_ (hwl := by intro zm zF zle; have zb := zle _ _ (hle1 _ _ hqb); exact sq_O4_1))); (try (refine wcal 18 ?_ (hwl := by intro zm zF zle; have zb := zle _ _ (hle1 _ _ hqb); exact sq_O4_1))); (try (refine wcal 19 ?_ (hwl := by intro zm zF zle; have zb := zle _ _ (hle1 _ _ hqb); exact sq_O4_1))); (try (refine wcal 20 ?_ (hwl := by intro zm zF zle; have zb := zle _ _ (hle1 _ _ hqb); exact sq_O4_1))); (try (refine wcal 21 ?_ (hwl := by intro zm zF zle; have zb := zle _ _ (hle1 _ _ hqb); exact sq_O4_1))); (try (refine wcal 22 ?_ (hwl := by intro zm zF zle; have zb := zle _ _ (hle1 _ _ hqb); exact sq_O4_1))); (try (refine wcal 23 ?_ (hwl := by intro zm zF zle; have zb := zle _ _ (hle1 _ _ hqb); exact sq_O4_1))); (try (refine wcal 24 ?_ (hwl := by intro zm zF zle; have zb := zle _ _ (hle1 _ _ hqb); exact sq_O4_1))); (try (refine wcal 25 ?_ (hwl := by intro zm zF zle; have zb := zle _ _ (hle1 _ _ hqb); exact sq_O4_1))); (try (refine wcal 26 ?_ (hwl := by intro zm zF zle; have zb := zle _ _ (hle1 _ _ hqb); exact sq_O4_1))); (try (refine wcal 27 ?_ (hwl := by intro zm zF zle; have zb := zle _ _ (hle1 _ _ hqb); exact sq_O4_1))); (try (refine wcal 28 ?_ (hwl := by intro zm zF zle; have zb := zle _ _ (hle1 _ _ hqb); exact sq_O4_1))); (try (refine wcal 29 ?_ (hwl := by intro zm zF zle; have zb := zle _ _ (hle1 _ _ hqb); exact sq_O4_1))); (try (refine wcal 30 ?_ (hwl := by intro zm zF zle; have zb := zle _ _ (hle1 _ _ hqb); exact sq_O4_1))); (try (refine wcal 31 ?_ (hwl := by intro zm zF zle; have zb := zle _ _ (hle1 _ _ hqb); exact sq_O4_1))); (try (refine wcal 32 ?_ (hwl := by intro zm zF zle; have zb := zle _ _ (hle1 _ _ hqb); exact sq_O4_1))); (try (refine wcal 33 ?_ (hwl := by intro zm zF zle; have zb := zle _ _ (hle1 _ _ hqb); exact sq_O4_1))); (try (refine wcal 34 ?_ (hwl := by intro zm zF zle; have zb := zle _ _ (hle1 _ _ hqb); exact sq_O4_1))); (try (refine wcal 35 ?_ (hwl := by intro zm zF zle; have zb := zle _ _ (hle1 _ _ hqb); exact sq_O4_1))); (try (refine wcal 36 ?_ (hwl := by intro zm zF zle; have zb := zle _ _ (hle1 _ _ hqb); exact sq_O4_1))); (try (refine wcal 37 ?_ (hwl := by intro zm zF zle; have zb := zle _ _ (hle1 _ _ hqb); exact sq_O4_1))); (try (refine wcal 38 ?_ (hwl := by intro zm zF zle; have zb := zle _ _ (hle1 _ _ hqb); exact sq_O4_1))); (try (refine wcal 39 ?_ (hwl := by intro zm zF zle; have zb := zle _ _ (hle1 _ _ hqb); exact sq_O4_1))); (try (refine wcal 40 ?_ (hwl := by intro zm zF zle; have zb := zle _ _ (hle1 _ _ hqb); exact sq_O4_1))); (try (refine wcal 41 ?_ (hwl := by intro zm zF zle; have zb := zle _ _ (hle1 _ _ hqb); exact sq_O4_1))); exact zzn.out) : G := h ⟨next⟩
theorem joined_some : ∀ (k : Nat) (A B : Nd) (va vb : Value), A.size + B.size ≤ k → A.Ok → B.Ok → k ≤ 100000000 → ∀ (w0 : World) (m : Mem) (H : SHeap), NAt m A va → NAt m B vb →
    Does Try.prog 40 #[va, vb] w0 m H (JoinP A B m H)
  | 0, A, B, va, vb, hk, hA, hB, _, w0, m, H, ha, hb => by have := Nd.size_pos hA; omega
  | k + 1, A, B, va, vb, hk, hA, hB, hk2, w0, m, H, ha, hb => by
    have pa := Nd.size_pos hA
    have pb := Nd.size_pos hB
    have da := Nd.deep_lt hA
    have db := Nd.deep_lt hB
    obtain ⟨ta, xa, rfl⟩ := ha.iface
    obtain ⟨tb, xb, rfl⟩ := hb.iface
    refine Does.of_body (args := [.iface ta xa, .iface tb xb]) Try.func40 rfl Try.ntmps40 rfl ?_
    by_cases hsm : A.size + B.size ≤ 1024
    · (try (refine st_O4_1 ?_; intros))
      refine w_callF Try.func41 ?_ (hs := textOf_any (o := some A) hA (by show A.size ≤ _; omega) _ _ _ ha)
      rintro v m H ⟨rfl, rfl, rfl⟩
      (try (refine st_O4_1 ?_; intros))
      refine w_callF Try.func41 ?_ (hs := textOf_any (o := some B) hB (by show B.size ≤ _; omega) _ _ _ hb)
      rintro v m H ⟨rfl, rfl, rfl⟩
      have hl : (rtxt (some A)).length + (rtxt (some B)).length ≤ 1024 := hsm
      have hl1 : 1 ≤ (rtxt (some A)).length := pa
      (try (refine st_O4_1 ?_; intros))
      exact q_fin0 (H0 := H) ⟨Mem.le.refl _, rfl, .leaf (A.text ++ B.text), rfl, ⟨by simp [Nd.size] at pa ⊢; omega, by simp [Nd.size] at hsm ⊢; omega⟩, rfl, fun h => by omega⟩ (hd := zpk)
    · by_cases h1 : B.deep + 1 < A.deep
      · obtain ⟨al, ar, rfl⟩ := Nd.joint_of_deep (x := A) (by omega)
        have ha0 := ha
        obtain ⟨qa, val, var, hval, hqa, hal, har⟩ := ha
        cases hval
        have hsz : (al.joint ar).size = al.size + ar.size := size_parts
        have pal := Nd.size_pos hA.1
        (try (refine st_O4_1 ?_; intros))
        refine WL.assertIs rfl (by kernel_rfl) rfl ?_
        (try (refine st_O4_1 ?_; intros))
        refine WC.drawE 11 ([]) (H) rfl (by decide +kernel) zpk ?_
        (refine cmx_O4_0 ?_)
        refine WE.act1 9 (by decide +kernel) rfl rfl (fun c h => by cases h) ?_
        refine w_callF Try.func40 ?_ (hs := joined_some k ar B _ _ (by omega) hA.2 hB (by omega) _ _ _ har hb)
        rintro v m1 H ⟨hle1, rfl, T1, hT1, ok1, tx1, _⟩
        have hs1 : T1.size = ar.size + B.size := by simp [Nd.size, tx1]
        (try (refine st_O4_1 ?_; intros))
        refine WQ.acted (B := []) (U := H) rfl hle1 zpk ?_
        refine WE.act1 10 (by decide +kernel) rfl rfl (fun c h => by cases h) ?_
        refine w_callF Try.func69 ?_ (hs := turned_any hA.1 ok1 (by omega) _ _ _ (hal.le hle1) hT1)
        rintro v m2 H ⟨hle2, rfl, T2, hT2, ok2, tx2⟩
        (try (refine st_O4_1 ?_; intros))
        refine WQ.acted (B := []) (U := H) rfl hle2 zpk ?_
        refine WE.done (by decide +kernel) ?_
        (try (refine st_O4_1 ?_; intros))
        exact q_fin0 (H0 := H) ⟨hle1.trans hle2, rfl, T2, hT2, ok2, by rw [tx2, tx1]; simp [Nd.text], fun _ h => by omega⟩ (hd := zpk)
      · by_cases h2 : A.deep + 1 < B.deep
        · obtain ⟨bl, br, rfl⟩ := Nd.joint_of_deep (x := B) (by omega)
          have hb0 := hb
          obtain ⟨qb, vbl, vbr, hvbl, hqb, hbl, hbr⟩ := hb
          cases hvbl
          have hsz : (bl.joint br).size = bl.size + br.size := size_parts
          have pbr := Nd.size_pos hB.2
          (try (refine st_O4_1 ?_; intros))
          refine WL.assertIs rfl (by kernel_rfl) rfl ?_
          (try (refine st_O4_1 ?_; intros))
          refine WC.drawE 11 ([]) (H) rfl (by decide +kernel) zpk ?_
          (refine cmx_O4_1 ?_)
          refine WE.act1 5 (by decide +kernel) rfl rfl (fun c h => by cases h) ?_
          refine w_callF Try.func40 ?_ (hs := joined_some k A bl _ _ (by omega) hA hB.1 (by omega) _ _ _ ha hbl)
          rintro v m1 H ⟨hle1, rfl, T1, hT1, ok1, tx1, _⟩
          have hs1 : T1.size = A.size + bl.size := by simp [Nd.size, tx1]
          (try (refine st_O4_1 ?_; intros))
          refine WQ.acted (B := []) (U := H) rfl hle1 zpk ?_
          (refine cmx_O4_2 ?_)
          refine WE.act1 10 (by decide +kernel) rfl rfl (fun c h => by cases h) ?_
          refine w_callF Try.func69 ?_ (hs := turned_any ok1 hB.2 (by omega) _ _ _ hT1 (hbr.le hle1))
          rintro v m2 H ⟨hle2, rfl, T2, hT2, ok2, tx2⟩
          (try (refine st_O4_1 ?_; intros))
          refine WQ.acted (B := []) (U := H) rfl hle2 zpk ?_
          refine WE.done (by decide +kernel) ?_
          (try (refine st_O4_1 ?_; intros))
          exact q_fin0 (H0 := H) ⟨hle1.trans hle2, rfl, T2, hT2, ok2, by rw [tx2, tx1]; simp [Nd.text], fun _ _ h => by omega⟩ (hd := zpk)
        · (try (refine st_O4_1 ?_; intros))
          refine w_callF Try.func70 ?_ (hs := two_any hA hB (by omega) _ _ _ ha hb)
          rintro v m1 H ⟨hle1, rfl, hT1⟩
          (try (refine st_O4_1 ?_; intros))
          exact q_fin0 (H0 := H) ⟨hle1, rfl, _, hT1, ⟨hA, hB⟩, rfl, fun _ _ _ => rfl⟩ (hd := zpk)
def JoinR (oA oB : Option Nd) (m : Mem) (H : SHeap) : Value → Mem → SHeap → Prop := fun v m' H' => m.le m' ∧ H' = H ∧ ∃ o, RAt m' o v ∧ OkR o ∧ rtxt o = rtxt oA ++ rtxt oB ∧
  (∀ A B, oA = some A → oB = some B → 1024 < A.size + B.size → A.deep ≤ B.deep + 1 → B.deep ≤ A.deep + 1 → o = some (.joint A B))
theorem joined_any {oA oB : Option Nd} {va vb : Value} (hs : (rtxt oA).length + (rtxt oB).length ≤ 100000000) (hA : OkR oA) (hB : OkR oB) (w0 : World) (m : Mem) (H : SHeap) (ha : RAt m oA va) (hb : RAt m oB vb) :
    Does Try.prog 40 #[va, vb] w0 m H (JoinR oA oB m H) := by
  cases oA with
  | none =>
    cases ha
    refine Does.of_body (args := [.nilIface, vb]) Try.func40 rfl Try.ntmps40 rfl ?_
    (try (refine st_O4_1 ?_; intros))
    exact q_fin0 (H0 := H) ⟨Mem.le.refl _, rfl, oB, hb, hB, rfl, fun _ _ h => by cases h⟩ (hd := zpk)
  | some A =>
    cases oB with
    | none =>
      cases hb
      have ha' : NAt m A va := ha
      obtain ⟨ta, xa, rfl⟩ := ha'.iface
      refine Does.of_body (args := [.iface ta xa, .nilIface]) Try.func40 rfl Try.ntmps40 rfl ?_
      (try (refine st_O4_1 ?_; intros))
      exact q_fin0 (H0 := H) ⟨Mem.le.refl _, rfl, some A, ha, hA, by simp [rtxt], fun _ _ _ h => by cases h⟩ (hd := zpk)
    | some B =>
      refine (joined_some (A.size + B.size) A B va vb (Nat.le_refl _) hA hB hs w0 m H ha hb).mono ?_
      rintro v m' H' ⟨hle, rfl, T, hT, ok, tx, hj⟩
      exact ⟨hle, rfl, some T, hT, ok, tx, fun A' B' e e' => by cases e; cases e'; intro h1 h2 h3; rw [hj h1 h2 h3]⟩
end Go.Proofs.Ytljfncpecpkhhaa

/-
  The walks of a rope's nodes, fifth part: made, fit, cut, halves; New. No condition.
-/
namespace Go.Proofs.Ytljfncpecpkhhaa
open Go Go.Eng
set_option maxRecDepth 100000
set_option maxHeartbeats 4000000
set_option linter.all false
attribute [local irreducible] WL WC WQ QFun QLoop Does Q1 QRound QAssign Go.Addr.add
def MadeP (s : List UInt8) (m : Mem) (H : SHeap) : Value → Mem → SHeap → Prop := fun v m' H' => m.le m' ∧ H' = H ∧ ∃ o, RAt m' o v ∧ OkR o ∧ rtxt o = s ∧ ∀ T, o = some T → T.deep = dm s.length
theorem made_deep {s t u : List UInt8} {o1 o2 o3 : Option Nd} (hs : 1024 < s.length) (tx1 : rtxt o1 = t) (tx2 : rtxt o2 = u) (dp1 : ∀ T, o1 = some T → T.deep = dm t.length) (dp2 : ∀ T, o2 = some T → T.deep = dm u.length)
    (l1 : t.length = s.length / 2) (l2 : u.length = s.length - s.length / 2) (hj : ∀ A B, o1 = some A → o2 = some B → 1024 < A.size + B.size → A.deep ≤ B.deep + 1 → B.deep ≤ A.deep + 1 → o3 = some (.joint A B)) : ∀ T, o3 = some T → T.deep = dm s.length := by
  have hh := dm_halves s.length
  rcases o1 with _ | A
  · have : t.length = 0 := by rw [← tx1]; rfl
    omega
  rcases o2 with _ | B
  · have : u.length = 0 := by rw [← tx2]; rfl
    omega
  have s1 : A.size = t.length := by rw [← tx1]; rfl
  have s2 : B.size = u.length := by rw [← tx2]; rfl
  have e1 := dp1 A rfl
  have e2 := dp2 B rfl
  rw [l1] at e1
  rw [l2] at e2
  intro T hT
  rw [hj A B rfl rfl (by omega) (by omega) (by omega)] at hT
  cases hT
  rw [dm_big hs]
  simp only [Nd.deep]
  omega
theorem made_any : ∀ (k : Nat) (s : List UInt8), s.length ≤ k → k ≤ 50000000 → ∀ (w0 : World) (m : Mem) (H : SHeap), Does Try.prog 39 #[str s] w0 m H (MadeP s m H)
  | k, s, hk, hk2, w0, m, H => by
    refine Does.of_body (args := [str s]) Try.func39 rfl Try.ntmps39 rfl ?_
    by_cases hs : s.length ≤ 1024
    · (try (refine st ?_; intros))
      refine w_callF Try.func68 ?_ (hs := part_any hs _ _ _)
      rintro v m H ⟨rfl, rfl, o, ho, ok, tx, rfl⟩
      (try (refine st ?_; intros))
      refine q_fin0 (H0 := H) ⟨Mem.le.refl _, rfl, _, ho, ok, tx, ?_⟩ (hd := zpk)
      intro T hT
      rw [dm_small hs]
      split at hT
      · cases hT
      · cases hT; rfl
    · cases k with
      | zero => omega
      | succ k =>
        have l1 : (s.take (s.length / 2)).length = s.length / 2 := by simp; omega
        have l2 : (s.drop (s.length / 2)).length = s.length - s.length / 2 := by simp
        have hh := dm_halves s.length
        have he : s.take (s.length / 2) ++ s.drop (s.length / 2) = s := List.take_append_drop _ _
        (try (refine st ?_; intros))
        refine WC.rename 3 (u := .int .i64 ((s.length / 2 : Nat) : Int)) rfl (congrArg _ (by omega)) ?_
        refine WC.drawE 9 ([]) (H) rfl (by decide +kernel) zpk ?_
        (refine cm0 ?_)
        refine WE.act2 3 7 (by decide +kernel) rfl rfl (fun c h => by cases h) rfl rfl (fun c h => by cases h) ?_ ?_
        · refine w_callF Try.func39 ?_ (hs := made_any k (s.take (s.length / 2)) (by omega) (by omega) _ _ _)
          rintro v m1 H ⟨hle1, rfl, o1, ho1, ok1, tx1, dp1⟩
          (try (refine st ?_; intros))
          refine WQ.acted (B := []) (U := H) rfl hle1 zpk ?_
          refine WE.act1 7 (by decide +kernel) rfl rfl (fun c h => by cases h) ?_
          refine w_callF Try.func39 ?_ (hs := made_any k (s.drop (s.length / 2)) (by omega) (by omega) _ _ _)
          rintro v m2 H ⟨hle2, rfl, o2, ho2, ok2, tx2, dp2⟩
          (try (refine st ?_; intros))
          refine WQ.acted (B := []) (U := H) rfl hle2 zpk ?_
          refine WE.act1 8 (by decide +kernel) rfl rfl (fun c h => by cases h) ?_
          refine w_callF Try.func40 ?_ (hs := joined_any (oA := o1) (oB := o2) (by rw [tx1, tx2]; omega) ok1 ok2 _ _ _ (ho1.le hle2) ho2)
          rintro v m3 H ⟨hle3, rfl, o3, ho3, ok3, tx3, hj⟩
          (try (refine st ?_; intros))
          refine WQ.acted (B := []) (U := H) rfl hle3 zpk ?_
          refine WE.done (by decide +kernel) ?_
          (try (refine st ?_; intros))
          exact q_fin0 (H0 := H) ⟨hle1.trans (hle2.trans hle3), rfl, o3, ho3, ok3, by rw [tx3, tx1, tx2, he], made_deep (by omega) tx1 tx2 dp1 dp2 l1 l2 hj⟩ (hd := zpk)
        · refine w_callF Try.func39 ?_ (hs := made_any k (s.drop (s.length / 2)) (by omega) (by omega) _ _ _)
          rintro v m1 H ⟨hle1, rfl, o2, ho2, ok2, tx2, dp2⟩
          (try (refine st ?_; intros))
          refine WQ.acted (B := []) (U := H) rfl hle1 zpk ?_
          refine WE.act1 3 (by decide +kernel) rfl rfl (fun c h => by cases h) ?_
          refine w_callF Try.func39 ?_ (hs := made_any k (s.take (s.length / 2)) (by omega) (by omega) _ _ _)
          rintro v m2 H ⟨hle2, rfl, o1, ho1, ok1, tx1, dp1⟩
          (try (refine st ?_; intros))
          refine WQ.acted (B := []) (U := H) rfl hle2 zpk ?_
          refine WE.act1 8 (by decide +kernel) rfl rfl (fun c h => by cases h) ?_
          refine w_callF Try.func40 ?_ (hs := joined_any (oA := o1) (oB := o2) (by rw [tx1, tx2]; omega) ok1 ok2 _ _ _ ho1 (ho2.le hle2))
          rintro v m3 H ⟨hle3, rfl, o3, ho3, ok3, tx3, hj⟩
          (try (refine st ?_; intros))
          refine WQ.acted (B := []) (U := H) rfl hle3 zpk ?_
          refine WE.done (by decide +kernel) ?_
          (try (refine st ?_; intros))
          exact q_fin0 (H0 := H) ⟨hle1.trans (hle2.trans hle3), rfl, o3, ho3, ok3, by rw [tx3, tx1, tx2, he], made_deep (by omega) tx1 tx2 dp1 dp2 l1 l2 hj⟩ (hd := zpk)
end Go.Proofs.Ytljfncpecpkhhaa

/-
  The walks of ropes: fit, New, cut, halves, Len, Text, Depth. No condition.
-/
namespace Go.Proofs.Ytljfncpecpkhhaa
open Go Go.Eng
set_option maxRecDepth 100000
set_option maxHeartbeats 4000000
set_option linter.all false
attribute [local irreducible] WL WC WQ QFun QLoop Does Q1 QRound QAssign Go.Addr.add
/-- a rope in memory -/
def RopeAt (m : Mem) (p : Value) (s : List UInt8) : Prop := ∃ b v o, p = .pointer (some ⟨b, 0, none⟩) ∧ m b = some (.cells [v].toArray 82 (0, 0)) ∧ RAt m o v ∧ OkR o ∧ rtxt o = s ∧ s.length ≤ 16777216 ∧ ∀ T, o = some T → T.deep ≤ 2 * bitsN s.length
theorem RopeAt.le {m m' : Mem} {p : Value} {s : List UInt8} (h : RopeAt m p s) (hm : m.le m') : RopeAt m' p s := by
  obtain ⟨b, v, o, h1, h2, h3, h4⟩ := h
  exact ⟨b, v, o, h1, hm _ _ h2, h3.le hm, h4⟩
theorem RopeAt.len {m : Mem} {p : Value} {s : List UInt8} (h : RopeAt m p s) : s.length ≤ 16777216 := by
  obtain ⟨b, v, o, h1, h2, h3, h4, h5, h6, _⟩ := h
  exact h6
def FitP (s : List UInt8) (m : Mem) (H : SHeap) : Value → Mem → SHeap → Prop := fun v m' H' => m.le m' ∧ H' = H ∧ RopeAt m' v s
theorem sq_O6_1 {G : Prop} (h : G := by (repeat (first | (refine sp ?_; (repeat intro zzc)) | (refine iInv rfl ?_; first | refine w_size rfl (by assumption) rfl ?_ | refine w_depth rfl (by assumption) rfl ?_) | (refine iB_eql rfl ?_; refine WL.eqlNilI rfl (by first | exact .inr ⟨_, _, rfl, rfl⟩ | exact .inl ⟨rfl, rfl⟩) rfl rfl ?_))); exact WQ.q1 rfl) : G := h
theorem st_O6_1 {G G' : Prop} (next : G') (h : Bx G' → G := by intro zzn; (first | ((refine st ?_; (repeat intro zzc)); (try ((first | (refine iInv rfl ?_; first | refine w_size rfl (by assumption) rfl ?_ | refine w_depth rfl (by assumption) rfl ?_) | (refine iB_eql rfl ?_; refine WL.eqlNilI rfl (by first | exact .inr ⟨_, _, rfl, rfl⟩ | exact .inl ⟨rfl, rfl⟩) rfl rfl ?_) | ((refine iDraw ?_; (first | refine WC.drawAll rfl (by decide +kernel) ?_ | refine WC.draw 1 rfl (by decide +kernel) ?_ | refine WC.draw 2 rfl (by decide +kernel) ?_ | refine WC.draw 3 rfl (by decide +kernel) ?_ | refine WC.draw 4 rfl (by decide +kernel) ?_ | refine WC.draw 5 rfl (by decide +kernel) ?_ | refine WC.draw 6 rfl (by decide +kernel) ?_ | refine WC.draw 7 rfl (by decide +kernel) ?_ | refine WC.draw 8 rfl (by decide +kernel) ?_ | refine WC.draw 9 rfl (by decide +kernel) ?_ | refine WC.draw 10 rfl (by decide +kernel) ?_ | refine WC.draw 11 rfl (by decide +kernel) ?_ | refine WC.draw 12 rfl (by decide +kernel) ?_ | refine WC.draw 13 rfl (by decide +kernel) ?_ | refine WC.draw 14 rfl (by decide +kernel) ?_ | refine WC.draw 15 rfl (by decide +kernel) ?_ | refine WC.draw 16 rfl (by decide +kernel) ?_ | refine WC.draw 17 rfl (by decide +kernel) ?_ | refine WC.draw 18 rfl (by decide +kernel) ?_ | refine WC.draw 19 rfl (by decide +kernel) ?_ | refine WC.draw 20 rfl (by decide +kernel) ?_ | refine WC.draw 21 rfl (by decide +kernel) ?_ | refine WC.draw 22 rfl (by decide +kernel) ?_ | refine WC.draw 23 rfl (by decide +kernel) ?_ | refine WC.draw 24 rfl (by decide +kernel) ?_)); (repeat (refine WD.cons rfl (fun c h => by cases h) sq_O6_1 ?_)); refine WD.nil ?_)); (try (refine st ?_; (repeat intro zzc)))))) | ((first | (refine iInv rfl ?_; first | refine w_size rfl (by assumption) rfl ?_ | refine w_depth rfl (by assumption) rfl ?_) | (refine iB_eql rfl ?_; refine WL.eqlNilI rfl (by first | exact .inr ⟨_, _, rfl, rfl⟩ | exact .inl ⟨rfl, rfl⟩) rfl rfl ?_) | ((refine iDraw ?_; (first | refine WC.drawAll rfl (by decide +kernel) ?_ | refine WC.draw 1 rfl (by decide +kernel) ?_ | refine WC.draw 2 rfl (by decide +kernel) ?_ | refine WC.draw 3 rfl (by decide +kernel) ?_ | refine WC.draw 4 rfl (by decide +kernel) ?_ | refine WC.draw 5 rfl (by decide +kernel) ?_ | refine WC.draw 6 rfl (by decide +kernel) ?_ | refine WC.draw 7 rfl (by decide +kernel) ?_ | refine WC.draw 8 rfl (by decide +kernel) ?_ | refine WC.draw 9 rfl (by decide +kernel) ?_ | refine WC.draw 10 rfl (by decide +kernel) ?_ | refine WC.draw 11 rfl (by decide +kernel) ?_ | refine WC.draw 12 rfl (by decide +kernel) ?_ | refine WC.draw 13 rfl (by decide +kernel) ?_ | refine WC.draw 14 rfl (by decide +kernel) ?_ | refine WC.draw 15 rfl (by decide +kernel) ?_ | refine WC.draw 16 rfl (by decide +kernel) ?_ | refine WC.draw 17 rfl (by decide +kernel) ?_ | refine WC.draw 18 rfl (by decide +kernel) ?_ | refine WC.draw 19 rfl (by decide +kernel) ?_ | refine WC.draw 20 rfl (by decide +kernel) ?_ | refine WC.draw 21 rfl (by decide +kernel) ?_ | refine WC.draw 22 rfl (by decide +kernel) ?_ | refine WC.draw 23 rfl (by decide +kernel) ?_ | refine WC.draw 24 rfl (by decide +kernel) ?_)); (repeat (refine WD.cons rfl (fun c h => by cases h) sq_O6_1 ?_)); refine WD.nil ?_)); (try (refine st ?_; (repeat intro zzc))))); (repeat ((first | (refine iInv rfl ?_; first | refine w_size rfl (by assumption) rfl ?_ | refine w_depth rfl (by assumption) rfl ?_) | (refine iB_eql rfl ?_; refine WL.eqlNilI rfl (by first | exact .inr ⟨_, _, rfl, rfl⟩ | exact .inl ⟨rfl, rfl⟩) rfl rfl ?_) | ((refine iDraw ?_; (first | refine WC.drawAll rfl (by decide +kernel) ?_ | refine WC.draw 1 rfl (by decide +kernel) ?_ | refine WC.draw 2 rfl (by decide +kernel) ?_ | refine WC.draw 3 rfl (by decide +kernel) ?_ | refine WC.draw 4 rfl (by decide +kernel) ?_ | refine WC.draw 5 rfl (by decide +kernel) ?_ | refine WC.draw 6 rfl (by decide +kernel) ?_ | refine WC.draw 7 rfl (by decide +kernel) ?_ | refine WC.draw 8 rfl (by decide +kernel) ?_ | refine WC.draw 9 rfl (by decide +kernel) ?_ | refine WC.draw 10 rfl (by decide +kernel) ?_ | refine WC.draw 11 rfl (by decide +kernel) ?_ | refine WC.draw 12 rfl (by decide +kernel) ?_ | refine WC.draw 13 rfl (by decide +kernel) ?_ | refine WC.draw 14 rfl (by decide +kernel) ?_ | refine WC.draw 15 rfl (by decide +kernel) ?_ | refine WC.draw 16 rfl (by decide +kernel) ?_ | refine WC.draw 17 rfl (by decide +kernel) ?_ | refine WC.draw 18 rfl (by decide +kernel) ?_ | refine WC.draw 19 rfl (by decide +kernel) ?_ | refine WC.draw 20 rfl (by decide +kernel) ?_ | refine WC.draw 21 rfl (by decide +kernel) ?_ | refine WC.draw 22 rfl (by decide +kernel) ?_ | refine WC.draw 23 rfl (by decide +kernel) ?_ | refine WC.draw 24 rfl (by decide +kernel) ?_)); (repeat (refine WD.cons rfl (fun c h => by cases h) sq_O6_1 ?_)); refine WD.nil ?_)); (try (refine st ?_; (repeat intro zzc))))); (repeat revert zzc); exact zzn.out) : G := h ⟨next⟩
theorem fit_any {o : Option Nd} {v : Value} (ho : OkR o) (hl : (rtxt o).length ≤ 16777216) (w0 : World) (m : Mem) (H : SHeap) (hv : RAt m o v) :
    Does Try.prog 38 #[v] w0 m H (FitP (rtxt o) m H) := by
  cases o with
  | none =>
    cases hv
    refine Does.of_body (args := [.nilIface]) Try.func38 rfl Try.ntmps38 rfl ?_
    (refine st_O6_1 ?_; intros; rename_i b)
    refine WQ.persist (b := b) (by (repeat (first | exact Out.here | apply Out.there))) ?_
    intro m' hle hb
    exact q_fin0 (H0 := H) ⟨hle, rfl, b, .nilIface, none, rfl, hb, rfl, trivial, rfl, hl, fun _ h => by cases h⟩ (hd := zpk)
  | some T =>
    have hT : NAt m T v := hv
    have ho' : T.Ok := ho
    have hsz : (rtxt (some T)).length = T.size := rfl
    obtain ⟨t, x, rfl⟩ := hT.iface
    refine Does.of_body (args := [.iface t x]) Try.func38 rfl Try.ntmps38 rfl ?_
    have hbl := bitsN_le T.size
    (try (refine st_O6_1 ?_; intros))
    refine WC.loopH [(4, .int .i64 ((T.size) : Int)), (3, .int .i64 (2 * ((0) : Int))), (0, .iface t x)] ?_ ?_ (fun j r ds m' H' => ∃ (k : Nat) (c : Nat), j = 2 * k ∧ r = [(4, .int .i64 (k : Int)), (3, .int .i64 (2 * (c : Int))), (0, .iface t x)] ∧ ds = [] ∧ m = m' ∧ H' = H ∧ (c + bitsN k = bitsN T.size)) (2 * (T.size)) ⟨T.size, 0, rfl, rfl, rfl, rfl, rfl, by omega⟩ ?_
    · (repeat (first | exact Env.Sub.nil | refine Env.Sub.cons rfl ?_))
    · exact zpk
    rintro j r ds m' H' ⟨k, c, rfl, rfl, rfl, rfl, rfl, hc⟩
    generalize H' = H
    by_cases hk : 0 < k
    · have hbk := bitsN_pos hk
      (try (refine st_O6_1 ?_; intros))
      rw [show (k : Int) / 2 ^ 1 = ((k / 2 : Nat) : Int) from rfl, show 2 * (c : Int) + 2 = 2 * ((c + 1 : Nat) : Int) by omega]
      refine WQ.next (2 * (k / 2)) ⟨k / 2, c + 1, rfl, rfl, rfl, rfl, rfl, ?_⟩ (by omega) zsb zpk
      omega
    · obtain rfl : k = 0 := by omega
      rw [bitsN_zero] at hc
      by_cases hd : 2 * c < T.deep
      · (try (refine st_O6_1 ?_; intros))
        refine w_callF Try.func41 ?_ (hs := textOf_any (o := some T) ho (by omega) _ _ _ hv)
        rintro v m H ⟨rfl, rfl, rfl⟩
        (try (refine st_O6_1 ?_; intros))
        refine w_callF Try.func39 ?_ (hs := made_any 16777216 (rtxt (some T)) hl (by decide) _ _ _)
        rintro v m1 H ⟨hle1, rfl, o1, ho1, ok1, tx1, dp1⟩
        rcases o1 with _ | T1
        · have : (rtxt (some T)).length = 0 := by rw [← tx1]; rfl
          have := Nd.size_pos ho'
          omega
        · have hT1 : NAt m1 T1 v := ho1
          obtain ⟨t1, x1, rfl⟩ := hT1.iface
          (refine st_O6_1 ?_; intros; rename_i b)
          refine WQ.persist (b := b) (by (repeat (first | exact Out.here | apply Out.there))) ?_
          intro m' hle hb
          exact q_fin0 (H0 := H) ⟨hle1.trans hle, rfl, b, .iface t1 x1, some T1, rfl, hb, ho1.le hle, ok1, tx1, hl, fun T' h => by cases h; rw [dp1 _ rfl]; have := dm_bits (rtxt (some T)).length; omega⟩ (hd := zpk)
      · (refine st_O6_1 ?_; intros; rename_i b)
        refine WQ.persist (b := b) (by (repeat (first | exact Out.here | apply Out.there))) ?_
        intro m' hle hb
        exact q_fin0 (H0 := H) ⟨hle, rfl, b, .iface t x, some T, rfl, hb, hv.le hle, ho, rfl, hl, fun T' h => by cases h; rw [hsz]; omega⟩ (hd := zpk)
theorem sq_O6_2 {G : Prop} (h : G := by (repeat (first | (refine sp ?_; (repeat intro zzc)))); exact WQ.q1 rfl) : G := h
theorem st_O6_2 {G G' : Prop} (next : G') (h : Bx G' → G := by intro zzn; (first | ((refine st ?_; (repeat intro zzc)); (try ((first | ((refine iDraw ?_; (first | refine WC.drawAll rfl (by decide +kernel) ?_ | refine WC.draw 1 rfl (by decide +kernel) ?_ | refine WC.draw 2 rfl (by decide +kernel) ?_ | refine WC.draw 3 rfl (by decide +kernel) ?_ | refine WC.draw 4 rfl (by decide +kernel) ?_ | refine WC.draw 5 rfl (by decide +kernel) ?_ | refine WC.draw 6 rfl (by decide +kernel) ?_ | refine WC.draw 7 rfl (by decide +kernel) ?_ | refine WC.draw 8 rfl (by decide +kernel) ?_ | refine WC.draw 9 rfl (by decide +kernel) ?_ | refine WC.draw 10 rfl (by decide +kernel) ?_ | refine WC.draw 11 rfl (by decide +kernel) ?_ | refine WC.draw 12 rfl (by decide +kernel) ?_ | refine WC.draw 13 rfl (by decide +kernel) ?_ | refine WC.draw 14 rfl (by decide +kernel) ?_ | refine WC.draw 15 rfl (by decide +kernel) ?_ | refine WC.draw 16 rfl (by decide +kernel) ?_ | refine WC.draw 17 rfl (by decide +kernel) ?_ | refine WC.draw 18 rfl (by decide +kernel) ?_ | refine WC.draw 19 rfl (by decide +kernel) ?_ | refine WC.draw 20 rfl (by decide +kernel) ?_ | refine WC.draw 21 rfl (by decide +kernel) ?_ | refine WC.draw 22 rfl (by decide +kernel) ?_ | refine WC.draw 23 rfl (by decide +kernel) ?_ | refine WC.draw 24 rfl (by decide +kernel) ?_)); (repeat (refine WD.cons rfl (fun c h => by cases h) sq_O6_2 ?_)); refine WD.nil ?_)); (try (refine st ?_; (repeat intro zzc)))))) | ((first | ((refine iDraw ?_; (first | refine WC.drawAll rfl (by decide +kernel) ?_ | refine WC.draw 1 rfl (by decide +kernel) ?_ | refine WC.draw 2 rfl (by decide +kernel) ?_ | refine WC.draw 3 rfl (by decide +kernel) ?_ | refine WC.draw 4 rfl (by decide +kernel) ?_ | refine WC.draw 5 rfl (by decide +kernel) ?_ | refine WC.draw 6 rfl (by decide +kernel) ?_ | refine WC.draw 7 rfl (by decide +kernel) ?_ | refine WC.draw 8 rfl (by decide +kernel) ?_ | refine WC.draw 9 rfl (by decide +kernel) ?_ | refine WC.draw 10 rfl (by decide +kernel) ?_ | refine WC.draw 11 rfl (by decide +kernel) ?_ | refine WC.draw 12 rfl (by decide +kernel) ?_ | refine WC.draw 13 rfl (by decide +kernel) ?_ | refine WC.draw 14 rfl (by decide +kernel) ?_ | refine WC.draw 15 rfl (by decide +kernel) ?_ | refine WC.draw 16 rfl (by decide +kernel) ?_ | refine WC.draw 17 rfl (by decide +kernel) ?_ | refine WC.draw 18 rfl (by decide +kernel) ?_ | refine WC.draw 19 rfl (by decide +kernel) ?_ | refine WC.draw 20 rfl (by decide +kernel) ?_ | refine WC.draw 21 rfl (by decide +kernel) ?_ | refine WC.draw 22 rfl (by decide +kernel) ?_ | refine WC.draw 23 rfl (by decide +kernel) ?_ | refine WC.draw 24 rfl (by decide +kernel) ?_)); (repeat (refine WD.cons rfl (fun c h => by cases h) sq_O6_2 ?_)); refine WD.nil ?_)); (try (refine st ?_; (repeat intro zzc))))); (repeat ((first | ((refine iDraw ?_; (first | refine WC.drawAll rfl (by decide +kernel) ?_ | refine WC.draw 1 rfl (by decide +kernel) ?_ | refine WC.draw 2 rfl (by decide +kernel) ?_ | refine WC.draw 3 rfl (by decide +kernel) ?_ | refine WC.draw 4 rfl (by decide +kernel) ?_ | refine WC.draw 5 rfl (by decide +kernel) ?_ | refine WC.draw 6 rfl (by decide +kernel) ?_ | refine WC.draw 7 rfl (by decide +kernel) ?_ | refine WC.draw 8 rfl (by decide +kernel) ?_ | refine WC.draw 9 rfl (by decide +kernel) ?_ | refine WC.draw 10 rfl (by decide +kernel) ?_ | refine WC.draw 11 rfl (by decide +kernel) ?_ | refine WC.draw 12 rfl (by decide +kernel) ?_ | refine WC.draw 13 rfl (by decide +kernel) ?_ | refine WC.draw 14 rfl (by decide +kernel) ?_ | refine WC.draw 15 rfl (by decide +kernel) ?_ | refine WC.draw 16 rfl (by decide +kernel) ?_ | refine WC.draw 17 rfl (by decide +kernel) ?_ | refine WC.draw 18 rfl (by decide +kernel) ?_ | refine WC.draw 19 rfl (by decide +kernel) ?_ | refine WC.draw 20 rfl (by decide +kernel) ?_ | refine WC.draw 21 rfl (by decide +kernel) ?_ | refine WC.draw 22 rfl (by decide +kernel) ?_ | refine WC.draw 23 rfl (by decide +kernel) ?_ | refine WC.draw 24 rfl (by decide +kernel) ?_)); (repeat (refine WD.cons rfl (fun c h => by cases h) sq_O6_2 ?_)); refine WD.nil ?_)); (try (refine st ?_; (repeat intro zzc))))); (repeat revert zzc); exact zzn.out) : G := h ⟨next⟩
def partV (s : List UInt8) : Value := if s = [] then .nilIface else .iface 118 (.agg #[str s])
theorem part_is {s : List UInt8} (w0 : World) (m : Mem) (H : SHeap) : Does Try.prog 68 #[str s] w0 m H (Gives (partV s) m H) := by
  refine Does.of_body (args := [str s]) Try.func68 rfl Try.ntmps68 rfl ?_
  unfold partV
  by_cases h : s = []
  · subst h
    (try (refine st_O6_2 ?_; intros))
    exact q_fin0 (H0 := H) (Gives.mk rfl) (hd := zpk)
  · rw [if_neg h]
    (try (refine st_O6_2 ?_; intros))
    exact q_fin0 (H0 := H) (Gives.mk rfl) (hd := zpk)
theorem partV_at {s : List UInt8} (hs : s.length ≤ 1024) (m : Mem) : ∃ o, RAt m o (partV s) ∧ OkR o ∧ rtxt o = s := by
  unfold partV
  by_cases h : s = []
  · subst h; exact ⟨none, rfl, trivial, rfl⟩
  · rw [if_neg h]; exact ⟨some (.leaf s), rfl, ⟨List.length_pos_iff.2 h, hs⟩, rfl⟩
def newV (m' : Mem) (s : List UInt8) (v : Value) : Prop := if 16777216 < s.length then v = .tuple #[.pointer none, .int .i64 3] else ∃ p, v = .tuple #[p, .int .i64 0] ∧ RopeAt m' p s
theorem new_any (s : List UInt8) (hs : s.length ≤ 9223372036854775807) (w0 : World) (m : Mem) (H : SHeap) : Does Try.prog 12 #[str s] w0 m H (fun v m' H' => m.le m' ∧ H' = H ∧ newV m' s v) := by
  refine Does.of_body (args := [str s]) Try.func12 rfl Try.ntmps12 rfl ?_
  by_cases h : 16777216 < s.length
  · (try (refine st_O6_2 ?_; intros))
    exact q_fin0 (H0 := H) ⟨Mem.le.refl _, rfl, by rw [newV, if_pos h]⟩ (hd := zpk)
  · (try (refine st_O6_2 ?_; intros))
    refine w_callF Try.func39 ?_ (hs := made_any 16777216 s (by omega) (by decide) _ _ _)
    rintro v m1 H ⟨hle1, rfl, o1, ho1, ok1, tx1, dp1⟩
    (try (refine st_O6_2 ?_; intros))
    refine w_callF Try.func38 ?_ (hs := fit_any ok1 (by rw [tx1]; omega) _ _ _ ho1)
    rintro v m2 H ⟨hle2, rfl, hr⟩
    rw [tx1] at hr
    (try (refine st_O6_2 ?_; intros))
    exact q_fin0 (H0 := H) ⟨hle1.trans hle2, rfl, by rw [newV, if_neg h]; exact ⟨v, rfl, hr⟩⟩ (hd := zpk)
theorem sq_O6_3 {G : Prop} (h : G := by (repeat (first | (refine sp ?_; (repeat intro zzc)) | (refine iF 68 rfl ?_; refine w_callG Try.func68 ?_ (hs := part_is _ _ _)) | (refine iInv rfl ?_; first | refine w_size rfl (by assumption) rfl ?_ | refine w_depth rfl (by assumption) rfl ?_) | (refine iB_eql rfl ?_; refine WL.eqlNilI rfl (by first | exact .inr ⟨_, _, rfl, rfl⟩ | exact .inl ⟨rfl, rfl⟩) rfl rfl ?_))); exact WQ.q1 rfl) : G := h
theorem cm_O6_3 {G G' : Prop} (next : G') (h : Bx G' → G := by intro zzn; (try (refine wcal 0 ?_ (hwl := by intro zm zF zle; exact sq_O6_3))); (try (refine wcal 1 ?_ (hwl := by intro zm zF zle; exact sq_O6_3))); (try (refine wcal 2 ?_ (hwl := by intro zm zF zle; exact sq_O6_3))); (try (refine wcal 3 ?_ (hwl := by intro zm zF zle; exact sq_O6_3))); (try (refine wcal 4 ?_ (hwl := by intro zm zF zle; exact sq_O6_3))); (try (refine wcal 5 ?_ (hwl := by intro zm zF zle; exact sq_O6_3))); (try (refine wcal 6 ?_ (hwl := by intro zm zF zle; exact sq_O6_3))); (try (refine wcal 7 ?_ (hwl := by intro zm zF zle; exact sq_O6_3))); (try (refine wcal 8 ?_ (hwl := by intro zm zF zle; exact sq_O6_3))); (try (refine wcal 9 ?_ (hwl := by intro zm zF zle; exact sq_O6_3))); (try (refine wcal 10 ?_ (hwl := by intro zm zF zle; exact sq_O6_3))); (try (refine wcal 11 ?_ (hwl := by intro zm zF zle; exact sq_O6_3))); (try (refine wcal 12 ?_ (hwl := by intro zm zF zle; exact sq_O6_3))); (try (refine wcal 13 ?_ (hwl := by intro zm zF zle; exact sq_O6_3))); (try (refine wcal 14 ?_ (hwl := by intro zm zF zle; exact sq_O6_3))); (try (refine wcal 15 ?_ (hwl := by intro zm zF zle; exact sq_O6_3))); (try (refine wcal 16 ?_ (hwl := by intro zm zF zle; exact sq_O6_3))); (try (refine wcal 17 ?_ (hwl := by intro zm zF zle; exact sq_O6_3))); (try (refine wcal 18 ?_ (hwl := by intro zm zF zle; exact sq_O6_3))); (try (refine wcal 19 ?_ (hwl := by intro zm zF zle; exact sq_O6_3))); (try (refine wcal 20 ?_ (hwl := by intro zm zF zle; exact sq_O6_3))); (try (refine wcal 21 ?_ (hwl := by intro zm zF zle; exact sq_O6_3))); (try (refine wcal 22 ?_ (hwl := by intro zm zF zle; exact sq_O6_3))); (try (refine wcal 23 ?_ (hwl := by intro zm zF zle; exact sq_O6_3))); (try (refine wcal 24 ?_ (hwl := by intro zm zF zle; exact sq_O6_3))); (try (refine wcal 25 ?_ (hwl := by intro zm zF zle; exact sq_O6_3))); (try (refine wcal 26 ?_ (hwl := by intro zm zF zle; exact sq_O6_3))); (try (refine wcal 27 ?_ (hwl := by intro zm zF zle; exact sq_O6_3))); (try (refine wcal 28 ?_ (hwl := by intro zm zF zle; exact sq_O6_3))); (try (refine wcal 29 ?_ (hwl := by intro zm zF zle; exact sq_O6_3))); (try (refine wcal 30 ?_ (hwl := by intro zm zF zle; exact sq_O6_3))); (try (refine wcal 31 ?_ (hwl := by intro zm zF zle; exact sq_O6_3))); (try (refine wcal 32 ?_ (hwl := by intro zm zF zle; exact sq_O6_3))); (try (refine wcal 33 ?_ (hwl := by intro zm zF zle; exact sq_O6_3))); (try (refine wcal 34 ?_ (hwl := by intro zm zF zle; exact sq_O6_3))); (try (refine wcal 35 ?_ (hwl := by intro zm zF zle; exact sq_O6_3))); (try (refine wcal 36 ?_ (hwl := by intro zm zF zle; exact sq_O6_3))); (try (refine wcal 37 ?_ (hwl := by intro zm zF zle; exact sq_O6_3))); (try (refine wcal 38 ?_ (hwl := by intro zm zF zle; exact sq_O6_3))); (try (refine wcal 39 ?_ (hwl := by intro zm zF zle; exact sq_O6_3))); (try (refine wcal 40 ?_ (hwl := by intro zm zF zle; exact sq_O6_3))); (try (refine wcal 41 ?_ (hwl := by intro zm zF zle; exact sq_O6_3))); exact zzn.out) : G := h ⟨next⟩
theorem st_O6_3 {G G' : Prop} (next : G') (h : Bx G' → G := by intro zzn; (first | ((refine st ?_; (repeat intro zzc)); (try ((first | (refine iF 68 rfl ?_; refine w_callG Try.func68 ?_ (hs := part_is _ _ _)) | (refine iInv rfl ?_; first | refine w_size rfl (by assumption) rfl ?_ | refine w_depth rfl (by assumption) rfl ?_) | (refine iB_eql rfl ?_; refine WL.eqlNilI rfl (by first | exact .inr ⟨_, _, rfl, rfl⟩ | exact .inl ⟨rfl, rfl⟩) rfl rfl ?_) | ((refine iDraw ?_; (first | refine WC.drawAll rfl (by decide +kernel) ?_ | refine WC.draw 1 rfl (by decide +kernel) ?_ | refine WC.draw 2 rfl (by decide +kernel) ?_ | refine WC.draw 3 rfl (by decide +kernel) ?_ | refine WC.draw 4 rfl (by decide +kernel) ?_ | refine WC.draw 5 rfl (by decide +kernel) ?_ | refine WC.draw 6 rfl (by decide +kernel) ?_ | refine WC.draw 7 rfl (by decide +kernel) ?_ | refine WC.draw 8 rfl (by decide +kernel) ?_ | refine WC.draw 9 rfl (by decide +kernel) ?_ | refine WC.draw 10 rfl (by decide +kernel) ?_ | refine WC.draw 11 rfl (by decide +kernel) ?_ | refine WC.draw 12 rfl (by decide +kernel) ?_ | refine WC.draw 13 rfl (by decide +kernel) ?_ | refine WC.draw 14 rfl (by decide +kernel) ?_ | refine WC.draw 15 rfl (by decide +kernel) ?_ | refine WC.draw 16 rfl (by decide +kernel) ?_ | refine WC.draw 17 rfl (by decide +kernel) ?_ | refine WC.draw 18 rfl (by decide +kernel) ?_ | refine WC.draw 19 rfl (by decide +kernel) ?_ | refine WC.draw 20 rfl (by decide +kernel) ?_ | refine WC.draw 21 rfl (by decide +kernel) ?_ | refine WC.draw 22 rfl (by decide +kernel) ?_ | refine WC.draw 23 rfl (by decide +kernel) ?_ | refine WC.draw 24 rfl (by decide +kernel) ?_)); (repeat (refine WD.cons rfl (fun c h => by cases h) sq_O6_3 ?_)); refine WD.nil ?_)); (try (refine st ?_; (repeat intro zzc)))))) | ((first | (refine iF 68 rfl ?_; refine w_callG Try.func68 ?_ (hs := part_is _ _ _)) | (refine iInv rfl ?_; first | refine w_size rfl (by assumption) rfl ?_ | refine w_depth rfl (by assumption) rfl ?_) | (refine iB_eql rfl ?_; refine WL.eqlNilI rfl (by first | exact .inr ⟨_, _, rfl, rfl⟩ | exact .inl ⟨rfl, rfl⟩) rfl rfl ?_) | ((refine iDraw ?_; (first | refine WC.drawAll rfl (by decide +kernel) ?_ | refine WC.draw 1 rfl (by decide +kernel) ?_ | refine WC.draw 2 rfl (by decide +kernel) ?_ | refine WC.draw 3 rfl (by decide +kernel) ?_ | refine WC.draw 4 rfl (by decide +kernel) ?_ | refine WC.draw 5 rfl (by decide +kernel) ?_ | refine WC.draw 6 rfl (by decide +kernel) ?_ | refine WC.draw 7 rfl (by decide +kernel) ?_ | refine WC.draw 8 rfl (by decide +kernel) ?_ | refine WC.draw 9 rfl (by decide +kernel) ?_ | refine WC.draw 10 rfl (by decide +kernel) ?_ | refine WC.draw 11 rfl (by decide +kernel) ?_ | refine WC.draw 12 rfl (by decide +kernel) ?_ | refine WC.draw 13 rfl (by decide +kernel) ?_ | refine WC.draw 14 rfl (by decide +kernel) ?_ | refine WC.draw 15 rfl (by decide +kernel) ?_ | refine WC.draw 16 rfl (by decide +kernel) ?_ | refine WC.draw 17 rfl (by decide +kernel) ?_ | refine WC.draw 18 rfl (by decide +kernel) ?_ | refine WC.draw 19 rfl (by decide +kernel) ?_ | refine WC.draw 20 rfl (by decide +kernel) ?_ | refine WC.draw 21 rfl (by decide +kernel) ?_ | refine WC.draw 22 rfl (by decide +kernel) ?_ | refine WC.draw 23 rfl (by decide +kernel) ?_ | refine WC.draw 24 rfl (by decide +kernel) ?_)); (repeat (refine WD.cons rfl (fun c h => by cases h) sq_O6_3 ?_)); refine WD.nil ?_)); (try (refine st ?_; (repeat intro zzc))))); (repeat ((first | (refine iF 68 rfl ?_; refine w_callG Try.func68 ?_ (hs := part_is _ _ _)) | (refine iInv rfl ?_; first | refine w_size rfl (by assumption) rfl ?_ | refine w_depth rfl (by assumption) rfl ?_) | (refine iB_eql rfl ?_; refine WL.eqlNilI rfl (by first | exact .inr ⟨_, _, rfl, rfl⟩ | exact .inl ⟨rfl, rfl⟩) rfl rfl ?_) | ((refine iDraw ?_; (first | refine WC.drawAll rfl (by decide +kernel) ?_ | refine WC.draw 1 rfl (by decide +kernel) ?_ | refine WC.draw 2 rfl (by decide +kernel) ?_ | refine WC.draw 3 rfl (by decide +kernel) ?_ | refine WC.draw 4 rfl (by decide +kernel) ?_ | refine WC.draw 5 rfl (by decide +kernel) ?_ | refine WC.draw 6 rfl (by decide +kernel) ?_ | refine WC.draw 7 rfl (by decide +kernel) ?_ | refine WC.draw 8 rfl (by decide +kernel) ?_ | refine WC.draw 9 rfl (by decide +kernel) ?_ | refine WC.draw 10 rfl (by decide +kernel) ?_ | refine WC.draw 11 rfl (by decide +kernel) ?_ | refine WC.draw 12 rfl (by decide +kernel) ?_ | refine WC.draw 13 rfl (by decide +kernel) ?_ | refine WC.draw 14 rfl (by decide +kernel) ?_ | refine WC.draw 15 rfl (by decide +kernel) ?_ | refine WC.draw 16 rfl (by decide +kernel) ?_ | refine WC.draw 17 rfl (by decide +kernel) ?_ | refine WC.draw 18 rfl (by decide +kernel) ?_ | refine WC.draw 19 rfl (by decide +kernel) ?_ | refine WC.draw 20 rfl (by decide +kernel) ?_ | refine WC.draw 21 rfl (by decide +kernel) ?_ | refine WC.draw 22 rfl (by decide +kernel) ?_ | refine WC.draw 23 rfl (by decide +kernel) ?_ | refine WC.draw 24 rfl (by decide +kernel) ?_)); (repeat (refine WD.cons rfl (fun c h => by cases h) sq_O6_3 ?_)); refine WD.nil ?_)); (try (refine st ?_; (repeat intro zzc))))); (repeat revert zzc); exact zzn.out) : G := h ⟨next⟩
theorem take_over {a b : List UInt8} {k : Nat} (h : a.length ≤ k) : (a ++ b).take k = a ++ b.take (k - a.length) := by rw [List.take_append, List.take_of_length_le h]
theorem drop_over {a b : List UInt8} {k : Nat} (h : a.length ≤ k) : (a ++ b).drop k = b.drop (k - a.length) := by rw [List.drop_append, List.drop_of_length_le h, List.nil_append]
def CutP (s : List UInt8) (k : Nat) (m : Mem) (H : SHeap) : Value → Mem → SHeap → Prop := fun v m' H' => m.le m' ∧ H' = H ∧ ∃ va vb oa ob, v = .tuple #[va, vb] ∧ RAt m' oa va ∧ RAt m' ob vb ∧ OkR oa ∧ OkR ob ∧ rtxt oa = s.take k ∧ rtxt ob = s.drop k
theorem cmx_O6_0 {G G' : Prop} (next : G') (h : Bx G' → G := by intro zzn; (try (refine wcal 0 ?_ (hwl := by intro zm zF zle; have zb := zle _ _ hb; have zc : NAt zm l vl := NodeAt.le zle hvl; exact sq_O6_3))); (try (refine wcal 1 ?_ (hwl := by intro zm zF zle; have zb := zle _ _ hb; have zc : NAt zm l vl := NodeAt.le zle hvl; exact sq_O6_3))); (try (refine wcal 2 ?_ (hwl := by intro zm zF zle; have zb := zle _ _ hb; have zc : NAt zm l vl := NodeAt.le zle hvl; exact sq_O6_3))); (try (refine wcal 3 ?_ (hwl := by intro zm zF zle; have zb := zle _ _ hb; have zc : NAt zm l vl := NodeAt.le zle hvl; exact sq_O6_3))); (try (refine wcal 4 ?_ (hwl := by intro zm zF zle; have zb := zle _ _ hb; have zc : NAt zm l vl := NodeAt.le zle hvl; exact sq_O6_3))); (try (refine wcal 5 ?_ (hwl := by intro zm zF zle; have zb := zle _ _ hb; have zc : NAt zm l vl := NodeAt.le zle hvl; exact sq_O6_3))); (try (refine wcal 6 ?_ (hwl := by intro zm zF zle; have zb := zle _ _ hb; have zc : NAt zm l vl := NodeAt.le zle hvl; exact sq_O6_3))); (try (refine wcal 7 ?_ (hwl := by intro zm zF zle; have zb := zle _ _ hb; have zc : NAt zm l vl := NodeAt.le zle hvl; exact sq_O6_3))); (try (refine wcal 8 ?_ (hwl := by intro zm zF zle; have zb := zle _ _ hb; have zc : NAt zm l vl := NodeAt.le zle hvl; exact sq_O6_3))); (try (refine wcal 9 ?_ (hwl := by intro zm zF zle; have zb := zle _ _ hb; have zc : NAt zm l vl := NodeAt.le zle hvl; exact sq_O6_3))); (try (refine wcal 10 ?_ (hwl := by intro zm zF zle; have zb := zle _ _ hb; have zc : NAt zm l vl := NodeAt.le zle hvl; exact sq_O6_3))); (try (refine wcal 11 ?_ (hwl := by intro zm zF zle; have zb := zle _ _ hb; have zc : NAt zm l vl := NodeAt.le zle hvl; exact sq_O6_3))); (try (refine wcal 12 ?_ (hwl := by intro zm zF zle; have zb := zle _ _ hb; have zc : NAt zm l vl := NodeAt.le zle hvl; exact sq_O6_3))); (try (refine wcal 13 ?_ (hwl := by intro zm zF zle; have zb := zle _ _ hb; have zc : NAt zm l vl := NodeAt.le zle hvl; exact sq_O6_3))); (try (refine wcal 14 ?_ (hwl := by intro zm zF zle; have zb := zle _ _ hb; have zc : NAt zm l vl := NodeAt.le zle hvl; exact sq_O6_3))); (try (refine wcal 15 ?_ (hwl := by intro zm zF zle; have zb := zle _ _ hb; have zc : NAt zm l vl := NodeAt.le zle hvl; exact sq_O6_3))); (try (refine wcal 16 ?_ (hwl := by intro zm zF zle; have zb := zle _ _ hb; have zc : NAt zm l vl := NodeAt.le zle hvl; exact sq_O6_3))); (try (refine wcal 17 ?_ (hwl := by intro zm zF zle; have zb := zle _ _ hb; have zc : NAt zm l vl := NodeAt.le zle hvl; exact sq_O6_3))); (try (refine wcal 18 ?_ (hwl := by intro zm zF zle; have zb := zle _ _ hb; have zc : NAt zm l vl := NodeAt.le zle hvl; exact sq_O6_3))); (try (refine wcal 19 ?_ (hwl := by intro zm zF zle; have zb := zle _ _ hb; have zc : NAt zm l vl := NodeAt.le zle hvl; exact sq_O6_3))); (try (refine wcal 20 ?_ (hwl := by intro zm zF zle; have zb := zle _ _ hb; have zc : NAt zm l vl := NodeAt.le zle hvl; exact sq_O6_3))); (try (refine wcal 21 ?_ (hwl := by intro zm zF zle; have zb := zle _ _ hb; have zc : NAt zm l vl := NodeAt.le zle hvl; exact sq_O6_3))); (try (refine wcal 22 ?_ (hwl := by intro zm zF zle; have zb := zle _ _ hb; have zc : NAt zm l vl := NodeAt.le zle hvl; exact sq_O6_3))); (try (refine wcal 23 ?_ (hwl := by intro zm zF zle; have zb := zle _ _ hb; have zc : NAt zm l vl := NodeAt.le zle hvl; exact sq_O6_3))); (try (refine wcal 24 ?_ (hwl := by intro zm zF zle; have zb := zle _ _ hb; have zc : NAt zm l vl := NodeAt.le zle hvl; exact sq_O6_3))); (try (refine wcal 25 ?_ (hwl := by intro zm zF zle; have zb := zle _ _ hb; have zc : NAt zm l vl := NodeAt.le zle hvl; exact sq_O6_3))); (try (refine wcal 26 ?_ (hwl := by intro zm zF zle; have zb := zle _ _ hb; have zc : NAt zm l vl := NodeAt.le zle hvl; exact sq_O6_3))); (try (refine wcal 27 ?_ (hwl := by intro zm zF zle; have zb := zle _ _ hb; have zc : NAt zm l vl := NodeAt.le zle hvl; exact sq_O6_3))); (try (refine wcal 28 ?_ (hwl := by intro zm zF zle; have zb := zle _ _ hb; have zc : NAt zm l vl := NodeAt.le zle hvl; exact sq_O6_3))); (try (refine wcal 29 ?_ (hwl := by intro zm zF zle; have zb := zle _ _ hb; have zc : NAt zm l vl := NodeAt.le zle hvl; exact sq_O6_3))); (try (refine wcal 30 ?_ (hwl := by intro zm zF zle; have zb := zle _ _ hb; have zc : NAt zm l vl := NodeAt.le zle hvl; exact sq_O6_3))); (try (refine wcal 31 ?_ (hwl := by intro zm zF zle; have zb := zle _ _ hb; have zc : NAt zm l vl := NodeAt.le zle hvl; exact sq_O6_3))); (try (refine wcal 32 ?_ (hwl := by intro zm zF zle; have zb := zle _ _ hb; have zc : NAt zm l vl := NodeAt.le zle hvl; exact sq_O6_3))); (try (refine wcal 33 ?_ (hwl := by intro zm zF zle; have zb := zle _ _ hb; have zc : NAt zm l vl := NodeAt.le zle hvl; exact sq_O6_3))); (try (refine wcal 34 ?_ (hwl := by intro zm zF zle; have zb := zle _ _ hb; have zc : NAt zm l vl := NodeAt.le zle hvl; exact sq_O6_3))); (try (refine wcal 35 ?_ (hwl := by intro zm zF zle; have zb := zle _ _ hb; have zc : NAt zm l vl := NodeAt.le zle hvl; exact sq_O6_3))); (try (refine wcal 36 ?_ (hwl := by intro zm zF zle; have zb := zle _ _ hb; have zc : NAt zm l vl := NodeAt.le zle hvl; exact sq_O6_3))); (try (refine wcal 37 ?_ (hwl := by intro zm zF zle; have zb := zle _ _ hb; have zc : NAt zm l vl := NodeAt.le zle hvl; exact sq_O6_3))); (try (refine wcal 38 ?_ (hwl := by intro zm zF zle; have zb := zle _ _ hb; have zc : NAt zm l vl := NodeAt.le zle hvl; exact sq_O6_3))); (try (refine wcal 39 ?_ (hwl := by intro zm zF zle; have zb := zle _ _ hb; have zc : NAt zm l vl := NodeAt.le zle hvl; exact sq_O6_3))); (try (refine wcal 40 ?_ (hwl := by intro zm zF zle; have zb := zle _ _ hb; have zc : NAt zm l vl := NodeAt.le zle hvl; exact sq_O6_3))); (try (refine wcal 41 ?_ (hwl := by intro zm zF zle; have zb := zle _ _ hb; have zc : NAt zm l vl := NodeAt.le zle hvl; exact sq_O6_3))); exact zzn.out) : G := h ⟨next⟩
theorem cut_any : ∀ (T : Nd) (v : Value) (k : Nat) (z : Int), z = (k : Int) → T.Ok → T.size ≤ 16777216 → k ≤ T.size → ∀ (w0 : World) (m : Mem) (H : SHeap), NAt m T v → Does Try.prog 72 #[v, .int .i64 z] w0 m H (CutP T.text k m H) := by
  intro T
  induction T with
  | leaf s =>
    intro v k z hz ok hl hk w0 m H hT
    subst hz
    cases hT
    have hk' : k ≤ s.length := hk
    have hs1 : (s.take k).length ≤ 1024 := by have := ok.2; simp; omega
    have hs2 : (s.drop k).length ≤ 1024 := by have := ok.2; simp; omega
    obtain ⟨oa, ha1, ha2, ha3⟩ := partV_at hs1 m
    obtain ⟨ob, hb1, hb2, hb3⟩ := partV_at hs2 m
    refine Does.of_body (args := [.iface 118 (.agg #[str s]), .int .i64 (k : Int)]) Try.func72 rfl Try.ntmps72 rfl ?_
    (try (refine st_O6_3 ?_; intros))
    refine WL.assertYes rfl (by kernel_rfl) rfl ?_
    (try (refine st_O6_3 ?_; intros))
    exact q_fin0 (H0 := H) ⟨Mem.le.refl _, rfl, _, _, oa, ob, rfl, ha1, hb1, ha2, hb2, ha3, hb3⟩ (hd := zpk)
  | joint l r ihl ihr =>
    intro v k z hz ok hl hk w0 m H hT
    subst hz
    obtain ⟨b, vl, vr, rfl, hb, hvl, hvr⟩ := hT
    rw [size_parts] at hl hk
    refine Does.of_body (args := [.iface 119 (.pointer (some ⟨b, 0, none⟩)), .int .i64 (k : Int)]) Try.func72 rfl Try.ntmps72 rfl ?_
    (try (refine st_O6_3 ?_; intros))
    refine WL.assertNo (z := .agg #[str []]) rfl rfl (by kernel_rfl) (fun _ => by kernel_rfl) rfl ?_
    (try (refine st_O6_3 ?_; intros))
    refine WL.assertYes rfl (by kernel_rfl) rfl ?_
    (try (refine st_O6_3 ?_; intros))
    have htx : (l.joint r).text = l.text ++ r.text := rfl
    by_cases hk2 : k ≤ l.size
    · (try (refine st_O6_3 ?_; intros))
      refine w_callF Try.func72 ?_ (hs := ihl _ k _ rfl ok.1 (by omega) hk2 _ _ _ hvl)
      rintro v m1 H ⟨hle1, rfl, va, vb, oa, ob, rfl, ha1, hb1, ha2, hb2, ha3, hb3⟩
      have hbm := hle1 _ _ hb
      (try (refine st_O6_3 ?_; intros))
      refine w_callF Try.func40 ?_ (hs := joined_any (oA := ob) (oB := some r) (by rw [hb3]; simp only [List.length_drop, rtxt]; simp only [Nd.size] at hl; omega) hb2 ok.2 _ _ _ hb1 (NodeAt.le hle1 hvr))
      rintro v m2 H ⟨hle2, rfl, o3, ho3, ok3, tx3, _⟩
      (try (refine st_O6_3 ?_; intros))
      refine q_fin0 (H0 := H) ⟨hle1.trans hle2, rfl, _, _, oa, o3, rfl, ha1.le hle2, ho3, ha2, ok3, ?_, ?_⟩ (hd := zpk)
      · rw [ha3, htx, List.take_append_of_le_length hk2]
      · rw [tx3, hb3, htx, List.drop_append_of_le_length hk2]; rfl
    · (try (refine st_O6_3 ?_; intros))
      refine WC.drawE 16 ([]) (H) rfl (by decide +kernel) zpk ?_
      (refine cmx_O6_0 ?_)
      refine WE.act1 11 (by decide +kernel) rfl rfl (fun c h => by cases h) ?_
      refine w_callF Try.func72 ?_ (hs := ihr _ (k - l.size) _ (by omega) ok.2 (by omega) (by omega) _ _ _ hvr)
      rintro v m1 H ⟨hle1, rfl, va, vb, oa, ob, rfl, ha1, hb1, ha2, hb2, ha3, hb3⟩
      (try (refine st_O6_3 ?_; intros))
      refine WQ.acted (B := []) (U := H) rfl hle1 zpk ?_
      (refine cm_O6_3 ?_)
      refine WE.done (by decide +kernel) ?_
      have hbm := hle1 _ _ hb
      (try (refine st_O6_3 ?_; intros))
      refine w_callF Try.func40 ?_ (hs := joined_any (oA := some l) (oB := oa) (by rw [ha3]; simp only [List.length_take, rtxt]; simp only [Nd.size] at hl; omega) ok.1 ha2 _ _ _ (NodeAt.le hle1 hvl) ha1)
      rintro v m2 H ⟨hle2, rfl, o3, ho3, ok3, tx3, _⟩
      (try (refine st_O6_3 ?_; intros))
      refine q_fin0 (H0 := H) ⟨hle1.trans hle2, rfl, _, _, o3, ob, rfl, ho3, hb1.le hle2, ok3, hb2, ?_, ?_⟩ (hd := zpk)
      · rw [tx3, ha3, htx, take_over (Nat.le_of_not_le hk2)]; rfl
      · rw [hb3, htx, drop_over (Nat.le_of_not_le hk2)]; rfl
end Go.Proofs.Ytljfncpecpkhhaa

/-
  The walks of ropes: halves, Len, Depth, Text, Slice, Delete, Insert, Join, Same. No condition.
-/
namespace Go.Eng
/-- what a call on ropes leads to, in plain -/
def newR (s : List UInt8) : Except Int (List UInt8) := if 16777216 < s.length then .error 3 else .ok s
def sliceR (s : List UInt8) (f t : Int) : Except Int (List UInt8) := if f < 0 ∨ t < f ∨ (s.length : Int) < t then .error 5 else .ok ((s.take t.toNat).drop f.toNat)
def deleteR (s : List UInt8) (f t : Int) : Except Int (List UInt8) := if f < 0 ∨ t < f ∨ (s.length : Int) < t then .error 5 else .ok (s.take f.toNat ++ s.drop t.toNat)
def insertR (s : List UInt8) (a : Int) (t : List UInt8) : Except Int (List UInt8) :=
  if a < 0 ∨ (s.length : Int) < a then .error 5 else if 16777216 < s.length + t.length then .error 3 else .ok (s.take a.toNat ++ t ++ s.drop a.toNat)
def joinRR (s t : List UInt8) : Except Int (List UInt8) := if 16777216 < s.length + t.length then .error 3 else .ok (s ++ t)
end Go.Eng
namespace Go.Proofs.Ytljfncpecpkhhaa
open Go Go.Eng
set_option maxRecDepth 100000
set_option maxHeartbeats 4000000
set_option linter.all false
attribute [local irreducible] WL WC WQ QFun QLoop Does Q1 QRound QAssign Go.Addr.add
def ResV (m' : Mem) (x : Except Int (List UInt8)) (v : Value) : Prop := match x with
  | .error e => v = .tuple #[.pointer none, .int .i64 e]
  | .ok s => ∃ p, v = .tuple #[p, .int .i64 0] ∧ RopeAt m' p s
def ResP (x : Except Int (List UInt8)) (m : Mem) (H : SHeap) : Value → Mem → SHeap → Prop := fun v m' H' => m.le m' ∧ H' = H ∧ ResV m' x v
theorem sq_O7_1 {G : Prop} (h : G := by (repeat (first | (refine sp ?_; (repeat intro zzc)) | (refine iInv rfl ?_; first | refine w_size rfl (by assumption) rfl ?_ | refine w_depth rfl (by assumption) rfl ?_) | (refine iB_eql rfl ?_; refine WL.eqlNilI rfl (by first | exact .inr ⟨_, _, rfl, rfl⟩ | exact .inl ⟨rfl, rfl⟩) rfl rfl ?_))); exact WQ.q1 rfl) : G := h
theorem st_O7_1 {G G' : Prop} (next : G') (h : Bx G' → G := by intro zzn; (first | ((refine st ?_; (repeat intro zzc)); (try ((first | (refine iInv rfl ?_; first | refine w_size rfl (by assumption) rfl ?_ | refine w_depth rfl (by assumption) rfl ?_) | (refine iB_eql rfl ?_; refine WL.eqlNilI rfl (by first | exact .inr ⟨_, _, rfl, rfl⟩ | exact .inl ⟨rfl, rfl⟩) rfl rfl ?_) | ((refine iDraw ?_; (first | refine WC.drawAll rfl (by decide +kernel) ?_ | refine WC.draw 1 rfl (by decide +kernel) ?_ | refine WC.draw 2 rfl (by decide +kernel) ?_ | refine WC.draw 3 rfl (by decide +kernel) ?_ | refine WC.draw 4 rfl (by decide +kernel) ?_ | refine WC.draw 5 rfl (by decide +kernel) ?_ | refine WC.draw 6 rfl (by decide +kernel) ?_ | refine WC.draw 7 rfl (by decide +kernel) ?_ | refine WC.draw 8 rfl (by decide +kernel) ?_ | refine WC.draw 9 rfl (by decide +kernel) ?_ | refine WC.draw 10 rfl (by decide +kernel) ?_ | refine WC.draw 11 rfl (by decide +kernel) ?_ | refine WC.draw 12 rfl (by decide +kernel) ?_ | refine WC.draw 13 rfl (by decide +kernel) ?_ | refine WC.draw 14 rfl (by decide +kernel) ?_ | refine WC.draw 15 rfl (by decide +kernel) ?_ | refine WC.draw 16 rfl (by decide +kernel) ?_ | refine WC.draw 17 rfl (by decide +kernel) ?_ | refine WC.draw 18 rfl (by decide +kernel) ?_ | refine WC.draw 19 rfl (by decide +kernel) ?_ | refine WC.draw 20 rfl (by decide +kernel) ?_ | refine WC.draw 21 rfl (by decide +kernel) ?_ | refine WC.draw 22 rfl (by decide +kernel) ?_ | refine WC.draw 23 rfl (by decide +kernel) ?_ | refine WC.draw 24 rfl (by decide +kernel) ?_)); (repeat (refine WD.cons rfl (fun c h => by cases h) sq_O7_1 ?_)); refine WD.nil ?_)); (try (refine st ?_; (repeat intro zzc)))))) | ((first | (refine iInv rfl ?_; first | refine w_size rfl (by assumption) rfl ?_ | refine w_depth rfl (by assumption) rfl ?_) | (refine iB_eql rfl ?_; refine WL.eqlNilI rfl (by first | exact .inr ⟨_, _, rfl, rfl⟩ | exact .inl ⟨rfl, rfl⟩) rfl rfl ?_) | ((refine iDraw ?_; (first | refine WC.drawAll rfl (by decide +kernel) ?_ | refine WC.draw 1 rfl (by decide +kernel) ?_ | refine WC.draw 2 rfl (by decide +kernel) ?_ | refine WC.draw 3 rfl (by decide +kernel) ?_ | refine WC.draw 4 rfl (by decide +kernel) ?_ | refine WC.draw 5 rfl (by decide +kernel) ?_ | refine WC.draw 6 rfl (by decide +kernel) ?_ | refine WC.draw 7 rfl (by decide +kernel) ?_ | refine WC.draw 8 rfl (by decide +kernel) ?_ | refine WC.draw 9 rfl (by decide +kernel) ?_ | refine WC.draw 10 rfl (by decide +kernel) ?_ | refine WC.draw 11 rfl (by decide +kernel) ?_ | refine WC.draw 12 rfl (by decide +kernel) ?_ | refine WC.draw 13 rfl (by decide +kernel) ?_ | refine WC.draw 14 rfl (by decide +kernel) ?_ | refine WC.draw 15 rfl (by decide +kernel) ?_ | refine WC.draw 16 rfl (by decide +kernel) ?_ | refine WC.draw 17 rfl (by decide +kernel) ?_ | refine WC.draw 18 rfl (by decide +kernel) ?_ | refine WC.draw 19 rfl (by decide +kernel) ?_ | refine WC.draw 20 rfl (by decide +kernel) ?_ | refine WC.draw 21 rfl (by decide +kernel) ?_ | refine WC.draw 22 rfl (by decide +kernel) ?_ | refine WC.draw 23 rfl (by decide +kernel) ?_ | refine WC.draw 24 rfl (by decide +kernel) ?_)); (repeat (refine WD.cons rfl (fun c h => by cases h) sq_O7_1 ?_)); refine WD.nil ?_)); (try (refine st ?_; (repeat intro zzc))))); (repeat ((first | (refine iInv rfl ?_; first | refine w_size rfl (by assumption) rfl ?_ | refine w_depth rfl (by assumption) rfl ?_) | (refine iB_eql rfl ?_; refine WL.eqlNilI rfl (by first | exact .inr ⟨_, _, rfl, rfl⟩ | exact .inl ⟨rfl, rfl⟩) rfl rfl ?_) | ((refine iDraw ?_; (first | refine WC.drawAll rfl (by decide +kernel) ?_ | refine WC.draw 1 rfl (by decide +kernel) ?_ | refine WC.draw 2 rfl (by decide +kernel) ?_ | refine WC.draw 3 rfl (by decide +kernel) ?_ | refine WC.draw 4 rfl (by decide +kernel) ?_ | refine WC.draw 5 rfl (by decide +kernel) ?_ | refine WC.draw 6 rfl (by decide +kernel) ?_ | refine WC.draw 7 rfl (by decide +kernel) ?_ | refine WC.draw 8 rfl (by decide +kernel) ?_ | refine WC.draw 9 rfl (by decide +kernel) ?_ | refine WC.draw 10 rfl (by decide +kernel) ?_ | refine WC.draw 11 rfl (by decide +kernel) ?_ | refine WC.draw 12 rfl (by decide +kernel) ?_ | refine WC.draw 13 rfl (by decide +kernel) ?_ | refine WC.draw 14 rfl (by decide +kernel) ?_ | refine WC.draw 15 rfl (by decide +kernel) ?_ | refine WC.draw 16 rfl (by decide +kernel) ?_ | refine WC.draw 17 rfl (by decide +kernel) ?_ | refine WC.draw 18 rfl (by decide +kernel) ?_ | refine WC.draw 19 rfl (by decide +kernel) ?_ | refine WC.draw 20 rfl (by decide +kernel) ?_ | refine WC.draw 21 rfl (by decide +kernel) ?_ | refine WC.draw 22 rfl (by decide +kernel) ?_ | refine WC.draw 23 rfl (by decide +kernel) ?_ | refine WC.draw 24 rfl (by decide +kernel) ?_)); (repeat (refine WD.cons rfl (fun c h => by cases h) sq_O7_1 ?_)); refine WD.nil ?_)); (try (refine st ?_; (repeat intro zzc))))); (repeat revert zzc); exact zzn.out) : G := h ⟨next⟩
theorem halves_any {b k : Nat} {v : Value} {o : Option Nd} {z : Int} (hz : z = (k : Int)) (ho : OkR o) (hl : (rtxt o).length ≤ 16777216) (hk : k ≤ (rtxt o).length) (w0 : World) (m : Mem) (H : SHeap) (hb : m b = some (.cells [v].toArray 82 (0, 0))) (hv : RAt m o v) :
    Does Try.prog 42 #[.pointer (some ⟨b, 0, none⟩), .int .i64 z] w0 m H (CutP (rtxt o) k m H) := by
  refine Does.of_body (args := [.pointer (some ⟨b, 0, none⟩), .int .i64 z]) Try.func42 rfl Try.ntmps42 rfl ?_
  cases o with
  | none =>
    cases hv
    (try (refine st_O7_1 ?_; intros))
    exact q_fin0 (H0 := H) ⟨Mem.le.refl _, rfl, _, _, none, none, rfl, rfl, rfl, trivial, trivial, by simp [rtxt], by simp [rtxt]⟩ (hd := zpk)
  | some T =>
    have hT : NAt m T v := hv
    obtain ⟨t, x, rfl⟩ := hT.iface
    (try (refine st_O7_1 ?_; intros))
    refine w_callF Try.func72 ?_ (hs := cut_any T _ k z hz ho hl hk _ _ _ hT)
    rintro v m1 H ⟨hle1, rfl, va, vb, oa, ob, rfl, ha1, hb1, ha2, hb2, ha3, hb3⟩
    (try (refine st_O7_1 ?_; intros))
    exact q_fin0 (H0 := H) ⟨hle1, rfl, va, vb, oa, ob, rfl, ha1, hb1, ha2, hb2, ha3, hb3⟩ (hd := zpk)
theorem len_any {p : Value} {s : List UInt8} (w0 : World) (m : Mem) (H : SHeap) (hp : RopeAt m p s) : Does Try.prog 19 #[p] w0 m H (Gives (.int .i64 (s.length : Int)) m H) := by
  obtain ⟨b, v, o, rfl, hb, hv, ok, rfl, hl, _⟩ := hp
  refine Does.of_body (args := [.pointer (some ⟨b, 0, none⟩)]) Try.func19 rfl Try.ntmps19 rfl ?_
  cases o with
  | none =>
    cases hv
    (try (refine st_O7_1 ?_; intros))
    exact q_fin0 (H0 := H) (Gives.mk rfl) (hd := zpk)
  | some T =>
    have hT : NAt m T v := hv
    obtain ⟨t, x, rfl⟩ := hT.iface
    (try (refine st_O7_1 ?_; intros))
    exact q_fin0 (H0 := H) (Gives.mk rfl) (hd := zpk)
theorem text_any {p : Value} {s : List UInt8} (w0 : World) (m : Mem) (H : SHeap) (hp : RopeAt m p s) : Does Try.prog 15 #[p] w0 m H (Gives (str s) m H) := by
  obtain ⟨b, v, o, rfl, hb, hv, ok, rfl, hl, _⟩ := hp
  refine Does.of_body (args := [.pointer (some ⟨b, 0, none⟩)]) Try.func15 rfl Try.ntmps15 rfl ?_
  (try (refine st_O7_1 ?_; intros))
  refine w_callF Try.func41 ?_ (hs := textOf_any ok (by omega) _ _ _ hv)
  rintro v m H ⟨rfl, rfl, rfl⟩
  (try (refine st_O7_1 ?_; intros))
  exact q_fin0 (H0 := H) (Gives.mk rfl) (hd := zpk)
theorem sq_O7_2 {G : Prop} (h : G := by (repeat (first | (refine sp ?_; (repeat intro zzc)) | (refine iInv rfl ?_; first | refine w_size rfl (by assumption) rfl ?_ | refine w_depth rfl (by assumption) rfl ?_) | (refine iB_eql rfl ?_; refine WL.eqlNilI rfl (by first | exact .inr ⟨_, _, rfl, rfl⟩ | exact .inl ⟨rfl, rfl⟩) rfl rfl ?_) | (refine iF 19 rfl ?_; refine w_callG Try.func19 ?_ (hs := len_any _ _ _ (by assumption))))); exact WQ.q1 rfl) : G := h
theorem st_O7_2 {G G' : Prop} (next : G') (h : Bx G' → G := by intro zzn; (first | ((refine st ?_; (repeat intro zzc)); (try ((first | (refine iInv rfl ?_; first | refine w_size rfl (by assumption) rfl ?_ | refine w_depth rfl (by assumption) rfl ?_) | (refine iB_eql rfl ?_; refine WL.eqlNilI rfl (by first | exact .inr ⟨_, _, rfl, rfl⟩ | exact .inl ⟨rfl, rfl⟩) rfl rfl ?_) | (refine iF 19 rfl ?_; refine w_callG Try.func19 ?_ (hs := len_any _ _ _ (by assumption))) | ((refine iDraw ?_; (first | refine WC.drawAll rfl (by decide +kernel) ?_ | refine WC.draw 1 rfl (by decide +kernel) ?_ | refine WC.draw 2 rfl (by decide +kernel) ?_ | refine WC.draw 3 rfl (by decide +kernel) ?_ | refine WC.draw 4 rfl (by decide +kernel) ?_ | refine WC.draw 5 rfl (by decide +kernel) ?_ | refine WC.draw 6 rfl (by decide +kernel) ?_ | refine WC.draw 7 rfl (by decide +kernel) ?_ | refine WC.draw 8 rfl (by decide +kernel) ?_ | refine WC.draw 9 rfl (by decide +kernel) ?_ | refine WC.draw 10 rfl (by decide +kernel) ?_ | refine WC.draw 11 rfl (by decide +kernel) ?_ | refine WC.draw 12 rfl (by decide +kernel) ?_ | refine WC.draw 13 rfl (by decide +kernel) ?_ | refine WC.draw 14 rfl (by decide +kernel) ?_ | refine WC.draw 15 rfl (by decide +kernel) ?_ | refine WC.draw 16 rfl (by decide +kernel) ?_ | refine WC.draw 17 rfl (by decide +kernel) ?_ | refine WC.draw 18 rfl (by decide +kernel) ?_ | refine WC.draw 19 rfl (by decide +kernel) ?_ | refine WC.draw 20 rfl (by decide +kernel) ?_ | refine WC.draw 21 rfl (by decide +kernel) ?_ | refine WC.draw 22 rfl (by decide +kernel) ?_ | refine WC.draw 23 rfl (by decide +kernel) ?_ | refine WC.draw 24 rfl (by decide +kernel) ?_)); (repeat (refine WD.cons rfl (fun c h => by cases h) sq_O7_2 ?_)); refine WD.nil ?_)); (try (refine st ?_; (repeat intro zzc)))))) | ((first | (refine iInv rfl ?_; first | refine w_size rfl (by assumption) rfl ?_ | refine w_depth rfl (by assumption) rfl ?_) | (refine iB_eql rfl ?_; refine WL.eqlNilI rfl (by first | exact .inr ⟨_, _, rfl, rfl⟩ | exact .inl ⟨rfl, rfl⟩) rfl rfl ?_) | (refine iF 19 rfl ?_; refine w_callG Try.func19 ?_ (hs := len_any _ _ _ (by assumption))) | ((refine iDraw ?_; (first | refine WC.drawAll rfl (by decide +kernel) ?_ | refine WC.draw 1 rfl (by decide +kernel) ?_ | refine WC.draw 2 rfl (by decide +kernel) ?_ | refine WC.draw 3 rfl (by decide +kernel) ?_ | refine WC.draw 4 rfl (by decide +kernel) ?_ | refine WC.draw 5 rfl (by decide +kernel) ?_ | refine WC.draw 6 rfl (by decide +kernel) ?_ | refine WC.draw 7 rfl (by decide +kernel) ?_ | refine WC.draw 8 rfl (by decide +kernel) ?_ | refine WC.draw 9 rfl (by decide +kernel) ?_ | refine WC.draw 10 rfl (by decide +kernel) ?_ | refine WC.draw 11 rfl (by decide +kernel) ?_ | refine WC.draw 12 rfl (by decide +kernel) ?_ | refine WC.draw 13 rfl (by decide +kernel) ?_ | refine WC.draw 14 rfl (by decide +kernel) ?_ | refine WC.draw 15 rfl (by decide +kernel) ?_ | refine WC.draw 16 rfl (by decide +kernel) ?_ | refine WC.draw 17 rfl (by decide +kernel) ?_ | refine WC.draw 18 rfl (by decide +kernel) ?_ | refine WC.draw 19 rfl (by decide +kernel) ?_ | refine WC.draw 20 rfl (by decide +kernel) ?_ | refine WC.draw 21 rfl (by decide +kernel) ?_ | refine WC.draw 22 rfl (by decide +kernel) ?_ | refine WC.draw 23 rfl (by decide +kernel) ?_ | refine WC.draw 24 rfl (by decide +kernel) ?_)); (repeat (refine WD.cons rfl (fun c h => by cases h) sq_O7_2 ?_)); refine WD.nil ?_)); (try (refine st ?_; (repeat intro zzc))))); (repeat ((first | (refine iInv rfl ?_; first | refine w_size rfl (by assumption) rfl ?_ | refine w_depth rfl (by assumption) rfl ?_) | (refine iB_eql rfl ?_; refine WL.eqlNilI rfl (by first | exact .inr ⟨_, _, rfl, rfl⟩ | exact .inl ⟨rfl, rfl⟩) rfl rfl ?_) | (refine iF 19 rfl ?_; refine w_callG Try.func19 ?_ (hs := len_any _ _ _ (by assumption))) | ((refine iDraw ?_; (first | refine WC.drawAll rfl (by decide +kernel) ?_ | refine WC.draw 1 rfl (by decide +kernel) ?_ | refine WC.draw 2 rfl (by decide +kernel) ?_ | refine WC.draw 3 rfl (by decide +kernel) ?_ | refine WC.draw 4 rfl (by decide +kernel) ?_ | refine WC.draw 5 rfl (by decide +kernel) ?_ | refine WC.draw 6 rfl (by decide +kernel) ?_ | refine WC.draw 7 rfl (by decide +kernel) ?_ | refine WC.draw 8 rfl (by decide +kernel) ?_ | refine WC.draw 9 rfl (by decide +kernel) ?_ | refine WC.draw 10 rfl (by decide +kernel) ?_ | refine WC.draw 11 rfl (by decide +kernel) ?_ | refine WC.draw 12 rfl (by decide +kernel) ?_ | refine WC.draw 13 rfl (by decide +kernel) ?_ | refine WC.draw 14 rfl (by decide +kernel) ?_ | refine WC.draw 15 rfl (by decide +kernel) ?_ | refine WC.draw 16 rfl (by decide +kernel) ?_ | refine WC.draw 17 rfl (by decide +kernel) ?_ | refine WC.draw 18 rfl (by decide +kernel) ?_ | refine WC.draw 19 rfl (by decide +kernel) ?_ | refine WC.draw 20 rfl (by decide +kernel) ?_ | refine WC.draw 21 rfl (by decide +kernel) ?_ | refine WC.draw 22 rfl (by decide +kernel) ?_ | refine WC.draw 23 rfl (by decide +kernel) ?_ | refine WC.draw 24 rfl (by decide +kernel) ?_)); (repeat (refine WD.cons rfl (fun c h => by cases h) sq_O7_2 ?_)); refine WD.nil ?_)); (try (refine st ?_; (repeat intro zzc))))); (repeat revert zzc); exact zzn.out) : G := h ⟨next⟩
theorem slice_any {p : Value} {s : List UInt8} {f t : Int} (w0 : World) (m : Mem) (H : SHeap) (hp : RopeAt m p s) : Does Try.prog 16 #[p, .int .i64 f, .int .i64 t] w0 m H (ResP (sliceR s f t) m H) := by
  have hp0 := hp
  obtain ⟨b, v, o, rfl, hb, hv, ok, rfl, hl, _⟩ := hp
  refine Does.of_body (args := [.pointer (some ⟨b, 0, none⟩), .int .i64 f, .int .i64 t]) Try.func16 rfl Try.ntmps16 rfl ?_
  generalize hR : sliceR (rtxt o) f t = R
  unfold sliceR at hR
  by_cases h1 : f < 0
  · rw [if_pos (.inl h1)] at hR
    subst hR
    (try (refine st_O7_2 ?_; intros))
    exact q_fin0 (H0 := H) ⟨Mem.le.refl _, rfl, rfl⟩ (hd := zpk)
  by_cases h2 : t < f
  · rw [if_pos (.inr (.inl h2))] at hR
    subst hR
    (try (refine st_O7_2 ?_; intros))
    exact q_fin0 (H0 := H) ⟨Mem.le.refl _, rfl, rfl⟩ (hd := zpk)
  by_cases h3 : ((rtxt o).length : Int) < t
  · rw [if_pos (.inr (.inr h3))] at hR
    subst hR
    (try (refine st_O7_2 ?_; intros))
    exact q_fin0 (H0 := H) ⟨Mem.le.refl _, rfl, rfl⟩ (hd := zpk)
  rw [if_neg (by omega)] at hR
  subst hR
  (try (refine st_O7_2 ?_; intros))
  refine w_callF Try.func42 ?_ (hs := halves_any (k := t.toNat) (by omega) ok hl (by omega) _ _ _ hb hv)
  rintro v m1 H ⟨hle1, rfl, va, vb, oa, ob, rfl, ha1, hb1, ha2, hb2, ha3, hb3⟩
  have hla : (rtxt oa).length = t.toNat := by rw [ha3]; simp; omega
  have hcell : ∃ L, va.cells = L := ⟨_, rfl⟩
  have hva : va = .nilIface ∨ ∃ t x, va = .iface t x := by
    cases oa with
    | none => exact .inl ha1
    | some T => exact .inr (NodeAt.iface ha1)
  rcases hva with rfl | ⟨ta, xa, rfl⟩
  all_goals
    (refine st_O7_2 ?_; intros; rename_i q)
    refine WL.persist (b := q) (by (repeat (first | exact Out.here | apply Out.there))) ?_
    intro m2 hle2 hq
    (try (refine st_O7_2 ?_; intros))
    refine w_callF Try.func42 ?_ (hs := halves_any (k := f.toNat) (by omega) ha2 (by omega) (by omega) _ _ _ hq (ha1.le hle2))
    rintro v m3 H ⟨hle3, rfl, vc, vd, oc, od, rfl, hc1, hd1, hc2, hd2, hc3, hd3⟩
    (try (refine st_O7_2 ?_; intros))
    refine w_callF Try.func38 ?_ (hs := fit_any hd2 (by rw [hd3]; simp; omega) _ _ _ hd1)
    rintro v m4 H ⟨hle4, rfl, hr⟩
    rw [hd3, ha3] at hr
    (try (refine st_O7_2 ?_; intros))
    exact q_fin0 (H0 := H) ⟨hle1.trans (hle2.trans (hle3.trans hle4)), rfl, v, rfl, hr⟩ (hd := zpk)
theorem delete_any {p : Value} {s : List UInt8} {f t : Int} (w0 : World) (m : Mem) (H : SHeap) (hp : RopeAt m p s) : Does Try.prog 18 #[p, .int .i64 f, .int .i64 t] w0 m H (ResP (deleteR s f t) m H) := by
  have hp0 := hp
  obtain ⟨b, v, o, rfl, hb, hv, ok, rfl, hl, _⟩ := hp
  refine Does.of_body (args := [.pointer (some ⟨b, 0, none⟩), .int .i64 f, .int .i64 t]) Try.func18 rfl Try.ntmps18 rfl ?_
  generalize hR : deleteR (rtxt o) f t = R
  unfold deleteR at hR
  by_cases h1 : f < 0
  · rw [if_pos (.inl h1)] at hR
    subst hR
    (try (refine st_O7_2 ?_; intros))
    exact q_fin0 (H0 := H) ⟨Mem.le.refl _, rfl, rfl⟩ (hd := zpk)
  by_cases h2 : t < f
  · rw [if_pos (.inr (.inl h2))] at hR
    subst hR
    (try (refine st_O7_2 ?_; intros))
    exact q_fin0 (H0 := H) ⟨Mem.le.refl _, rfl, rfl⟩ (hd := zpk)
  by_cases h3 : ((rtxt o).length : Int) < t
  · rw [if_pos (.inr (.inr h3))] at hR
    subst hR
    (try (refine st_O7_2 ?_; intros))
    exact q_fin0 (H0 := H) ⟨Mem.le.refl _, rfl, rfl⟩ (hd := zpk)
  rw [if_neg (by omega)] at hR
  subst hR
  (try (refine st_O7_2 ?_; intros))
  refine w_callF Try.func42 ?_ (hs := halves_any (k := f.toNat) (by omega) ok hl (by omega) _ _ _ hb hv)
  rintro v2 m1 H ⟨hle1, rfl, va, vb, oa, ob, rfl, ha1, hb1, ha2, hb2, ha3, hb3⟩
  (try (refine st_O7_2 ?_; intros))
  refine w_callF Try.func42 ?_ (hs := halves_any (k := t.toNat) (by omega) ok hl (by omega) _ _ _ (hle1 _ _ hb) (hv.le hle1))
  rintro v3 m2 H ⟨hle2, rfl, vc, vd, oc, od, rfl, hc1, hd1, hc2, hd2, hc3, hd3⟩
  (try (refine st_O7_2 ?_; intros))
  refine w_callF Try.func40 ?_ (hs := joined_any (oA := oa) (oB := od) (by rw [ha3, hd3]; simp; omega) ha2 hd2 _ _ _ (ha1.le hle2) hd1)
  rintro v m3 H ⟨hle3, rfl, o3, ho3, ok3, tx3, _⟩
  have hl3 : (rtxt o3).length ≤ 16777216 := by rw [tx3, ha3, hd3]; simp; omega
  (try (refine st_O7_2 ?_; intros))
  refine w_callF Try.func38 ?_ (hs := fit_any ok3 hl3 _ _ _ ho3)
  rintro v m4 H ⟨hle4, rfl, hr⟩
  rw [tx3, ha3, hd3] at hr
  (try (refine st_O7_2 ?_; intros))
  exact q_fin0 (H0 := H) ⟨hle1.trans (hle2.trans (hle3.trans hle4)), rfl, v, rfl, hr⟩ (hd := zpk)
theorem insert_any {p : Value} {s u : List UInt8} {a : Int} (hu : u.length ≤ 9000000000000000000) (w0 : World) (m : Mem) (H : SHeap) (hp : RopeAt m p s) : Does Try.prog 17 #[p, .int .i64 a, str u] w0 m H (ResP (insertR s a u) m H) := by
  have hp0 := hp
  obtain ⟨b, v, o, rfl, hb, hv, ok, rfl, hl, _⟩ := hp
  refine Does.of_body (args := [.pointer (some ⟨b, 0, none⟩), .int .i64 a, str u]) Try.func17 rfl Try.ntmps17 rfl ?_
  generalize hR : insertR (rtxt o) a u = R
  unfold insertR at hR
  by_cases h1 : a < 0
  · rw [if_pos (.inl h1)] at hR
    subst hR
    (try (refine st_O7_2 ?_; intros))
    exact q_fin0 (H0 := H) ⟨Mem.le.refl _, rfl, rfl⟩ (hd := zpk)
  by_cases h2 : ((rtxt o).length : Int) < a
  · rw [if_pos (.inr h2)] at hR
    subst hR
    (try (refine st_O7_2 ?_; intros))
    exact q_fin0 (H0 := H) ⟨Mem.le.refl _, rfl, rfl⟩ (hd := zpk)
  rw [if_neg (by omega)] at hR
  by_cases h3 : 16777216 < (rtxt o).length + u.length
  · rw [if_pos h3] at hR
    subst hR
    (try (refine st_O7_2 ?_; intros))
    exact q_fin0 (H0 := H) ⟨Mem.le.refl _, rfl, rfl⟩ (hd := zpk)
  rw [if_neg h3] at hR
  subst hR
  (try (refine st_O7_2 ?_; intros))
  refine w_callF Try.func42 ?_ (hs := halves_any (k := a.toNat) (by omega) ok hl (by omega) _ _ _ hb hv)
  rintro v2 m1 H ⟨hle1, rfl, va, vb, oa, ob, rfl, ha1, hb1, ha2, hb2, ha3, hb3⟩
  (try (refine st_O7_2 ?_; intros))
  refine w_callF Try.func39 ?_ (hs := made_any 16777216 u (by omega) (by decide) _ _ _)
  rintro v3 m2 H ⟨hle2, rfl, o2, ho2, ok2, tx2, _⟩
  (try (refine st_O7_2 ?_; intros))
  refine w_callF Try.func40 ?_ (hs := joined_any (oA := oa) (oB := o2) (by rw [ha3, tx2]; simp; omega) ha2 ok2 _ _ _ (ha1.le hle2) ho2)
  rintro v m3 H ⟨hle3, rfl, o3, ho3, ok3, tx3, _⟩
  (try (refine st_O7_2 ?_; intros))
  refine w_callF Try.func40 ?_ (hs := joined_any (oA := o3) (oB := ob) (by rw [tx3, ha3, tx2, hb3]; simp; omega) ok3 hb2 _ _ _ ho3 (hb1.le (hle2.trans hle3)))
  rintro v m4 H ⟨hle4, rfl, o4, ho4, ok4, tx4, _⟩
  have hl4 : (rtxt o4).length ≤ 16777216 := by rw [tx4, tx3, ha3, tx2, hb3]; simp; omega
  (try (refine st_O7_2 ?_; intros))
  refine w_callF Try.func38 ?_ (hs := fit_any ok4 hl4 _ _ _ ho4)
  rintro v m5 H ⟨hle5, rfl, hr⟩
  rw [tx4, tx3, ha3, tx2, hb3] at hr
  (try (refine st_O7_2 ?_; intros))
  exact q_fin0 (H0 := H) ⟨hle1.trans (hle2.trans (hle3.trans (hle4.trans hle5))), rfl, v, rfl, hr⟩ (hd := zpk)
theorem cmx_O7_0 {G G' : Prop} (next : G') (h : Bx G' → G := by intro zzn; (try (refine wcal 0 ?_ (hwl := by intro zm zF zle; have zb := zle _ _ hb; have zc := zle _ _ hb2; exact sq_O7_2))); (try (refine wcal 1 ?_ (hwl := by intro zm zF zle; have zb := zle _ _ hb; have zc := zle _ _ hb2; exact sq_O7_2))); (try (refine wcal 2 ?_ (hwl := by intro zm zF zle; have zb := zle _ _ hb; have zc := zle _ _ hb2; exact sq_O7_2))); (try (refine wcal 3 ?_ (hwl := by intro zm zF zle; have zb := zle _ _ hb; have zc := zle _ _ hb2; exact sq_O7_2))); (try (refine wcal 4 ?_ (hwl := by intro zm zF zle; have zb := zle _ _ hb; have zc := zle _ _ hb2; exact sq_O7_2))); (try (refine wcal 5 ?_ (hwl := by intro zm zF zle; have zb := zle _ _ hb; have zc := zle _ _ hb2; exact sq_O7_2))); (try (refine wcal 6 ?_ (hwl := by intro zm zF zle; have zb := zle _ _ hb; have zc := zle _ _ hb2; exact sq_O7_2))); (try (refine wcal 7 ?_ (hwl := by intro zm zF zle; have zb := zle _ _ hb; have zc := zle _ _ hb2; exact sq_O7_2))); (try (refine wcal 8 ?_ (hwl := by intro zm zF zle; have zb := zle _ _ hb; have zc := zle _ _ hb2; exact sq_O7_2))); (try (refine wcal 9 ?_ (hwl := by intro zm zF zle; have zb := zle _ _ hb; have zc := zle _ _ hb2; exact sq_O7_2))); (try (refine wcal 10 ?_ (hwl := by intro zm zF zle; have zb := zle _ _ hb; have zc := zle _ _ hb2; exact sq_O7_2))); (try (refine wcal 11 ?_ (hwl := by intro zm zF zle; have zb := zle _ _ hb; have zc := zle _ _ hb2; exact sq_O7_2))); (try (refine wcal 12 ?_ (hwl := by intro zm zF zle; have zb := zle _ _ hb; have zc := zle _ _ hb2; exact sq_O7_2))); (try (refine wcal 13 ?_ (hwl := by intro zm zF zle; have zb := zle _ _ hb; have zc := zle _ _ hb2; exact sq_O7_2))); (try (refine wcal 14 ?_ (hwl := by intro zm zF zle; have zb := zle _ _ hb; have zc := zle _ _ hb2; exact sq_O7_2))); (try (refine wcal 15 ?_ (hwl := by intro zm zF zle; have zb := zle _ _ hb; have zc := zle _ _ hb2; exact sq_O7_2))); (try (refine wcal 16 ?_ (hwl := by intro zm zF zle; have zb := zle _ _ hb; have zc := zle _ _ hb2; exact sq_O7_2))); (try (refine wcal 17 ?_ (hwl := by intro zm zF zle; have zb := zle _ _ hb; have zc := zle _ _ hb2; exact sq_O7_2))); (try (refine wcal 18 ?_ (hwl := by intro zm zF zle; have zb := zle _ _ hb; have zc := zle _ _ hb2; exact sq_O7_2))); (try (refine wcal 19 ?_ (hwl := by intro zm zF zle; have zb := zle _ _ hb; have zc := zle _ _ hb2; exact sq_O7_2))); (try (refine wcal 20 ?_ (hwl := by intro zm zF zle; have zb := zle _ _ hb; have zc := zle _ _ hb2; exact sq_O7_2))); (try (refine wcal 21 ?_ (hwl := by intro zm zF zle; have zb := zle _ _ hb; have zc := zle _ _ hb2; exact sq_O7_2))); (try (refine wcal 22 ?_ (hwl := by intro zm zF zle; have zb := zle _ _ hb; have zc := zle _ _ hb2; exact sq_O7_2))); (try (refine wcal 23 ?_ (hwl := by intro zm zF zle; have zb := zle _ _ hb; have zc := zle _ _ hb2; exact sq_O7_2))); (try (refine wcal 24 ?_ (hwl := by intro zm zF zle; have zb := zle _ _ hb; have zc := zle _ _ hb2; exact sq_O7_2))); (try (refine wcal 25 ?_ (hwl := by intro zm zF zle; have zb := zle _ _ hb; have zc := zle _ _ hb2; exact sq_O7_2))); (try (refine wcal 26 ?_ (hwl := by intro zm zF zle; have zb := zle _ _ hb; have zc := zle _ _ hb2; exact sq_O7_2))); (try (refine wcal 27 ?_ (hwl := by intro zm zF zle; have zb := zle _ _ hb; have zc := zle _ _ hb2; exact sq_O7_2))); (try (refine wcal 28 ?_ (hwl := by intro zm zF zle; have zb := zle _ _ hb; have zc := zle _ _ hb2; exact sq_O7_2))); (try (refine wcal 29 ?_ (hwl := by intro zm zF zle; have zb := zle _ _ hb; have zc := zle _ _ hb2; exact sq_O7_2))); (try (refine wcal 30 ?_ (hwl := by intro zm zF zle; have zb := zle _ _ hb; have zc := zle _ _ hb2; exact sq_O7_2))); (try (refine wcal 31 ?_ (hwl := by intro zm zF zle; have zb := zle _ _ hb; have zc := zle _ _ hb2; exact sq_O7_2))); (try (refine wcal 32 ?_ (hwl := by intro zm zF zle; have zb := zle _ _ hb; have zc := zle _ _ hb2; exact sq_O7_2))); (try (refine wcal 33 ?_ (hwl := by intro zm zF zle; have zb := zle _ _ hb; have zc := zle _ _ hb2; exact sq_O7_2))); (try (refine wcal 34 ?_ (hwl := by intro zm zF zle; have zb := zle _ _ hb; have zc := zle _ _ hb2; exact sq_O7_2))); (try (refine wcal 35 ?_ (hwl := by intro zm zF zle; have zb := zle _ _ hb; have zc := zle _ _ hb2; exact sq_O7_2))); (try (refine wcal 36 ?_ (hwl := by intro zm zF zle; have zb := zle _ _ hb; have zc := zle _ _ hb2; exact sq_O7_2))); (try (refine wcal 37 ?_ (hwl := by intro zm zF zle; have zb := zle _ _ hb; have zc := zle _ _ hb2; exact sq_O7_2))); (try (refine wcal 38 ?_ (hwl := by intro zm zF zle; have zb := zle _ _ hb; have zc := zle _ _ hb2; exact sq_O7_2))); (try (refine wcal 39 ?_ (hwl := by intro zm zF zle; have zb := zle _ _ hb; have zc := zle _ _ hb2; exact sq_O7_2))); (try (refine wcal 40 ?_ (hwl := by intro zm zF zle; have zb := zle _ _ hb; have zc := zle _ _ hb2; exact sq_O7_2))); (try (refine wcal 41 ?_ (hwl := by intro zm zF zle; have zb := zle _ _ hb; have zc := zle _ _ hb2; exact sq_O7_2))); exact zzn.out) : G := h ⟨next⟩
theorem join_any {p q : Value} {s u : List UInt8} (w0 : World) (m : Mem) (H : SHeap) (hp : RopeAt m p s) (hq : RopeAt m q u) : Does Try.prog 13 #[p, q] w0 m H (ResP (joinRR s u) m H) := by
  have hp0 := hp
  have hq0 := hq
  obtain ⟨b, v, o, rfl, hb, hv, ok, rfl, hl, _⟩ := hp
  obtain ⟨b2, v2, o2, rfl, hb2, hv2, ok2, rfl, hl2, _⟩ := hq
  refine Does.of_body (args := [.pointer (some ⟨b, 0, none⟩), .pointer (some ⟨b2, 0, none⟩)]) Try.func13 rfl Try.ntmps13 rfl ?_
  generalize hR : joinRR (rtxt o) (rtxt o2) = R
  unfold joinRR at hR
  by_cases h3 : 16777216 < (rtxt o).length + (rtxt o2).length
  · rw [if_pos h3] at hR
    subst hR
    (try (refine st_O7_2 ?_; intros))
    exact q_fin0 (H0 := H) ⟨Mem.le.refl _, rfl, rfl⟩ (hd := zpk)
  rw [if_neg h3] at hR
  subst hR
  (try (refine st_O7_2 ?_; intros))
  refine WC.drawE 10 ([]) (H) rfl (by decide +kernel) zpk ?_
  (refine cmx_O7_0 ?_)
  refine WE.act1 8 (by decide +kernel) rfl rfl (fun c h => by cases h) ?_
  refine w_callF Try.func40 ?_ (hs := joined_any (oA := o) (oB := o2) (by omega) ok ok2 _ _ _ hv hv2)
  rintro v m3 H ⟨hle3, rfl, o3, ho3, ok3, tx3, _⟩
  have hl3 : (rtxt o3).length ≤ 16777216 := by rw [tx3]; simp; omega
  (try (refine st_O7_2 ?_; intros))
  refine WQ.acted (B := []) (U := H) rfl hle3 zpk ?_
  refine WE.act1 9 (by decide +kernel) rfl rfl (fun c h => by cases h) ?_
  refine w_callF Try.func38 ?_ (hs := fit_any ok3 hl3 _ _ _ ho3)
  rintro v m4 H ⟨hle4, rfl, hr⟩
  rw [tx3] at hr
  (try (refine st_O7_2 ?_; intros))
  refine WQ.acted (B := []) (U := H) rfl hle4 zpk ?_
  refine WE.done (by decide +kernel) ?_
  (try (refine st_O7_2 ?_; intros))
  exact q_fin0 (H0 := H) ⟨hle3.trans hle4, rfl, v, rfl, hr⟩ (hd := zpk)
theorem ropes_ptr {m : Mem} {p : Value} {s : List UInt8} (h : RopeAt m p s) : ∃ b, p = .pointer (some ⟨b, 0, none⟩) := by
  obtain ⟨b, v, o, rfl, _⟩ := h
  exact ⟨b, rfl⟩
theorem sq_O7_3 {G : Prop} (h : G := by (repeat (first | (refine sp ?_; (repeat intro zzc)) | (refine iInv rfl ?_; first | refine w_size rfl (by assumption) rfl ?_ | refine w_depth rfl (by assumption) rfl ?_) | (refine iB_eql rfl ?_; refine WL.eqlNilI rfl (by first | exact .inr ⟨_, _, rfl, rfl⟩ | exact .inl ⟨rfl, rfl⟩) rfl rfl ?_) | (refine iF 19 rfl ?_; refine w_callG Try.func19 ?_ (hs := len_any _ _ _ (by assumption))) | (refine iF 19 rfl ?_; refine w_callG Try.func19 ?_ (hs := len_any _ _ _ (by assumption))) | (refine iF 15 rfl ?_; refine w_callG Try.func15 ?_ (hs := text_any _ _ _ (by assumption))))); exact WQ.q1 rfl) : G := h
theorem st_O7_3 {G G' : Prop} (next : G') (h : Bx G' → G := by intro zzn; (first | ((refine st ?_; (repeat intro zzc)); (try ((first | (refine iInv rfl ?_; first | refine w_size rfl (by assumption) rfl ?_ | refine w_depth rfl (by assumption) rfl ?_) | (refine iB_eql rfl ?_; refine WL.eqlNilI rfl (by first | exact .inr ⟨_, _, rfl, rfl⟩ | exact .inl ⟨rfl, rfl⟩) rfl rfl ?_) | (refine iF 19 rfl ?_; refine w_callG Try.func19 ?_ (hs := len_any _ _ _ (by assumption))) | (refine iF 19 rfl ?_; refine w_callG Try.func19 ?_ (hs := len_any _ _ _ (by assumption))) | (refine iF 15 rfl ?_; refine w_callG Try.func15 ?_ (hs := text_any _ _ _ (by assumption))) | ((refine iDraw ?_; (first | refine WC.drawAll rfl (by decide +kernel) ?_ | refine WC.draw 1 rfl (by decide +kernel) ?_ | refine WC.draw 2 rfl (by decide +kernel) ?_ | refine WC.draw 3 rfl (by decide +kernel) ?_ | refine WC.draw 4 rfl (by decide +kernel) ?_ | refine WC.draw 5 rfl (by decide +kernel) ?_ | refine WC.draw 6 rfl (by decide +kernel) ?_ | refine WC.draw 7 rfl (by decide +kernel) ?_ | refine WC.draw 8 rfl (by decide +kernel) ?_ | refine WC.draw 9 rfl (by decide +kernel) ?_ | refine WC.draw 10 rfl (by decide +kernel) ?_ | refine WC.draw 11 rfl (by decide +kernel) ?_ | refine WC.draw 12 rfl (by decide +kernel) ?_ | refine WC.draw 13 rfl (by decide +kernel) ?_ | refine WC.draw 14 rfl (by decide +kernel) ?_ | refine WC.draw 15 rfl (by decide +kernel) ?_ | refine WC.draw 16 rfl (by decide +kernel) ?_ | refine WC.draw 17 rfl (by decide +kernel) ?_ | refine WC.draw 18 rfl (by decide +kernel) ?_ | refine WC.draw 19 rfl (by decide +kernel) ?_ | refine WC.draw 20 rfl (by decide +kernel) ?_ | refine WC.draw 21 rfl (by decide +kernel) ?_ | refine WC.draw 22 rfl (by decide +kernel) ?_ | refine WC.draw 23 rfl (by decide +kernel) ?_ | refine WC.draw 24 rfl (by decide +kernel) ?_)); (repeat (refine WD.cons rfl (fun c h => by cases h) sq_O7_3 ?_)); refine WD.nil ?_)); (try (refine st ?_; (repeat intro zzc)))))) | ((first | (refine iInv rfl ?_; first | refine w_size rfl (by assumption) rfl ?_ | refine w_depth rfl (by assumption) rfl ?_) | (refine iB_eql rfl ?_; refine WL.eqlNilI rfl (by first | exact .inr ⟨_, _, rfl, rfl⟩ | exact .inl ⟨rfl, rfl⟩) rfl rfl ?_) | (refine iF 19 rfl ?_; refine w_callG Try.func19 ?_ (hs := len_any _ _ _ (by assumption))) | (refine iF 19 rfl ?_; refine w_callG Try.func19 ?_ (hs := len_any _ _ _ (by assumption))) | (refine iF 15 rfl ?_; refine w_callG Try.func15 ?_ (hs := text_any _ _ _ (by assumption))) | ((refine iDraw ?_; (first | refine WC.drawAll rfl (by decide +kernel) ?_ | refine WC.draw 1 rfl (by decide +kernel) ?_ | refine WC.draw 2 rfl (by decide +kernel) ?_ | refine WC.draw 3 rfl (by decide +kernel) ?_ | refine WC.draw 4 rfl (by decide +kernel) ?_ | refine WC.draw 5 rfl (by decide +kernel) ?_ | refine WC.draw 6 rfl (by decide +kernel) ?_ | refine WC.draw 7 rfl (by decide +kernel) ?_ | refine WC.draw 8 rfl (by decide +kernel) ?_ | refine WC.draw 9 rfl (by decide +kernel) ?_ | refine WC.draw 10 rfl (by decide +kernel) ?_ | refine WC.draw 11 rfl (by decide +kernel) ?_ | refine WC.draw 12 rfl (by decide +kernel) ?_ | refine WC.draw 13 rfl (by decide +kernel) ?_ | refine WC.draw 14 rfl (by decide +kernel) ?_ | refine WC.draw 15 rfl (by decide +kernel) ?_ | refine WC.draw 16 rfl (by decide +kernel) ?_ | refine WC.draw 17 rfl (by decide +kernel) ?_ | refine WC.draw 18 rfl (by decide +kernel) ?_ | refine WC.draw 19 rfl (by decide +kernel) ?_ | refine WC.draw 20 rfl (by decide +kernel) ?_ | refine WC.draw 21 rfl (by decide +kernel) ?_ | refine WC.draw 22 rfl (by decide +kernel) ?_ | refine WC.draw 23 rfl (by decide +kernel) ?_ | refine WC.draw 24 rfl (by decide +kernel) ?_)); (repeat (refine WD.cons rfl (fun c h => by cases h) sq_O7_3 ?_)); refine WD.nil ?_)); (try (refine st ?_; (repeat intro zzc))))); (repeat ((first | (refine iInv rfl ?_; first | refine w_size rfl (by assumption) rfl ?_ | refine w_depth rfl (by assumption) rfl ?_) | (refine iB_eql rfl ?_; refine WL.eqlNilI rfl (by first | exact .inr ⟨_, _, rfl, rfl⟩ | exact .inl ⟨rfl, rfl⟩) rfl rfl ?_) | (refine iF 19 rfl ?_; refine w_callG Try.func19 ?_ (hs := len_any _ _ _ (by assumption))) | (refine iF 19 rfl ?_; refine w_callG Try.func19 ?_ (hs := len_any _ _ _ (by assumption))) | (refine iF 15 rfl ?_; refine w_callG Try.func15 ?_ (hs := text_any _ _ _ (by assumption))) | ((refine iDraw ?_; (first | refine WC.drawAll rfl (by decide +kernel) ?_ | refine WC.draw 1 rfl (by decide +kernel) ?_ | refine WC.draw 2 rfl (by decide +kernel) ?_ | refine WC.draw 3 rfl (by decide +kernel) ?_ | refine WC.draw 4 rfl (by decide +kernel) ?_ | refine WC.draw 5 rfl (by decide +kernel) ?_ | refine WC.draw 6 rfl (by decide +kernel) ?_ | refine WC.draw 7 rfl (by decide +kernel) ?_ | refine WC.draw 8 rfl (by decide +kernel) ?_ | refine WC.draw 9 rfl (by decide +kernel) ?_ | refine WC.draw 10 rfl (by decide +kernel) ?_ | refine WC.draw 11 rfl (by decide +kernel) ?_ | refine WC.draw 12 rfl (by decide +kernel) ?_ | refine WC.draw 13 rfl (by decide +kernel) ?_ | refine WC.draw 14 rfl (by decide +kernel) ?_ | refine WC.draw 15 rfl (by decide +kernel) ?_ | refine WC.draw 16 rfl (by decide +kernel) ?_ | refine WC.draw 17 rfl (by decide +kernel) ?_ | refine WC.draw 18 rfl (by decide +kernel) ?_ | refine WC.draw 19 rfl (by decide +kernel) ?_ | refine WC.draw 20 rfl (by decide +kernel) ?_ | refine WC.draw 21 rfl (by decide +kernel) ?_ | refine WC.draw 22 rfl (by decide +kernel) ?_ | refine WC.draw 23 rfl (by decide +kernel) ?_ | refine WC.draw 24 rfl (by decide +kernel) ?_)); (repeat (refine WD.cons rfl (fun c h => by cases h) sq_O7_3 ?_)); refine WD.nil ?_)); (try (refine st ?_; (repeat intro zzc))))); (repeat revert zzc); exact zzn.out) : G := h ⟨next⟩
theorem same_any {p q : Value} {s u : List UInt8} (w0 : World) (m : Mem) (H : SHeap) (hp : RopeAt m p s) (hq : RopeAt m q u) : Does Try.prog 14 #[p, q] w0 m H (Gives (.bool (dcd (s = u))) m H) := by
  obtain ⟨b, rfl⟩ := ropes_ptr hp
  obtain ⟨b2, rfl⟩ := ropes_ptr hq
  refine Does.of_body (args := [.pointer (some ⟨b, 0, none⟩), .pointer (some ⟨b2, 0, none⟩)]) Try.func14 rfl Try.ntmps14 rfl ?_
  by_cases h : s.length = u.length
  · (try (refine st_O7_3 ?_; intros))
    exact q_fin0 (H0 := H) (Gives.mk rfl) (hd := zpk)
  · have hne : ¬ s = u := fun e => h (by rw [e])
    rw [dcd_false hne]
    (try (refine st_O7_3 ?_; intros))
    (refine q_fin0 ?_)
    exact Gives.mk rfl
end Go.Proofs.Ytljfncpecpkhhaa

