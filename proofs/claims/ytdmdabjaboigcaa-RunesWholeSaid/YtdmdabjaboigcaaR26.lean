/-
  The walk of the law RunesCuts. No condition.
-/
import Derived.Test.YtdmdabjaboigcaaR25
namespace Go.Eng
open Go Go.RowKit
section
variable {P : Program} {ro : Option Nat} {n : Nat} {w0 : World} {Q : Exit → Act → World → Prop} {r : Env} {ds : List Nat} {m : Mem} {H : SHeap} {ops : Array Oper} {l : List Oper} {d : Nat} {t : TypeId} {ty : TypeId} {pos : String} {after : Array Edge}
theorem WL.indexA {ki : IntKind} {x y : Operand} {vs : List Value} {z : Int} {i len sz : Nat} {e : TypeId} {v : Value} (hx : r.ev x = some (.agg vs.toArray)) (hy : r.ev y = some (.int ki z)) (hz : z = (i : Int)) (hu : P.underlying t = some (.array len e)) (hsz : sizeB P e = some sz)
    (hv : partB P e vs (i * sz) = some v) (hi : i < len) (hd : Nat.blt d n = true) (h : WL P ro n w0 ops Q l ((d, v) :: r) ds m H) : WL P ro n w0 ops Q (⟨some d, .index t x y, ty, pos, after, none⟩ :: l) r ds m H :=
  .val hd (fun _ h => by cases h) (fun tmps w ho _ => by
    subst hz
    have h0 : (0 : Int) ≤ (i : Int) ∧ (i : Int) < (len : Int) := by omega
    have h1 := run_part (P := P) (xs := vs.toArray) hv w
    simp only [execOp, Instr.index, asIntOf, Sem.run_bind, Sem.run_pure, run_underlying hu, Result.andThen_ok, ho.ev hx, ho.ev hy, h0, and_self, if_true, Int.toNat_natCast, run_size hsz, h1]) h
end
end Go.Eng
namespace Go.Proofs.Ytdmdabjaboigcaa
open Go Go.Eng
set_option maxRecDepth 100000
set_option maxHeartbeats 4000000
set_option linter.all false
attribute [local irreducible] WL WC WQ QFun QLoop Does Q1 QRound QAssign Go.Addr.add
theorem sq_R26_1 {G : Prop} (h : G := by (repeat (first | (refine sp ?_; (repeat intro zzc)) | (refine iF 15 rfl ?_; refine w_callG Try.func15 ?_ (hs := wakes_any _ _ _)) | (refine iF 50 rfl ?_; refine w_callG Try.func50 ?_ (hs := cut_any _ _ (by omega) (by assumption) _ _ _)) | (refine iF 51 rfl ?_; refine w_callG Try.func51 ?_ (hs := refCut_any _ _ (by omega) (by assumption) _ _ _)) | (refine iF 49 rfl ?_; refine w_callG Try.func49 ?_ (hs := mend_any _ _ (by first | omega | (simp; omega)) (by first | omega | (simp; omega)) _ _ _)) | (refine iF 52 rfl ?_; refine w_callG Try.func52 ?_ (hs := refMend_any _ _ (by first | omega | (simp; omega)) (by first | omega | (simp; omega)) _ _ _)) | (refine iF 53 rfl ?_; refine w_callG Try.func53 ?_ (hs := reverse_any _ (by first | omega | (simp; omega)) _ _ _)) | (refine iF 54 rfl ?_; refine w_callG Try.func54 ?_ (hs := refReverse_any _ (by first | omega | (simp; omega)) _ _ _)))); exact WQ.q1 rfl) : G := h
theorem st_R26_1 {G G' : Prop} (next : G') (h : Bx G' → G := by intro zzn; (first | ((refine st ?_; (repeat intro zzc)); (try ((first | (refine iF 15 rfl ?_; refine w_callG Try.func15 ?_ (hs := wakes_any _ _ _)) | (refine iF 50 rfl ?_; refine w_callG Try.func50 ?_ (hs := cut_any _ _ (by omega) (by assumption) _ _ _)) | (refine iF 51 rfl ?_; refine w_callG Try.func51 ?_ (hs := refCut_any _ _ (by omega) (by assumption) _ _ _)) | (refine iF 49 rfl ?_; refine w_callG Try.func49 ?_ (hs := mend_any _ _ (by first | omega | (simp; omega)) (by first | omega | (simp; omega)) _ _ _)) | (refine iF 52 rfl ?_; refine w_callG Try.func52 ?_ (hs := refMend_any _ _ (by first | omega | (simp; omega)) (by first | omega | (simp; omega)) _ _ _)) | (refine iF 53 rfl ?_; refine w_callG Try.func53 ?_ (hs := reverse_any _ (by first | omega | (simp; omega)) _ _ _)) | (refine iF 54 rfl ?_; refine w_callG Try.func54 ?_ (hs := refReverse_any _ (by first | omega | (simp; omega)) _ _ _)) | ((refine iDraw ?_; (first | refine WC.drawAll rfl (by decide +kernel) ?_ | refine WC.draw 1 rfl (by decide +kernel) ?_ | refine WC.draw 2 rfl (by decide +kernel) ?_ | refine WC.draw 3 rfl (by decide +kernel) ?_ | refine WC.draw 4 rfl (by decide +kernel) ?_ | refine WC.draw 5 rfl (by decide +kernel) ?_ | refine WC.draw 6 rfl (by decide +kernel) ?_ | refine WC.draw 7 rfl (by decide +kernel) ?_ | refine WC.draw 8 rfl (by decide +kernel) ?_ | refine WC.draw 9 rfl (by decide +kernel) ?_ | refine WC.draw 10 rfl (by decide +kernel) ?_ | refine WC.draw 11 rfl (by decide +kernel) ?_ | refine WC.draw 12 rfl (by decide +kernel) ?_ | refine WC.draw 13 rfl (by decide +kernel) ?_ | refine WC.draw 14 rfl (by decide +kernel) ?_ | refine WC.draw 15 rfl (by decide +kernel) ?_ | refine WC.draw 16 rfl (by decide +kernel) ?_ | refine WC.draw 17 rfl (by decide +kernel) ?_ | refine WC.draw 18 rfl (by decide +kernel) ?_ | refine WC.draw 19 rfl (by decide +kernel) ?_ | refine WC.draw 20 rfl (by decide +kernel) ?_ | refine WC.draw 21 rfl (by decide +kernel) ?_ | refine WC.draw 22 rfl (by decide +kernel) ?_ | refine WC.draw 23 rfl (by decide +kernel) ?_ | refine WC.draw 24 rfl (by decide +kernel) ?_)); (repeat (refine WD.cons rfl (fun c h => by cases h) sq_R26_1 ?_)); refine WD.nil ?_)); (try (refine st ?_; (repeat intro zzc)))))) | ((first | (refine iF 15 rfl ?_; refine w_callG Try.func15 ?_ (hs := wakes_any _ _ _)) | (refine iF 50 rfl ?_; refine w_callG Try.func50 ?_ (hs := cut_any _ _ (by omega) (by assumption) _ _ _)) | (refine iF 51 rfl ?_; refine w_callG Try.func51 ?_ (hs := refCut_any _ _ (by omega) (by assumption) _ _ _)) | (refine iF 49 rfl ?_; refine w_callG Try.func49 ?_ (hs := mend_any _ _ (by first | omega | (simp; omega)) (by first | omega | (simp; omega)) _ _ _)) | (refine iF 52 rfl ?_; refine w_callG Try.func52 ?_ (hs := refMend_any _ _ (by first | omega | (simp; omega)) (by first | omega | (simp; omega)) _ _ _)) | (refine iF 53 rfl ?_; refine w_callG Try.func53 ?_ (hs := reverse_any _ (by first | omega | (simp; omega)) _ _ _)) | (refine iF 54 rfl ?_; refine w_callG Try.func54 ?_ (hs := refReverse_any _ (by first | omega | (simp; omega)) _ _ _)) | ((refine iDraw ?_; (first | refine WC.drawAll rfl (by decide +kernel) ?_ | refine WC.draw 1 rfl (by decide +kernel) ?_ | refine WC.draw 2 rfl (by decide +kernel) ?_ | refine WC.draw 3 rfl (by decide +kernel) ?_ | refine WC.draw 4 rfl (by decide +kernel) ?_ | refine WC.draw 5 rfl (by decide +kernel) ?_ | refine WC.draw 6 rfl (by decide +kernel) ?_ | refine WC.draw 7 rfl (by decide +kernel) ?_ | refine WC.draw 8 rfl (by decide +kernel) ?_ | refine WC.draw 9 rfl (by decide +kernel) ?_ | refine WC.draw 10 rfl (by decide +kernel) ?_ | refine WC.draw 11 rfl (by decide +kernel) ?_ | refine WC.draw 12 rfl (by decide +kernel) ?_ | refine WC.draw 13 rfl (by decide +kernel) ?_ | refine WC.draw 14 rfl (by decide +kernel) ?_ | refine WC.draw 15 rfl (by decide +kernel) ?_ | refine WC.draw 16 rfl (by decide +kernel) ?_ | refine WC.draw 17 rfl (by decide +kernel) ?_ | refine WC.draw 18 rfl (by decide +kernel) ?_ | refine WC.draw 19 rfl (by decide +kernel) ?_ | refine WC.draw 20 rfl (by decide +kernel) ?_ | refine WC.draw 21 rfl (by decide +kernel) ?_ | refine WC.draw 22 rfl (by decide +kernel) ?_ | refine WC.draw 23 rfl (by decide +kernel) ?_ | refine WC.draw 24 rfl (by decide +kernel) ?_)); (repeat (refine WD.cons rfl (fun c h => by cases h) sq_R26_1 ?_)); refine WD.nil ?_)); (try (refine st ?_; (repeat intro zzc))))); (repeat ((first | (refine iF 15 rfl ?_; refine w_callG Try.func15 ?_ (hs := wakes_any _ _ _)) | (refine iF 50 rfl ?_; refine w_callG Try.func50 ?_ (hs := cut_any _ _ (by omega) (by assumption) _ _ _)) | (refine iF 51 rfl ?_; refine w_callG Try.func51 ?_ (hs := refCut_any _ _ (by omega) (by assumption) _ _ _)) | (refine iF 49 rfl ?_; refine w_callG Try.func49 ?_ (hs := mend_any _ _ (by first | omega | (simp; omega)) (by first | omega | (simp; omega)) _ _ _)) | (refine iF 52 rfl ?_; refine w_callG Try.func52 ?_ (hs := refMend_any _ _ (by first | omega | (simp; omega)) (by first | omega | (simp; omega)) _ _ _)) | (refine iF 53 rfl ?_; refine w_callG Try.func53 ?_ (hs := reverse_any _ (by first | omega | (simp; omega)) _ _ _)) | (refine iF 54 rfl ?_; refine w_callG Try.func54 ?_ (hs := refReverse_any _ (by first | omega | (simp; omega)) _ _ _)) | ((refine iDraw ?_; (first | refine WC.drawAll rfl (by decide +kernel) ?_ | refine WC.draw 1 rfl (by decide +kernel) ?_ | refine WC.draw 2 rfl (by decide +kernel) ?_ | refine WC.draw 3 rfl (by decide +kernel) ?_ | refine WC.draw 4 rfl (by decide +kernel) ?_ | refine WC.draw 5 rfl (by decide +kernel) ?_ | refine WC.draw 6 rfl (by decide +kernel) ?_ | refine WC.draw 7 rfl (by decide +kernel) ?_ | refine WC.draw 8 rfl (by decide +kernel) ?_ | refine WC.draw 9 rfl (by decide +kernel) ?_ | refine WC.draw 10 rfl (by decide +kernel) ?_ | refine WC.draw 11 rfl (by decide +kernel) ?_ | refine WC.draw 12 rfl (by decide +kernel) ?_ | refine WC.draw 13 rfl (by decide +kernel) ?_ | refine WC.draw 14 rfl (by decide +kernel) ?_ | refine WC.draw 15 rfl (by decide +kernel) ?_ | refine WC.draw 16 rfl (by decide +kernel) ?_ | refine WC.draw 17 rfl (by decide +kernel) ?_ | refine WC.draw 18 rfl (by decide +kernel) ?_ | refine WC.draw 19 rfl (by decide +kernel) ?_ | refine WC.draw 20 rfl (by decide +kernel) ?_ | refine WC.draw 21 rfl (by decide +kernel) ?_ | refine WC.draw 22 rfl (by decide +kernel) ?_ | refine WC.draw 23 rfl (by decide +kernel) ?_ | refine WC.draw 24 rfl (by decide +kernel) ?_)); (repeat (refine WD.cons rfl (fun c h => by cases h) sq_R26_1 ?_)); refine WD.nil ?_)); (try (refine st ?_; (repeat intro zzc))))); (repeat revert zzc); exact zzn.out) : G := h ⟨next⟩
theorem runesCuts_any (l w : List UInt8) (n : Int) (hl : l.length ≤ 1048576) (hwl : w.length ≤ 1048576) (hn : -9223372036854775808 ≤ n ∧ n ≤ 9223372036854775807) (w0 : World) (m : Mem) (H : SHeap) :
    Does Try.prog 11 #[str l, str w, .int .i64 n] w0 m H (fun v m' _ => v = .bool true ∧ m.le m') := by
  refine Does.of_body (args := [str l, str w, .int .i64 n]) Try.func11 rfl Try.ntmps11 rfl ?_
  have h1 : 0 ≤ (n % 18446744073709551616) % ((l.length : Int) + 2) := Int.emod_nonneg _ (by omega)
  have h2 : (n % 18446744073709551616) % ((l.length : Int) + 2) < (l.length : Int) + 2 := Int.emod_lt_of_pos _ (by omega)
  generalize hq : (n % 18446744073709551616) % ((l.length : Int) + 2) = q at h1 h2
  obtain ⟨k3, hk3, hb3⟩ : ∃ k3, IntKind.i64.wrap (-n) = k3 ∧ (-9223372036854775808 ≤ k3 ∧ k3 ≤ 9223372036854775807) := ⟨_, rfl, by rw [IntKind.wrap_i64]; omega⟩
  have hb2 : -9223372036854775808 ≤ q ∧ q ≤ 9223372036854775807 := by omega
  (try (refine st_R26_1 ?_; intros))
  refine WL.neg rfl rfl ?_
  refine WL.rename 25 (u := .int .i64 k3) rfl (vi hk3) ?_
  refine WL.rename 23 (u := .int .i64 q) rfl (vi hq) ?_
  (try (refine st_R26_1 ?_; intros))
  refine WC.loopH [(27, .int .i64 ((0) : Int)), (26, .agg [.int .i64 n, .int .i64 q, .int .i64 k3].toArray), (0, str l), (1, str w)] ?_ ?_ (fun j r ds m' H' => ∃ i, j = 3 - i ∧ r = [(27, .int .i64 (i : Int)), (26, .agg [.int .i64 n, .int .i64 q, .int .i64 k3].toArray), (0, str l), (1, str w)] ∧ ds = [] ∧ m = m' ∧ H' = H ∧ (i ≤ 3)) (3 - (0)) ⟨0, rfl, rfl, rfl, rfl, rfl, by omega⟩ ?_
  · (repeat (first | exact Env.Sub.nil | refine Env.Sub.cons rfl ?_))
  · exact (fun w h => Pick.sat (by iterate 60 (try (first | exact Pick.all | (apply Pick.take; (· (repeat (first | exact Out.here | apply Out.there)))) | apply Pick.drop))) h)
  rintro j r ds m' H' ⟨i, rfl, rfl, rfl, rfl, rfl, hi⟩
  rcases (show i = 0 ∨ i = 1 ∨ i = 2 ∨ i = 3 by omega) with rfl | rfl | rfl | rfl
  · (try (refine st_R26_1 ?_; intros))
    refine WL.indexA (i := 0) (v := .int .i64 n) rfl rfl rfl rfl rfl rfl (by omega) rfl ?_
    (try (refine st_R26_1 ?_; intros))
    refine WQ.next (3 - (1)) ⟨1, rfl, rfl, rfl, rfl, rfl, ?_⟩ (by omega) (by (repeat (first | exact Env.Sub.nil | refine Env.Sub.cons rfl ?_))) (fun w h => Pick.sat (by iterate 60 (try (first | exact Pick.all | (apply Pick.take; (· (repeat (first | exact Out.here | apply Out.there)))) | apply Pick.drop))) h)
    omega
  · (try (refine st_R26_1 ?_; intros))
    refine WL.indexA (i := 1) (v := .int .i64 q) rfl rfl rfl rfl rfl rfl (by omega) rfl ?_
    (try (refine st_R26_1 ?_; intros))
    refine WQ.next (3 - (2)) ⟨2, rfl, rfl, rfl, rfl, rfl, ?_⟩ (by omega) (by (repeat (first | exact Env.Sub.nil | refine Env.Sub.cons rfl ?_))) (fun w h => Pick.sat (by iterate 60 (try (first | exact Pick.all | (apply Pick.take; (· (repeat (first | exact Out.here | apply Out.there)))) | apply Pick.drop))) h)
    omega
  · (try (refine st_R26_1 ?_; intros))
    refine WL.indexA (i := 2) (v := .int .i64 k3) rfl rfl rfl rfl rfl rfl (by omega) rfl ?_
    (try (refine st_R26_1 ?_; intros))
    refine WQ.next (3 - (3)) ⟨3, rfl, rfl, rfl, rfl, rfl, ?_⟩ (by omega) (by (repeat (first | exact Env.Sub.nil | refine Env.Sub.cons rfl ?_))) (fun w h => Pick.sat (by iterate 60 (try (first | exact Pick.all | (apply Pick.take; (· (repeat (first | exact Out.here | apply Out.there)))) | apply Pick.drop))) h)
    omega
  · by_cases g1 : 64 < w.length
    · by_cases g2 : 65536 < l.length
      · (try (refine st_R26_1 ?_; intros))
        (refine q_fin0 ?_)
        exact ⟨rfl, Mem.le.refl _⟩
      · (try (refine st_R26_1 ?_; intros))
        (refine q_fin0 ?_)
        exact ⟨rfl, Mem.le.refl _⟩
    · by_cases g2 : 65536 < l.length
      · (try (refine st_R26_1 ?_; intros))
        (refine q_fin0 ?_)
        exact ⟨rfl, Mem.le.refl _⟩
      · (try (refine st_R26_1 ?_; intros))
        (refine q_fin0 ?_)
        exact ⟨rfl, Mem.le.refl _⟩
end Go.Proofs.Ytdmdabjaboigcaa
