/-
  The walks of runes.Compare, Common, Index and of the reference's, and of the law RunesHolds. No condition.
-/
import Derived.Test.YtdmdabjaboigcaaR18
import Derived.Test.YtdmdabjaboigcaaRT7
namespace Go.Proofs.Ytdmdabjaboigcaa
open Go Go.Eng
set_option maxRecDepth 100000
set_option maxHeartbeats 4000000
set_option linter.all false
attribute [local irreducible] WL WC WQ QFun QLoop Does Q1 QRound QAssign Go.Addr.add
theorem eq_pc (p q : Pc) : eqB Try.prog 8 24 (.agg p.cs.toArray) (.agg q.cs.toArray) = some (dcd (p = q)) := by
  refine (eq_piece _ _ _ _ _ _ _ _).trans ?_
  by_cases h : p = q
  · subst h; rw [dcd_true rfl, dcd_true ⟨rfl, rfl, rfl, rfl⟩]
  · rw [dcd_false h, dcd_false]
    rintro ⟨h1, h2, h3, h4⟩
    apply h
    obtain ⟨a, b, c, d⟩ := p
    obtain ⟨a', b', c', d'⟩ := q
    simp only at h1 h2 h3 h4
    simp only [Pc.mk.injEq]
    exact ⟨by omega, by omega, by omega, h4⟩
attribute [local irreducible] readP pieces dl wt
theorem sq_R19_1 {G : Prop} (h : G := by (repeat (first | (refine sp ?_; (repeat intro zzc)) | (refine iB_eql rfl ?_; refine w_eqlV ?_ (he := eq_pc (readP _ _) (readP _ _))) | (refine iB_neq rfl ?_; refine w_neqV ?_ (he := eq_pc (readP _ _) (readP _ _))) | (refine WL.pickIsT rfl (by assumption) rfl rfl ?_) | (refine WL.pickIsF rfl (by assumption) rfl rfl ?_) | (refine iF 67 rfl ?_; refine w_callG Try.func67 ?_ (hs := read_z _ (by (first | with_reducible exact natz _ | with_reducible exact natz0 | with_reducible exact natz1 | with_reducible exact natz2 | with_reducible exact natz3 | with_reducible exact natz4 | with_reducible exact natz8 | (apply natz_add; (· first | with_reducible exact natz _ | with_reducible exact natz0 | with_reducible exact natz1 | with_reducible exact natz2 | with_reducible exact natz3 | with_reducible exact natz4 | with_reducible exact natz8); (· first | with_reducible exact natz _ | with_reducible exact natz0 | with_reducible exact natz1 | with_reducible exact natz2 | with_reducible exact natz3 | with_reducible exact natz4 | with_reducible exact natz8)) | (apply natz_sub; (· first | with_reducible exact natz _ | with_reducible exact natz0 | with_reducible exact natz1 | with_reducible exact natz2 | with_reducible exact natz3 | with_reducible exact natz4 | with_reducible exact natz8); (· first | with_reducible exact natz _ | with_reducible exact natz0 | with_reducible exact natz1 | with_reducible exact natz2 | with_reducible exact natz3 | with_reducible exact natz4 | with_reducible exact natz8); (· omega)) | exact (Int.toNat_of_nonneg (by omega)).symm)) (by omega) (by omega) _ _ _)))); exact WQ.q1 rfl) : G := h
theorem st_R19_1 {G G' : Prop} (next : G') (h : Bx G' → G := by intro zzn; (first | ((refine st ?_; (repeat intro zzc)); (try ((first | (refine iB_eql rfl ?_; refine w_eqlV ?_ (he := eq_pc (readP _ _) (readP _ _))) | (refine iB_neq rfl ?_; refine w_neqV ?_ (he := eq_pc (readP _ _) (readP _ _))) | (refine WL.pickIsT rfl (by assumption) rfl rfl ?_) | (refine WL.pickIsF rfl (by assumption) rfl rfl ?_) | (refine iF 67 rfl ?_; refine w_callG Try.func67 ?_ (hs := read_z _ (by (first | with_reducible exact natz _ | with_reducible exact natz0 | with_reducible exact natz1 | with_reducible exact natz2 | with_reducible exact natz3 | with_reducible exact natz4 | with_reducible exact natz8 | (apply natz_add; (· first | with_reducible exact natz _ | with_reducible exact natz0 | with_reducible exact natz1 | with_reducible exact natz2 | with_reducible exact natz3 | with_reducible exact natz4 | with_reducible exact natz8); (· first | with_reducible exact natz _ | with_reducible exact natz0 | with_reducible exact natz1 | with_reducible exact natz2 | with_reducible exact natz3 | with_reducible exact natz4 | with_reducible exact natz8)) | (apply natz_sub; (· first | with_reducible exact natz _ | with_reducible exact natz0 | with_reducible exact natz1 | with_reducible exact natz2 | with_reducible exact natz3 | with_reducible exact natz4 | with_reducible exact natz8); (· first | with_reducible exact natz _ | with_reducible exact natz0 | with_reducible exact natz1 | with_reducible exact natz2 | with_reducible exact natz3 | with_reducible exact natz4 | with_reducible exact natz8); (· omega)) | exact (Int.toNat_of_nonneg (by omega)).symm)) (by omega) (by omega) _ _ _)) | ((refine iDraw ?_; (first | refine WC.drawAll rfl (by decide +kernel) ?_ | refine WC.draw 1 rfl (by decide +kernel) ?_ | refine WC.draw 2 rfl (by decide +kernel) ?_ | refine WC.draw 3 rfl (by decide +kernel) ?_ | refine WC.draw 4 rfl (by decide +kernel) ?_ | refine WC.draw 5 rfl (by decide +kernel) ?_ | refine WC.draw 6 rfl (by decide +kernel) ?_ | refine WC.draw 7 rfl (by decide +kernel) ?_ | refine WC.draw 8 rfl (by decide +kernel) ?_ | refine WC.draw 9 rfl (by decide +kernel) ?_ | refine WC.draw 10 rfl (by decide +kernel) ?_ | refine WC.draw 11 rfl (by decide +kernel) ?_ | refine WC.draw 12 rfl (by decide +kernel) ?_ | refine WC.draw 13 rfl (by decide +kernel) ?_ | refine WC.draw 14 rfl (by decide +kernel) ?_ | refine WC.draw 15 rfl (by decide +kernel) ?_ | refine WC.draw 16 rfl (by decide +kernel) ?_ | refine WC.draw 17 rfl (by decide +kernel) ?_ | refine WC.draw 18 rfl (by decide +kernel) ?_ | refine WC.draw 19 rfl (by decide +kernel) ?_ | refine WC.draw 20 rfl (by decide +kernel) ?_ | refine WC.draw 21 rfl (by decide +kernel) ?_ | refine WC.draw 22 rfl (by decide +kernel) ?_ | refine WC.draw 23 rfl (by decide +kernel) ?_ | refine WC.draw 24 rfl (by decide +kernel) ?_)); (repeat (refine WD.cons rfl (fun c h => by cases h) sq_R19_1 ?_)); refine WD.nil ?_)); (try (refine st ?_; (repeat intro zzc)))))) | ((first | (refine iB_eql rfl ?_; refine w_eqlV ?_ (he := eq_pc (readP _ _) (readP _ _))) | (refine iB_neq rfl ?_; refine w_neqV ?_ (he := eq_pc (readP _ _) (readP _ _))) | (refine WL.pickIsT rfl (by assumption) rfl rfl ?_) | (refine WL.pickIsF rfl (by assumption) rfl rfl ?_) | (refine iF 67 rfl ?_; refine w_callG Try.func67 ?_ (hs := read_z _ (by (first | with_reducible exact natz _ | with_reducible exact natz0 | with_reducible exact natz1 | with_reducible exact natz2 | with_reducible exact natz3 | with_reducible exact natz4 | with_reducible exact natz8 | (apply natz_add; (· first | with_reducible exact natz _ | with_reducible exact natz0 | with_reducible exact natz1 | with_reducible exact natz2 | with_reducible exact natz3 | with_reducible exact natz4 | with_reducible exact natz8); (· first | with_reducible exact natz _ | with_reducible exact natz0 | with_reducible exact natz1 | with_reducible exact natz2 | with_reducible exact natz3 | with_reducible exact natz4 | with_reducible exact natz8)) | (apply natz_sub; (· first | with_reducible exact natz _ | with_reducible exact natz0 | with_reducible exact natz1 | with_reducible exact natz2 | with_reducible exact natz3 | with_reducible exact natz4 | with_reducible exact natz8); (· first | with_reducible exact natz _ | with_reducible exact natz0 | with_reducible exact natz1 | with_reducible exact natz2 | with_reducible exact natz3 | with_reducible exact natz4 | with_reducible exact natz8); (· omega)) | exact (Int.toNat_of_nonneg (by omega)).symm)) (by omega) (by omega) _ _ _)) | ((refine iDraw ?_; (first | refine WC.drawAll rfl (by decide +kernel) ?_ | refine WC.draw 1 rfl (by decide +kernel) ?_ | refine WC.draw 2 rfl (by decide +kernel) ?_ | refine WC.draw 3 rfl (by decide +kernel) ?_ | refine WC.draw 4 rfl (by decide +kernel) ?_ | refine WC.draw 5 rfl (by decide +kernel) ?_ | refine WC.draw 6 rfl (by decide +kernel) ?_ | refine WC.draw 7 rfl (by decide +kernel) ?_ | refine WC.draw 8 rfl (by decide +kernel) ?_ | refine WC.draw 9 rfl (by decide +kernel) ?_ | refine WC.draw 10 rfl (by decide +kernel) ?_ | refine WC.draw 11 rfl (by decide +kernel) ?_ | refine WC.draw 12 rfl (by decide +kernel) ?_ | refine WC.draw 13 rfl (by decide +kernel) ?_ | refine WC.draw 14 rfl (by decide +kernel) ?_ | refine WC.draw 15 rfl (by decide +kernel) ?_ | refine WC.draw 16 rfl (by decide +kernel) ?_ | refine WC.draw 17 rfl (by decide +kernel) ?_ | refine WC.draw 18 rfl (by decide +kernel) ?_ | refine WC.draw 19 rfl (by decide +kernel) ?_ | refine WC.draw 20 rfl (by decide +kernel) ?_ | refine WC.draw 21 rfl (by decide +kernel) ?_ | refine WC.draw 22 rfl (by decide +kernel) ?_ | refine WC.draw 23 rfl (by decide +kernel) ?_ | refine WC.draw 24 rfl (by decide +kernel) ?_)); (repeat (refine WD.cons rfl (fun c h => by cases h) sq_R19_1 ?_)); refine WD.nil ?_)); (try (refine st ?_; (repeat intro zzc))))); (repeat ((first | (refine iB_eql rfl ?_; refine w_eqlV ?_ (he := eq_pc (readP _ _) (readP _ _))) | (refine iB_neq rfl ?_; refine w_neqV ?_ (he := eq_pc (readP _ _) (readP _ _))) | (refine WL.pickIsT rfl (by assumption) rfl rfl ?_) | (refine WL.pickIsF rfl (by assumption) rfl rfl ?_) | (refine iF 67 rfl ?_; refine w_callG Try.func67 ?_ (hs := read_z _ (by (first | with_reducible exact natz _ | with_reducible exact natz0 | with_reducible exact natz1 | with_reducible exact natz2 | with_reducible exact natz3 | with_reducible exact natz4 | with_reducible exact natz8 | (apply natz_add; (· first | with_reducible exact natz _ | with_reducible exact natz0 | with_reducible exact natz1 | with_reducible exact natz2 | with_reducible exact natz3 | with_reducible exact natz4 | with_reducible exact natz8); (· first | with_reducible exact natz _ | with_reducible exact natz0 | with_reducible exact natz1 | with_reducible exact natz2 | with_reducible exact natz3 | with_reducible exact natz4 | with_reducible exact natz8)) | (apply natz_sub; (· first | with_reducible exact natz _ | with_reducible exact natz0 | with_reducible exact natz1 | with_reducible exact natz2 | with_reducible exact natz3 | with_reducible exact natz4 | with_reducible exact natz8); (· first | with_reducible exact natz _ | with_reducible exact natz0 | with_reducible exact natz1 | with_reducible exact natz2 | with_reducible exact natz3 | with_reducible exact natz4 | with_reducible exact natz8); (· omega)) | exact (Int.toNat_of_nonneg (by omega)).symm)) (by omega) (by omega) _ _ _)) | ((refine iDraw ?_; (first | refine WC.drawAll rfl (by decide +kernel) ?_ | refine WC.draw 1 rfl (by decide +kernel) ?_ | refine WC.draw 2 rfl (by decide +kernel) ?_ | refine WC.draw 3 rfl (by decide +kernel) ?_ | refine WC.draw 4 rfl (by decide +kernel) ?_ | refine WC.draw 5 rfl (by decide +kernel) ?_ | refine WC.draw 6 rfl (by decide +kernel) ?_ | refine WC.draw 7 rfl (by decide +kernel) ?_ | refine WC.draw 8 rfl (by decide +kernel) ?_ | refine WC.draw 9 rfl (by decide +kernel) ?_ | refine WC.draw 10 rfl (by decide +kernel) ?_ | refine WC.draw 11 rfl (by decide +kernel) ?_ | refine WC.draw 12 rfl (by decide +kernel) ?_ | refine WC.draw 13 rfl (by decide +kernel) ?_ | refine WC.draw 14 rfl (by decide +kernel) ?_ | refine WC.draw 15 rfl (by decide +kernel) ?_ | refine WC.draw 16 rfl (by decide +kernel) ?_ | refine WC.draw 17 rfl (by decide +kernel) ?_ | refine WC.draw 18 rfl (by decide +kernel) ?_ | refine WC.draw 19 rfl (by decide +kernel) ?_ | refine WC.draw 20 rfl (by decide +kernel) ?_ | refine WC.draw 21 rfl (by decide +kernel) ?_ | refine WC.draw 22 rfl (by decide +kernel) ?_ | refine WC.draw 23 rfl (by decide +kernel) ?_ | refine WC.draw 24 rfl (by decide +kernel) ?_)); (repeat (refine WD.cons rfl (fun c h => by cases h) sq_R19_1 ?_)); refine WD.nil ?_)); (try (refine st ?_; (repeat intro zzc))))); (repeat revert zzc); exact zzn.out) : G := h ⟨next⟩
theorem shared_any (a b : List UInt8) (ha : a.length ≤ 1000000000) (hb : b.length ≤ 1000000000) (w0 : World) (m : Mem) (H : SHeap) :
    Does Try.prog 76 #[str a, str b] w0 m H (fun v m' H' => ∃ n k : Nat, v = .tuple #[.int .i64 (n : Int), .int .i64 (k : Int)] ∧ m' = m ∧ H' = H ∧ Sh a b n k ∧ (k = a.length ∨ k = b.length ∨ wt a (readP a k) ≠ wt b (readP b k))) := by
  refine Does.of_body (args := [str a, str b]) Try.func76 rfl Try.ntmps76 rfl ?_
  (try (refine st_R19_1 ?_; intros))
  refine WC.loopH [(7, .int .i64 ((0) : Int)), (6, .int .i64 ((0) : Int)), (0, str a), (1, str b)] ?_ ?_ (fun j r ds m' H' => ∃ (k : Nat) (n : Nat), j = a.length - k ∧ r = [(7, .int .i64 (k : Int)), (6, .int .i64 (n : Int)), (0, str a), (1, str b)] ∧ ds = [] ∧ m = m' ∧ H' = H ∧ (n ≤ k) ∧ (Sh a b n k)) (a.length - (0)) ⟨0, 0, rfl, rfl, rfl, rfl, rfl, by omega, Sh.start a b⟩ ?_
  · (repeat (first | exact Env.Sub.nil | refine Env.Sub.cons rfl ?_))
  · exact (fun w h => Pick.sat (by iterate 60 (try (first | exact Pick.all | (apply Pick.take; (· (repeat (first | exact Out.here | apply Out.there)))) | apply Pick.drop))) h)
  rintro j r ds m' H' ⟨k, n, rfl, rfl, rfl, rfl, rfl, hn, hS⟩
  have hka : k ≤ a.length := by obtain ⟨_, _, _, _, _, _, _, h, _⟩ := hS; exact h
  have hkb : k ≤ b.length := by obtain ⟨_, _, _, _, _, _, _, _, h⟩ := hS; exact h
  by_cases h1 : k < a.length
  · by_cases h2 : k < b.length
    · have w1 := readP_w h1
      have w2 := readP_w h2
      have hws := wt_same h1 h2
      by_cases hw : wt a (readP a k) = wt b (readP b k)
      · obtain ⟨he, hg⟩ := hws.1 hw
        have hSn := hS.next h1 h2 hw
        cases hbr : (readP a k).b with
        | true =>
          have hg' := hg hbr
          (try (refine st_R19_1 ?_; intros))
          refine WQ.next (a.length - (k + (readP a k).w)) ⟨k + (readP a k).w, n + 1, rfl, rfl, rfl, rfl, rfl, ?_, ?_⟩ (by omega) (by (repeat (first | exact Env.Sub.nil | refine Env.Sub.cons rfl ?_))) (fun w h => Pick.sat (by iterate 60 (try (first | exact Pick.all | (apply Pick.take; (· (repeat (first | exact Out.here | apply Out.there)))) | apply Pick.drop))) h)
          · omega
          · exact hSn
        | false =>
          (try (refine st_R19_1 ?_; intros))
          refine WQ.next (a.length - (k + (readP a k).w)) ⟨k + (readP a k).w, n + 1, rfl, rfl, rfl, rfl, rfl, ?_, ?_⟩ (by omega) (by (repeat (first | exact Env.Sub.nil | refine Env.Sub.cons rfl ?_))) (fun w h => Pick.sat (by iterate 60 (try (first | exact Pick.all | (apply Pick.take; (· (repeat (first | exact Out.here | apply Out.there)))) | apply Pick.drop))) h)
          · omega
          · exact hSn
      · by_cases he : readP a k = readP b k
        · have hbr : (readP a k).b = true := by
            cases hb : (readP a k).b with
            | true => rfl
            | false => exact absurd (hws.2 ⟨he, fun h => by rw [hb] at h; cases h⟩) hw
          have hg : ¬ gb a k = gb b k := fun h => hw (hws.2 ⟨he, fun _ => h⟩)
          (try (refine st_R19_1 ?_; intros))
          (refine q_fin0 ?_)
          exact ⟨n, k, rfl, rfl, rfl, hS, .inr (.inr hw)⟩
        · (try (refine st_R19_1 ?_; intros))
          (refine q_fin0 ?_)
          exact ⟨n, k, rfl, rfl, rfl, hS, .inr (.inr hw)⟩
    · (try (refine st_R19_1 ?_; intros))
      (refine q_fin0 ?_)
      exact ⟨n, k, rfl, rfl, rfl, hS, .inr (.inl (by omega))⟩
  · (try (refine st_R19_1 ?_; intros))
    (refine q_fin0 ?_)
    exact ⟨n, k, rfl, rfl, rfl, hS, .inl (by omega)⟩
end Go.Proofs.Ytdmdabjaboigcaa
