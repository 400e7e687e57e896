/-
  Parts of a walk, joined: ER2 ET8 ET9 ET10 ET11 ET12 ET13 ET14 ET15 RT9 RT16 RT17 ET16 E31. No condition.
-/
import Derived.Test.YtelgegefmjlimaaP7
import Derived.Test.YtelgegefmjlimaaP3
import Derived.Test.YtelgegefmjlimaaP4
import Derived.Test.YtelgegefmjlimaaP6
/-
  The walks of runes.last, Before, shared, Common and Cut, for a seat that does not reach the rest of runes. No condition.
-/
namespace Go.Proofs.Ytelgegefmjlimaa
open Go Go.Eng
set_option maxRecDepth 100000
set_option maxHeartbeats 4000000
set_option linter.all false
attribute [local irreducible] WL WC WQ QFun QLoop Does Q1 QRound QAssign Go.Addr.add
theorem from_length (l : List UInt8) : ∀ d k, l.length - k ≤ d → (from_ l k).length ≤ l.length - k
  | 0, k, h => by rw [from_nil (by omega)]; simp
  | d + 1, k, h => by
    by_cases hk : k < l.length
    · have hw := readP_w hk
      rw [from_cons hk, List.length_cons]
      have := from_length l d (k + (readP l k).w) (by omega)
      omega
    · rw [from_nil hk]; simp
theorem pieces_length (l : List UInt8) : (pieces l).length ≤ l.length := from_length l l.length 0 (by omega)
theorem eq_piece (a b c a' b' c' : Int) (d d' : Bool) : eqB Try.prog 8 144 (.agg #[.int .i64 a, .int .i64 b, .int .i32 c, .bool d]) (.agg #[.int .i64 a', .int .i64 b', .int .i32 c', .bool d']) = some (dcd (a = a' ∧ b = b' ∧ c = c' ∧ d = d')) := by
  have h : eqB Try.prog 8 144 (.agg #[.int .i64 a, .int .i64 b, .int .i32 c, .bool d]) (.agg #[.int .i64 a', .int .i64 b', .int .i32 c', .bool d']) = some (a == a' && (b == b' && (c == c' && (d == d' && true)))) := by kernel_rfl
  rw [h]
  by_cases hp : a = a' ∧ b = b' ∧ c = c' ∧ d = d'
  · rw [dcd_true hp]; obtain ⟨rfl, rfl, rfl, rfl⟩ := hp; simp
  · rw [dcd_false hp]
    simp only [Bool.and_true, Option.some.injEq, Bool.and_eq_false_iff, beq_eq_false_iff_ne]
    by_cases h1 : a = a' <;> by_cases h2 : b = b' <;> by_cases h3 : c = c' <;> by_cases h4 : d = d' <;> simp_all
theorem eq_pc (p q : Pc) : eqB Try.prog 8 144 (.agg p.cs.toArray) (.agg q.cs.toArray) = some (dcd (p = q)) := by
  refine (eq_piece _ _ _ _ _ _ _ _).trans ?_
  by_cases h : p = q
  · subst h; rw [dcd_true rfl, dcd_true ⟨rfl, rfl, rfl, rfl⟩]
  · rw [dcd_false h, dcd_false]
    rintro ⟨h1, h2, h3, h4⟩
    apply h
    obtain ⟨a, b, c, d⟩ := p
    obtain ⟨a', b', c', d'⟩ := q
    simp only at h1 h2 h3 h4
    simp only [Pc.mk.injEq]
    exact ⟨by omega, by omega, by omega, h4⟩
attribute [local irreducible] readP pieces dl wt
theorem sq_ER2_1 {G : Prop} (h : G := by (repeat (first | (refine sp ?_; (repeat intro zzc)) | (refine iB_eql rfl ?_; refine w_eqlV ?_ (he := eq_pc (readP _ _) (readP _ _))) | (refine iB_neq rfl ?_; refine w_neqV ?_ (he := eq_pc (readP _ _) (readP _ _))) | (refine WL.pickIsT rfl (by assumption) rfl rfl ?_) | (refine WL.pickIsF rfl (by assumption) rfl rfl ?_) | (refine iF 78 rfl ?_; refine w_callG Try.func78 ?_ (hs := read_z _ (by (first | with_reducible exact natz _ | with_reducible exact natz0 | with_reducible exact natz1 | with_reducible exact natz2 | with_reducible exact natz3 | with_reducible exact natz4 | with_reducible exact natz8 | (apply natz_add; (· first | with_reducible exact natz _ | with_reducible exact natz0 | with_reducible exact natz1 | with_reducible exact natz2 | with_reducible exact natz3 | with_reducible exact natz4 | with_reducible exact natz8); (· first | with_reducible exact natz _ | with_reducible exact natz0 | with_reducible exact natz1 | with_reducible exact natz2 | with_reducible exact natz3 | with_reducible exact natz4 | with_reducible exact natz8)) | (apply natz_sub; (· first | with_reducible exact natz _ | with_reducible exact natz0 | with_reducible exact natz1 | with_reducible exact natz2 | with_reducible exact natz3 | with_reducible exact natz4 | with_reducible exact natz8); (· first | with_reducible exact natz _ | with_reducible exact natz0 | with_reducible exact natz1 | with_reducible exact natz2 | with_reducible exact natz3 | with_reducible exact natz4 | with_reducible exact natz8); (· omega)) | exact (Int.toNat_of_nonneg (by omega)).symm)) (by omega) (by omega) _ _ _)))); exact WQ.q1 rfl) : G := h
theorem st_ER2_1 {G G' : Prop} (next : G') (h : Bx G' → G := by intro zzn; (first | ((refine st ?_; (repeat intro zzc)); (try ((first | (refine iB_eql rfl ?_; refine w_eqlV ?_ (he := eq_pc (readP _ _) (readP _ _))) | (refine iB_neq rfl ?_; refine w_neqV ?_ (he := eq_pc (readP _ _) (readP _ _))) | (refine WL.pickIsT rfl (by assumption) rfl rfl ?_) | (refine WL.pickIsF rfl (by assumption) rfl rfl ?_) | (refine iF 78 rfl ?_; refine w_callG Try.func78 ?_ (hs := read_z _ (by (first | with_reducible exact natz _ | with_reducible exact natz0 | with_reducible exact natz1 | with_reducible exact natz2 | with_reducible exact natz3 | with_reducible exact natz4 | with_reducible exact natz8 | (apply natz_add; (· first | with_reducible exact natz _ | with_reducible exact natz0 | with_reducible exact natz1 | with_reducible exact natz2 | with_reducible exact natz3 | with_reducible exact natz4 | with_reducible exact natz8); (· first | with_reducible exact natz _ | with_reducible exact natz0 | with_reducible exact natz1 | with_reducible exact natz2 | with_reducible exact natz3 | with_reducible exact natz4 | with_reducible exact natz8)) | (apply natz_sub; (· first | with_reducible exact natz _ | with_reducible exact natz0 | with_reducible exact natz1 | with_reducible exact natz2 | with_reducible exact natz3 | with_reducible exact natz4 | with_reducible exact natz8); (· first | with_reducible exact natz _ | with_reducible exact natz0 | with_reducible exact natz1 | with_reducible exact natz2 | with_reducible exact natz3 | with_reducible exact natz4 | with_reducible exact natz8); (· omega)) | exact (Int.toNat_of_nonneg (by omega)).symm)) (by omega) (by omega) _ _ _)) | ((refine iDraw ?_; (first | refine WC.drawAll rfl (by decide +kernel) ?_ | refine WC.draw 1 rfl (by decide +kernel) ?_ | refine WC.draw 2 rfl (by decide +kernel) ?_ | refine WC.draw 3 rfl (by decide +kernel) ?_ | refine WC.draw 4 rfl (by decide +kernel) ?_ | refine WC.draw 5 rfl (by decide +kernel) ?_ | refine WC.draw 6 rfl (by decide +kernel) ?_ | refine WC.draw 7 rfl (by decide +kernel) ?_ | refine WC.draw 8 rfl (by decide +kernel) ?_ | refine WC.draw 9 rfl (by decide +kernel) ?_ | refine WC.draw 10 rfl (by decide +kernel) ?_ | refine WC.draw 11 rfl (by decide +kernel) ?_ | refine WC.draw 12 rfl (by decide +kernel) ?_ | refine WC.draw 13 rfl (by decide +kernel) ?_ | refine WC.draw 14 rfl (by decide +kernel) ?_ | refine WC.draw 15 rfl (by decide +kernel) ?_ | refine WC.draw 16 rfl (by decide +kernel) ?_ | refine WC.draw 17 rfl (by decide +kernel) ?_ | refine WC.draw 18 rfl (by decide +kernel) ?_ | refine WC.draw 19 rfl (by decide +kernel) ?_ | refine WC.draw 20 rfl (by decide +kernel) ?_ | refine WC.draw 21 rfl (by decide +kernel) ?_ | refine WC.draw 22 rfl (by decide +kernel) ?_ | refine WC.draw 23 rfl (by decide +kernel) ?_ | refine WC.draw 24 rfl (by decide +kernel) ?_)); (repeat (refine WD.cons rfl (fun c h => by cases h) sq_ER2_1 ?_)); refine WD.nil ?_)); (try (refine st ?_; (repeat intro zzc)))))) | ((first | (refine iB_eql rfl ?_; refine w_eqlV ?_ (he := eq_pc (readP _ _) (readP _ _))) | (refine iB_neq rfl ?_; refine w_neqV ?_ (he := eq_pc (readP _ _) (readP _ _))) | (refine WL.pickIsT rfl (by assumption) rfl rfl ?_) | (refine WL.pickIsF rfl (by assumption) rfl rfl ?_) | (refine iF 78 rfl ?_; refine w_callG Try.func78 ?_ (hs := read_z _ (by (first | with_reducible exact natz _ | with_reducible exact natz0 | with_reducible exact natz1 | with_reducible exact natz2 | with_reducible exact natz3 | with_reducible exact natz4 | with_reducible exact natz8 | (apply natz_add; (· first | with_reducible exact natz _ | with_reducible exact natz0 | with_reducible exact natz1 | with_reducible exact natz2 | with_reducible exact natz3 | with_reducible exact natz4 | with_reducible exact natz8); (· first | with_reducible exact natz _ | with_reducible exact natz0 | with_reducible exact natz1 | with_reducible exact natz2 | with_reducible exact natz3 | with_reducible exact natz4 | with_reducible exact natz8)) | (apply natz_sub; (· first | with_reducible exact natz _ | with_reducible exact natz0 | with_reducible exact natz1 | with_reducible exact natz2 | with_reducible exact natz3 | with_reducible exact natz4 | with_reducible exact natz8); (· first | with_reducible exact natz _ | with_reducible exact natz0 | with_reducible exact natz1 | with_reducible exact natz2 | with_reducible exact natz3 | with_reducible exact natz4 | with_reducible exact natz8); (· omega)) | exact (Int.toNat_of_nonneg (by omega)).symm)) (by omega) (by omega) _ _ _)) | ((refine iDraw ?_; (first | refine WC.drawAll rfl (by decide +kernel) ?_ | refine WC.draw 1 rfl (by decide +kernel) ?_ | refine WC.draw 2 rfl (by decide +kernel) ?_ | refine WC.draw 3 rfl (by decide +kernel) ?_ | refine WC.draw 4 rfl (by decide +kernel) ?_ | refine WC.draw 5 rfl (by decide +kernel) ?_ | refine WC.draw 6 rfl (by decide +kernel) ?_ | refine WC.draw 7 rfl (by decide +kernel) ?_ | refine WC.draw 8 rfl (by decide +kernel) ?_ | refine WC.draw 9 rfl (by decide +kernel) ?_ | refine WC.draw 10 rfl (by decide +kernel) ?_ | refine WC.draw 11 rfl (by decide +kernel) ?_ | refine WC.draw 12 rfl (by decide +kernel) ?_ | refine WC.draw 13 rfl (by decide +kernel) ?_ | refine WC.draw 14 rfl (by decide +kernel) ?_ | refine WC.draw 15 rfl (by decide +kernel) ?_ | refine WC.draw 16 rfl (by decide +kernel) ?_ | refine WC.draw 17 rfl (by decide +kernel) ?_ | refine WC.draw 18 rfl (by decide +kernel) ?_ | refine WC.draw 19 rfl (by decide +kernel) ?_ | refine WC.draw 20 rfl (by decide +kernel) ?_ | refine WC.draw 21 rfl (by decide +kernel) ?_ | refine WC.draw 22 rfl (by decide +kernel) ?_ | refine WC.draw 23 rfl (by decide +kernel) ?_ | refine WC.draw 24 rfl (by decide +kernel) ?_)); (repeat (refine WD.cons rfl (fun c h => by cases h) sq_ER2_1 ?_)); refine WD.nil ?_)); (try (refine st ?_; (repeat intro zzc))))); (repeat ((first | (refine iB_eql rfl ?_; refine w_eqlV ?_ (he := eq_pc (readP _ _) (readP _ _))) | (refine iB_neq rfl ?_; refine w_neqV ?_ (he := eq_pc (readP _ _) (readP _ _))) | (refine WL.pickIsT rfl (by assumption) rfl rfl ?_) | (refine WL.pickIsF rfl (by assumption) rfl rfl ?_) | (refine iF 78 rfl ?_; refine w_callG Try.func78 ?_ (hs := read_z _ (by (first | with_reducible exact natz _ | with_reducible exact natz0 | with_reducible exact natz1 | with_reducible exact natz2 | with_reducible exact natz3 | with_reducible exact natz4 | with_reducible exact natz8 | (apply natz_add; (· first | with_reducible exact natz _ | with_reducible exact natz0 | with_reducible exact natz1 | with_reducible exact natz2 | with_reducible exact natz3 | with_reducible exact natz4 | with_reducible exact natz8); (· first | with_reducible exact natz _ | with_reducible exact natz0 | with_reducible exact natz1 | with_reducible exact natz2 | with_reducible exact natz3 | with_reducible exact natz4 | with_reducible exact natz8)) | (apply natz_sub; (· first | with_reducible exact natz _ | with_reducible exact natz0 | with_reducible exact natz1 | with_reducible exact natz2 | with_reducible exact natz3 | with_reducible exact natz4 | with_reducible exact natz8); (· first | with_reducible exact natz _ | with_reducible exact natz0 | with_reducible exact natz1 | with_reducible exact natz2 | with_reducible exact natz3 | with_reducible exact natz4 | with_reducible exact natz8); (· omega)) | exact (Int.toNat_of_nonneg (by omega)).symm)) (by omega) (by omega) _ _ _)) | ((refine iDraw ?_; (first | refine WC.drawAll rfl (by decide +kernel) ?_ | refine WC.draw 1 rfl (by decide +kernel) ?_ | refine WC.draw 2 rfl (by decide +kernel) ?_ | refine WC.draw 3 rfl (by decide +kernel) ?_ | refine WC.draw 4 rfl (by decide +kernel) ?_ | refine WC.draw 5 rfl (by decide +kernel) ?_ | refine WC.draw 6 rfl (by decide +kernel) ?_ | refine WC.draw 7 rfl (by decide +kernel) ?_ | refine WC.draw 8 rfl (by decide +kernel) ?_ | refine WC.draw 9 rfl (by decide +kernel) ?_ | refine WC.draw 10 rfl (by decide +kernel) ?_ | refine WC.draw 11 rfl (by decide +kernel) ?_ | refine WC.draw 12 rfl (by decide +kernel) ?_ | refine WC.draw 13 rfl (by decide +kernel) ?_ | refine WC.draw 14 rfl (by decide +kernel) ?_ | refine WC.draw 15 rfl (by decide +kernel) ?_ | refine WC.draw 16 rfl (by decide +kernel) ?_ | refine WC.draw 17 rfl (by decide +kernel) ?_ | refine WC.draw 18 rfl (by decide +kernel) ?_ | refine WC.draw 19 rfl (by decide +kernel) ?_ | refine WC.draw 20 rfl (by decide +kernel) ?_ | refine WC.draw 21 rfl (by decide +kernel) ?_ | refine WC.draw 22 rfl (by decide +kernel) ?_ | refine WC.draw 23 rfl (by decide +kernel) ?_ | refine WC.draw 24 rfl (by decide +kernel) ?_)); (repeat (refine WD.cons rfl (fun c h => by cases h) sq_ER2_1 ?_)); refine WD.nil ?_)); (try (refine st ?_; (repeat intro zzc))))); (repeat revert zzc); exact zzn.out) : G := h ⟨next⟩
theorem shared_any (a b : List UInt8) (ha : a.length ≤ 1000000000) (hb : b.length ≤ 1000000000) (w0 : World) (m : Mem) (H : SHeap) :
    Does Try.prog 73 #[str a, str b] w0 m H (fun v m' H' => ∃ n k : Nat, v = .tuple #[.int .i64 (n : Int), .int .i64 (k : Int)] ∧ m' = m ∧ H' = H ∧ Sh a b n k ∧ (k = a.length ∨ k = b.length ∨ wt a (readP a k) ≠ wt b (readP b k))) := by
  refine Does.of_body (args := [str a, str b]) Try.func73 rfl Try.ntmps73 rfl ?_
  (try (refine st_ER2_1 ?_; intros))
  refine WC.loopH [(7, .int .i64 ((0) : Int)), (6, .int .i64 ((0) : Int)), (0, str a), (1, str b)] ?_ ?_ (fun j r ds m' H' => ∃ (k : Nat) (n : Nat), j = a.length - k ∧ r = [(7, .int .i64 (k : Int)), (6, .int .i64 (n : Int)), (0, str a), (1, str b)] ∧ ds = [] ∧ m = m' ∧ H' = H ∧ (n ≤ k) ∧ (Sh a b n k)) (a.length - (0)) ⟨0, 0, rfl, rfl, rfl, rfl, rfl, by omega, Sh.start a b⟩ ?_
  · (repeat (first | exact Env.Sub.nil | refine Env.Sub.cons rfl ?_))
  · exact (fun w h => Pick.sat (by iterate 60 (try (first | exact Pick.all | (apply Pick.take; (· (repeat (first | exact Out.here | apply Out.there)))) | apply Pick.drop))) h)
  rintro j r ds m' H' ⟨k, n, rfl, rfl, rfl, rfl, rfl, hn, hS⟩
  have hka : k ≤ a.length := by obtain ⟨_, _, _, _, _, _, _, h, _⟩ := hS; exact h
  have hkb : k ≤ b.length := by obtain ⟨_, _, _, _, _, _, _, _, h⟩ := hS; exact h
  by_cases h1 : k < a.length
  · by_cases h2 : k < b.length
    · have w1 := readP_w h1
      have w2 := readP_w h2
      have hws := wt_same h1 h2
      by_cases hw : wt a (readP a k) = wt b (readP b k)
      · obtain ⟨he, hg⟩ := hws.1 hw
        have hSn := hS.next h1 h2 hw
        cases hbr : (readP a k).b with
        | true =>
          have hg' := hg hbr
          (try (refine st_ER2_1 ?_; intros))
          refine WQ.next (a.length - (k + (readP a k).w)) ⟨k + (readP a k).w, n + 1, rfl, rfl, rfl, rfl, rfl, ?_, ?_⟩ (by omega) (by (repeat (first | exact Env.Sub.nil | refine Env.Sub.cons rfl ?_))) (fun w h => Pick.sat (by iterate 60 (try (first | exact Pick.all | (apply Pick.take; (· (repeat (first | exact Out.here | apply Out.there)))) | apply Pick.drop))) h)
          · omega
          · exact hSn
        | false =>
          (try (refine st_ER2_1 ?_; intros))
          refine WQ.next (a.length - (k + (readP a k).w)) ⟨k + (readP a k).w, n + 1, rfl, rfl, rfl, rfl, rfl, ?_, ?_⟩ (by omega) (by (repeat (first | exact Env.Sub.nil | refine Env.Sub.cons rfl ?_))) (fun w h => Pick.sat (by iterate 60 (try (first | exact Pick.all | (apply Pick.take; (· (repeat (first | exact Out.here | apply Out.there)))) | apply Pick.drop))) h)
          · omega
          · exact hSn
      · by_cases he : readP a k = readP b k
        · have hbr : (readP a k).b = true := by
            cases hb : (readP a k).b with
            | true => rfl
            | false => exact absurd (hws.2 ⟨he, fun h => by rw [hb] at h; cases h⟩) hw
          have hg : ¬ gb a k = gb b k := fun h => hw (hws.2 ⟨he, fun _ => h⟩)
          (try (refine st_ER2_1 ?_; intros))
          (refine q_fin0 ?_)
          exact ⟨n, k, rfl, rfl, rfl, hS, .inr (.inr hw)⟩
        · (try (refine st_ER2_1 ?_; intros))
          (refine q_fin0 ?_)
          exact ⟨n, k, rfl, rfl, rfl, hS, .inr (.inr hw)⟩
    · (try (refine st_ER2_1 ?_; intros))
      (refine q_fin0 ?_)
      exact ⟨n, k, rfl, rfl, rfl, hS, .inr (.inl (by omega))⟩
  · (try (refine st_ER2_1 ?_; intros))
    (refine q_fin0 ?_)
    exact ⟨n, k, rfl, rfl, rfl, hS, .inl (by omega)⟩
def W (l : List UInt8) : List Nat := (pieces l).map (wt l)
theorem W_length (l : List UInt8) : (W l).length = (pieces l).length := by simp [W]
theorem cm_take {X Y : List Nat} {n : Nat} (h : X.take n = Y.take n) (hx : n ≤ X.length) (hy : n ≤ Y.length) (hs : n = X.length ∨ n = Y.length ∨ ∃ x y, X[n]? = some x ∧ Y[n]? = some y ∧ x ≠ y) : cm X Y = n := by
  have h1 : X = X.take n ++ X.drop n := (List.take_append_drop n X).symm
  have h2 : Y = X.take n ++ Y.drop n := by rw [h]; exact (List.take_append_drop n Y).symm
  rw [h1, h2, cm_pre, cm_stop, List.length_take]
  · omega
  · rcases hs with hs | hs | ⟨x, y, e1, e2, hne⟩
    · rw [List.drop_eq_nil_of_le (by omega)]; trivial
    · rw [show Y.drop n = [] from List.drop_eq_nil_of_le (by omega)]; cases X.drop n <;> trivial
    · obtain ⟨g1, e1⟩ := List.getElem?_eq_some_iff.1 e1
      obtain ⟨g2, e2⟩ := List.getElem?_eq_some_iff.1 e2
      rw [List.drop_eq_getElem_cons g1, List.drop_eq_getElem_cons g2, e1, e2]
      exact hne
theorem mem_ok {l : List UInt8} {p : Pc} (h : p ∈ pieces l) : p.at_ < l.length ∧ p.r ≤ 1114111 := by
  obtain ⟨_, h2, h3⟩ := reach_of_mem h
  have := okr_le (readP_ok h2)
  rw [← h3] at this
  exact ⟨h2, this⟩
theorem common_any (a b : List UInt8) (ha : a.length ≤ 1000000000) (hb : b.length ≤ 1000000000) (w0 : World) (m : Mem) (H : SHeap) :
    Does Try.prog 53 #[str a, str b] w0 m H (Gives (.int .i64 (cm (W a) (W b) : Int)) m H) := by
  refine Does.of_body (args := [str a, str b]) Try.func53 rfl Try.ntmps53 rfl ?_
  (try (refine st_ER2_1 ?_; intros))
  refine w_callF Try.func73 ?_ (hs := shared_any a b ha hb _ _ _)
  rintro _ m H ⟨n, k, rfl, rfl, rfl, hS, hstop⟩
  (try (refine st_ER2_1 ?_; intros))
  (refine q_fin0 ?_)
  refine Gives.mk (vi ?_)
  rw [(hS.done hstop).1]; rfl
theorem cut_any (l : List UInt8) (n : Int) (hl : l.length ≤ 1000000000) (hn : -9223372036854775808 ≤ n ∧ n ≤ 9223372036854775807) (w0 : World) (m : Mem) (H : SHeap) :
    Does Try.prog 52 #[str l, .int .i64 n] w0 m H (Gives (.tuple #[str (l.take (cutK l n)), str (l.drop (cutK l n))]) m H) := by
  refine Does.of_body (args := [str l, .int .i64 n]) Try.func52 rfl Try.ntmps52 rfl ?_
  by_cases h0 : n ≤ 0
  · have hk : cutK l n = 0 := by rw [cutK, if_pos h0]
    rw [hk]
    (try (refine st_ER2_1 ?_; intros))
    (refine q_fin0 ?_)
    exact Gives.mk (by simp)
  · obtain ⟨N, rfl⟩ : ∃ N : Nat, n = N := ⟨n.toNat, by omega⟩
    have hk : cutK l N = (endsOf l).getD N l.length := by rw [cutK, if_neg h0]; simp
    rw [hk]
    (refine st_ER2_1 ?_; intros; rename_i it)
    refine WC.loopH [(11, .pointer (some ⟨it, 0, none⟩)), (0, str l), (1, .int .i64 ((N : Int)))] ?_ ?_ (fun j r ds m' H' => ∃ (k : Nat) (pre : (List Pc)) (c : Int), j = l.length - k ∧ r = [(11, .pointer (some ⟨it, 0, none⟩)), (0, str l), (1, .int .i64 c)] ∧ ds = [] ∧ m = m' ∧ H' = .blk it (.stringIter ⟨l.toArray⟩ k) :: H ∧ (pieces l = pre ++ from_ l k) ∧ (pre.length ≤ N) ∧ (c = (N : Int) - pre.length) ∧ (k ≤ l.length)) (l.length - (0)) ⟨0, [], (N : Int), rfl, rfl, rfl, rfl, rfl, by unfold pieces; rfl, by simp, by simp, by omega⟩ ?_
    · (repeat (first | exact Env.Sub.nil | refine Env.Sub.cons rfl ?_))
    · exact (fun w h => Pick.sat (by iterate 60 (try (first | exact Pick.all | (apply Pick.take; (· (repeat (first | exact Out.here | apply Out.there)))) | apply Pick.drop))) h)
    rintro j r ds m' H' ⟨k, pre, c, rfl, rfl, rfl, rfl, rfl, hp, hN, hc, hkl⟩
    have hpl := pieces_length l
    by_cases hkl2 : k < l.length
    · have hw := readP_w hkl2
      have hwe := readP_w_eq l k
      rw [from_cons hkl2] at hp
      have hpre : pre.length ≤ (pieces l).length := by rw [hp]; simp
      by_cases hz : c = 0
      · have hk2 : (endsOf l).getD N l.length = k := by
          have e : N = pre.length := by omega
          rw [e, endsOf, hp]
          simp [List.getD_eq_getElem?_getD, readP_at]
        rw [hk2]
        (try (refine st_ER2_1 ?_; intros))
        (refine q_fin0 ?_)
        exact Gives.mk rfl
      · (try (refine st_ER2_1 ?_; intros))
        refine WQ.next (l.length - (k + (dl (l.drop k)).2)) ⟨k + (dl (l.drop k)).2, pre ++ [readP l k], _, rfl, rfl, rfl, rfl, rfl, ?_, ?_, ?_, ?_⟩ (by omega) (by (repeat (first | exact Env.Sub.nil | refine Env.Sub.cons rfl ?_))) (fun w h => Pick.sat (by iterate 60 (try (first | exact Pick.all | (apply Pick.take; (· (repeat (first | exact Out.here | apply Out.there)))) | apply Pick.drop))) h)
        · rw [hp, ← hwe]; simp
        · simp; omega
        · simp; omega
        · omega
    · rw [from_nil hkl2, List.append_nil] at hp
      have hk2 : (endsOf l).getD N l.length = l.length := by
        rw [endsOf, hp, List.getD_eq_getElem?_getD]
        by_cases e : N = pre.length
        · rw [e]; simp
        · rw [List.getElem?_eq_none (by simp; omega)]; rfl
      rw [hk2]
      (try (refine st_ER2_1 ?_; intros))
      (refine q_fin0 ?_)
      exact Gives.mk (by simp)
end Go.Proofs.Ytelgegefmjlimaa

/-
  Plain facts on changes: what a change makes of a text. No condition.
-/
namespace Go.Eng
open Go
/-- what a change makes of a text; none: they are apart -/
def applyA : List UInt8 → List Atm → Option (List UInt8)
  | _, [] => some []
  | s, .p b :: l => (applyA s l).map (b :: ·)
  | c :: s, .k :: l => (applyA s l).map (c :: ·)
  | c :: s, .d b :: l => if c = b then applyA s l else none
  | [], .k :: _ => none
  | [], .d _ :: _ => none
theorem applyA_p (s : List UInt8) (b : UInt8) (l : List Atm) : applyA s (.p b :: l) = (applyA s l).map (b :: ·) := by cases s <;> rfl
theorem applyA_nil (s : List UInt8) : applyA s [] = some [] := by cases s <;> rfl
theorem applyA_ps (s : List UInt8) : ∀ (ds : List UInt8) (l : List Atm), applyA s (ds.map .p ++ l) = (applyA s l).map (ds ++ ·)
  | [], l => by simp
  | b :: ds, l => by rw [List.map_cons, List.cons_append, applyA_p, applyA_ps s ds l, Option.map_map]; rfl
theorem applyA_ks : ∀ (n : Nat) (s : List UInt8) (l : List Atm), n ≤ s.length → applyA s (List.replicate n .k ++ l) = (applyA (s.drop n) l).map (s.take n ++ ·)
  | 0, s, l, _ => by simp
  | n + 1, [], l, h => by simp at h
  | n + 1, c :: s, l, h => by
    rw [List.replicate_succ, List.cons_append, applyA, applyA_ks n s l (by simpa using h), Option.map_map]; rfl
theorem applyA_ds : ∀ (ds s : List UInt8) (l : List Atm), ds.length ≤ s.length → applyA s (ds.map .d ++ l) = if s.take ds.length = ds then applyA (s.drop ds.length) l else none
  | [], s, l, _ => by simp
  | b :: ds, [], l, h => by simp at h
  | b :: ds, c :: s, l, h => by
    rw [List.map_cons, List.cons_append, applyA, applyA_ds ds s l (by simpa using h)]
    by_cases hb : c = b
    · subst hb; simp
    · simp [hb]
end Go.Eng

/-
  Plain facts on changes: parts of a step. No condition.
-/
namespace Go.Eng
open Go
def takeS (s : Stp) (n : Nat) : Stp := if 0 < s.k then ⟨n, [], []⟩ else if s.d ≠ [] then ⟨0, s.d.take n, []⟩ else ⟨0, [], s.p.take n⟩
def dropS (s : Stp) (n : Nat) : Stp := if 0 < s.k then ⟨s.k - n, [], []⟩ else if s.d ≠ [] then ⟨0, s.d.drop n, []⟩ else ⟨0, [], s.p.drop n⟩
def restS (s : Stp) (n : Nat) (X : List Stp) : List Stp := if n = s.atoms.length then X else dropS s n :: X
/-- the three kinds of a step -/
theorem step_kinds {s : Stp} (h : stpOk s) : (0 < s.k ∧ s.d = [] ∧ s.p = [] ∧ s.atoms = List.replicate s.k.toNat .k) ∨ (s.k = 0 ∧ s.d ≠ [] ∧ s.p = [] ∧ s.atoms = s.d.map .d) ∨ (s.k = 0 ∧ s.d = [] ∧ s.p ≠ [] ∧ s.atoms = s.p.map .p) := by
  rcases h with ⟨h1, h2, h3⟩ | ⟨h1, h2, h3⟩ | ⟨h1, h2, h3⟩
  · exact .inl ⟨h1, h2, h3, by simp [Stp.atoms, h2, h3]⟩
  · exact .inr (.inl ⟨h1, h2, h3, by simp [Stp.atoms, h1, h3]⟩)
  · exact .inr (.inr ⟨h1, h2, h3, by simp [Stp.atoms, h1, h2]⟩)
theorem atoms_pos {s : Stp} (h : stpOk s) : 0 < s.atoms.length := by
  rcases step_kinds h with ⟨h1, h2, h3, e⟩ | ⟨h1, h2, h3, e⟩ | ⟨h1, h2, h3, e⟩ <;> rw [e]
  · simp; omega
  · simpa [List.length_pos_iff] using h2
  · simpa [List.length_pos_iff] using h3
theorem takeS_ok {s : Stp} {n : Nat} (h : stpOk s) (h0 : 0 < n) (hn : n ≤ s.atoms.length) : stpOk (takeS s n) ∧ (takeS s n).atoms = s.atoms.take n := by
  rcases step_kinds h with ⟨h1, h2, h3, e⟩ | ⟨h1, h2, h3, e⟩ | ⟨h1, h2, h3, e⟩ <;> rw [e] at hn ⊢
  · have et : takeS s n = ⟨n, [], []⟩ := by simp [takeS, h1]
    rw [et]
    refine ⟨.inl ⟨by simp only; omega, rfl, rfl⟩, ?_⟩
    simp only [List.length_replicate] at hn
    simp [Stp.atoms, List.take_replicate, Nat.min_eq_left hn]
  · have et : takeS s n = ⟨0, s.d.take n, []⟩ := by simp [takeS, h1, h2]
    rw [et]
    refine ⟨.inr (.inl ⟨rfl, ?_, rfl⟩), ?_⟩
    · intro hc
      have : (s.d.take n).length = 0 := by rw [show s.d.take n = [] from hc]; rfl
      simp only [List.length_take, List.length_map] at this hn; omega
    · simp [Stp.atoms, List.map_take]
  · have et : takeS s n = ⟨0, [], s.p.take n⟩ := by simp [takeS, h1, h2]
    rw [et]
    refine ⟨.inr (.inr ⟨rfl, rfl, ?_⟩), ?_⟩
    · intro hc
      have : (s.p.take n).length = 0 := by rw [show s.p.take n = [] from hc]; rfl
      simp only [List.length_take, List.length_map] at this hn; omega
    · simp [Stp.atoms, List.map_take]
theorem takeS_all {s : Stp} (h : stpOk s) : takeS s s.atoms.length = s := by
  obtain ⟨k, d, p⟩ := s
  rcases step_kinds h with ⟨h1, h2, h3, e⟩ | ⟨h1, h2, h3, e⟩ | ⟨h1, h2, h3, e⟩ <;> rw [e] <;> simp only at h1 h2 h3
  · subst h2; subst h3
    simp only [takeS, h1, if_true, List.length_replicate]
    congr 1; omega
  · subst h1; subst h3
    simp [takeS, h2]
  · subst h1; subst h2
    simp [takeS]
theorem dropS_ok {s : Stp} {n : Nat} (h : stpOk s) (hn : n < s.atoms.length) : stpOk (dropS s n) ∧ (dropS s n).atoms = s.atoms.drop n := by
  rcases step_kinds h with ⟨h1, h2, h3, e⟩ | ⟨h1, h2, h3, e⟩ | ⟨h1, h2, h3, e⟩ <;> rw [e] at hn ⊢
  · have et : dropS s n = ⟨s.k - n, [], []⟩ := by simp [dropS, h1]
    rw [et]
    simp only [List.length_replicate] at hn
    refine ⟨.inl ⟨by simp only; omega, rfl, rfl⟩, ?_⟩
    simp only [Stp.atoms, List.map_nil, List.append_nil, List.drop_replicate]
    congr 1; omega
  · have et : dropS s n = ⟨0, s.d.drop n, []⟩ := by simp [dropS, h1, h2]
    rw [et]
    refine ⟨.inr (.inl ⟨rfl, ?_, rfl⟩), ?_⟩
    · intro hc
      have : (s.d.drop n).length = 0 := by rw [show s.d.drop n = [] from hc]; rfl
      simp only [List.length_drop, List.length_map] at this hn; omega
    · simp [Stp.atoms, List.map_drop]
  · have et : dropS s n = ⟨0, [], s.p.drop n⟩ := by simp [dropS, h1, h2]
    rw [et]
    refine ⟨.inr (.inr ⟨rfl, rfl, ?_⟩), ?_⟩
    · intro hc
      have : (s.p.drop n).length = 0 := by rw [show s.p.drop n = [] from hc]; rfl
      simp only [List.length_drop, List.length_map] at this hn; omega
    · simp [Stp.atoms, List.map_drop]
theorem restS_ok {s : Stp} {n : Nat} {X : List Stp} (h : ∀ x ∈ s :: X, stpOk x) (hn : n ≤ s.atoms.length) : (∀ x ∈ restS s n X, stpOk x) ∧ atomsOf (restS s n X) = s.atoms.drop n ++ atomsOf X := by
  unfold restS
  by_cases e : n = s.atoms.length
  · rw [if_pos e]
    exact ⟨fun x hx => h x (List.mem_cons_of_mem _ hx), by rw [e, List.drop_length]; rfl⟩
  · rw [if_neg e]
    obtain ⟨h1, h2⟩ := dropS_ok (h s List.mem_cons_self) (show n < s.atoms.length by omega)
    refine ⟨fun x hx => ?_, by rw [atoms_cons, h2]⟩
    rcases List.mem_cons.1 hx with rfl | hx
    · exact h1
    · exact h x (List.mem_cons_of_mem _ hx)
/-- a step's parts come one behind the other -/
theorem parts_S {s : Stp} {n : Nat} {X : List Stp} (h : ∀ x ∈ s :: X, stpOk x) (h0 : 0 < n) (hn : n ≤ s.atoms.length) : atomsOf (s :: X) = (takeS s n).atoms ++ atomsOf (restS s n X) := by
  rw [(restS_ok h hn).2, (takeS_ok (h s List.mem_cons_self) h0 hn).2, ← List.append_assoc, List.take_append_drop]; rfl
theorem takeS_kind {s : Stp} {n : Nat} (h : stpOk s) (h0 : 0 < n) (hn : n ≤ s.atoms.length) : (0 < (takeS s n).k ↔ 0 < s.k) ∧ ((takeS s n).d = [] ↔ s.d = []) ∧ ((takeS s n).p = [] ↔ s.p = []) ∧ (takeS s n).atoms.length = n := by
  obtain ⟨h1, h2⟩ := takeS_ok h h0 hn
  have h3 : (takeS s n).atoms.length = n := by rw [h2, List.length_take]; omega
  rw [h3]
  have h4 := h2
  rcases step_kinds h with ⟨g1, g2, g3, e⟩ | ⟨g1, g2, g3, e⟩ | ⟨g1, g2, g3, e⟩ <;> rcases step_kinds h1 with ⟨f1, f2, f3, e'⟩ | ⟨f1, f2, f3, e'⟩ | ⟨f1, f2, f3, e'⟩
  · exact ⟨⟨fun _ => g1, fun _ => f1⟩, ⟨fun _ => g2, fun _ => f2⟩, ⟨fun _ => g3, fun _ => f3⟩, rfl⟩
  · exfalso
    have et : takeS s n = ⟨n, [], []⟩ := by simp [takeS, g1]
    rw [et] at f2; exact f2 rfl
  · exfalso
    have et : takeS s n = ⟨n, [], []⟩ := by simp [takeS, g1]
    rw [et] at f3; exact f3 rfl
  · exfalso
    have et : takeS s n = ⟨0, s.d.take n, []⟩ := by simp [takeS, g1, g2]
    rw [et] at f1; simp at f1
  · exact ⟨⟨fun h => by omega, fun h => by omega⟩, ⟨fun h => absurd h f2, fun h => absurd h g2⟩, ⟨fun _ => g3, fun _ => f3⟩, rfl⟩
  · exfalso
    have et : takeS s n = ⟨0, s.d.take n, []⟩ := by simp [takeS, g1, g2]
    rw [et] at f3; exact f3 rfl
  · exfalso
    have et : takeS s n = ⟨0, [], s.p.take n⟩ := by simp [takeS, g1, g2]
    rw [et] at f1; simp at f1
  · exfalso
    have et : takeS s n = ⟨0, [], s.p.take n⟩ := by simp [takeS, g1, g2]
    rw [et] at f2; exact f2 rfl
  · exact ⟨⟨fun h => by omega, fun h => by omega⟩, ⟨fun _ => g2, fun _ => f2⟩, ⟨fun h => absurd h f3, fun h => absurd h g3⟩, rfl⟩
end Go.Eng

/-
  Plain facts on changes: composing them by parts of steps. No condition.
-/
namespace Go.Eng
open Go
theorem notPut_atoms {Y : List Stp} (h : ∀ y ∈ Y, stpOk y) (hp : ∀ t Y', Y = t :: Y' → t.p = []) : notPut (atomsOf Y) = true := by
  cases Y with
  | nil => rfl
  | cons t Y' =>
    have ht := hp t Y' rfl
    rw [atoms_cons]
    rcases step_kinds (h t List.mem_cons_self) with ⟨h1, h2, h3, e⟩ | ⟨h1, h2, h3, e⟩ | ⟨h1, h2, h3, e⟩
    · rw [e]
      obtain ⟨n, hn⟩ : ∃ n, t.k.toNat = n + 1 := ⟨t.k.toNat - 1, by omega⟩
      rw [hn, List.replicate_succ]; rfl
    · rw [e]
      cases hd : t.d with
      | nil => exact absurd hd h2
      | cons b d => rfl
    · exact absurd ht h3
theorem comp_put {X Y : List Stp} {t : Stp} (ht : stpOk t) (hp : t.p ≠ []) : compA (atomsOf X) (atomsOf (t :: Y)) = (compA (atomsOf X) (atomsOf Y)).map (t.atoms ++ ·) := by
  rcases step_kinds ht with ⟨h1, h2, h3, e⟩ | ⟨h1, h2, h3, e⟩ | ⟨h1, h2, h3, e⟩
  · exact absurd h3 hp
  · exact absurd h3 hp
  · rw [atoms_cons, e, compA_ps]
theorem comp_drop {X Y : List Stp} {s : Stp} (hs : stpOk s) (hd : s.d ≠ []) (hY : ∀ y ∈ Y, stpOk y) (hp : ∀ t Y', Y = t :: Y' → t.p = []) : compA (atomsOf (s :: X)) (atomsOf Y) = (compA (atomsOf X) (atomsOf Y)).map (s.atoms ++ ·) := by
  rcases step_kinds hs with ⟨h1, h2, h3, e⟩ | ⟨h1, h2, h3, e⟩ | ⟨h1, h2, h3, e⟩
  · exact absurd h2 hd
  · rw [atoms_cons, e, compA_ds _ _ _ (notPut_atoms hY hp)]
  · exact absurd h2 hd
theorem comp_nilY {X : List Stp} (hX : ∀ x ∈ X, stpOk x) (hd : ∀ s X', X = s :: X' → s.d = []) : compA (atomsOf X) (atomsOf []) = some [] := by
  cases X with
  | nil => rw [show atomsOf [] = [] from rfl, compA]
  | cons s X' =>
    have h := hd s X' rfl
    rw [atoms_cons, show atomsOf [] = [] from rfl]
    rcases step_kinds (hX s List.mem_cons_self) with ⟨h1, h2, h3, e⟩ | ⟨h1, h2, h3, e⟩ | ⟨h1, h2, h3, e⟩
    · rw [e]
      obtain ⟨n, hn⟩ : ∃ n, s.k.toNat = n + 1 := ⟨s.k.toNat - 1, by omega⟩
      rw [hn, List.replicate_succ, List.cons_append, compA]
    · exact absurd h h2
    · rw [e]
      cases hp : s.p with
      | nil => exact absurd hp h3
      | cons b p => rw [List.map_cons, List.cons_append, compA]
theorem comp_nilX {Y : List Stp} (hY : ∀ y ∈ Y, stpOk y) (hp : ∀ t Y', Y = t :: Y' → t.p = []) : compA (atomsOf []) (atomsOf Y) = some [] := compA_nil _ (notPut_atoms hY hp)
/-- one round: so many bytes of both -/
theorem comp_both {X Y : List Stp} {s t : Stp} {n : Nat} (hX : ∀ x ∈ s :: X, stpOk x) (hY : ∀ y ∈ t :: Y, stpOk y) (hd : s.d = []) (hp : t.p = []) (h0 : 0 < n) (hs : n ≤ s.atoms.length) (ht : n ≤ t.atoms.length) :
    compA (atomsOf (s :: X)) (atomsOf (t :: Y)) = if 0 < (takeS s n).k then (compA (atomsOf (restS s n X)) (atomsOf (restS t n Y))).map ((takeS t n).atoms ++ ·)
      else if 0 < (takeS t n).k then (compA (atomsOf (restS s n X)) (atomsOf (restS t n Y))).map ((takeS s n).atoms ++ ·)
      else if (takeS s n).p = (takeS t n).d then compA (atomsOf (restS s n X)) (atomsOf (restS t n Y)) else none := by
  have a1 := takeS_kind (hX s List.mem_cons_self) h0 hs
  have a2 := takeS_kind (hY t List.mem_cons_self) h0 ht
  have o1 := (takeS_ok (hX s List.mem_cons_self) h0 hs).1
  have o2 := (takeS_ok (hY t List.mem_cons_self) h0 ht).1
  rw [parts_S hX h0 hs, parts_S hY h0 ht]
  generalize takeS s n = s1 at *
  generalize takeS t n = t1 at *
  have d1 : s1.d = [] := a1.2.1.2 hd
  have p2 : t1.p = [] := a2.2.2.1.2 hp
  have l1 := a1.2.2.2
  have l2 := a2.2.2.2
  rcases step_kinds o1 with ⟨h1, h2, h3, e⟩ | ⟨h1, h2, h3, e⟩ | ⟨h1, h2, h3, e⟩
  · rw [if_pos h1, e]
    have el : s1.k.toNat = n := by rw [e] at l1; simpa using l1
    rcases step_kinds o2 with ⟨g1, g2, g3, f⟩ | ⟨g1, g2, g3, f⟩ | ⟨g1, g2, g3, f⟩
    · have el2 : t1.k.toNat = n := by rw [f] at l2; simpa using l2
      rw [f, el, el2, compA_kk]
    · have el2 : t1.d.length = n := by rw [f] at l2; simpa using l2
      rw [f, el, ← el2, compA_kd]
    · exact absurd p2 g3
  · exact absurd d1 h2
  · rw [if_neg (by omega), e]
    have el : s1.p.length = n := by rw [e] at l1; simpa using l1
    rcases step_kinds o2 with ⟨g1, g2, g3, f⟩ | ⟨g1, g2, g3, f⟩ | ⟨g1, g2, g3, f⟩
    · have el2 : t1.k.toNat = n := by rw [f] at l2; simpa using l2
      rw [if_pos g1, f, el2, ← el, compA_pk]
    · have el2 : t1.d.length = n := by rw [f] at l2; simpa using l2
      rw [if_neg (by omega), f, compA_pd _ _ _ _ (by omega)]
    · exact absurd p2 g3
/-- what two changes come to, one behind the other -/
def compP (a b : List Stp) : Int ⊕ List Stp := match sizesOf a, sizesOf b with
  | some (_, mid), some (from_, _) => if mid ≠ from_ then .inl 5 else match compA (nfOf (gapsOf a)) (nfOf (gapsOf b)) with
    | none => .inl 270
    | some o => .inr (Bld.start.run o).close.l
  | _, _ => .inl 2
end Go.Eng

/-
  Plain facts on changes: composing, with the builder at hand. No condition.
-/
namespace Go.Eng
open Go
/-- the answer, from here on -/
def cmpT (B : Bld) (xs ys : List Atm) : Option (List Stp) := (compA xs ys).map fun o => (B.run o).close.l
theorem cmpT_p (B : Bld) (xs : List Atm) (P : List UInt8) (ys : List Atm) : cmpT B xs (P.map .p ++ ys) = cmpT ⟨B.l, B.p ++ P, B.d⟩ xs ys := by
  unfold cmpT
  rw [compA_ps, Option.map_map]
  congr 1; funext o
  simp only [Function.comp, run_append, run_p]
theorem cmpT_d (B : Bld) (ds : List UInt8) (xs ys : List Atm) (h : notPut ys = true) : cmpT B (ds.map .d ++ xs) ys = cmpT ⟨B.l, B.p, B.d ++ ds⟩ xs ys := by
  unfold cmpT
  rw [compA_ds _ _ _ h, Option.map_map]
  congr 1; funext o
  simp only [Function.comp, run_append, run_d]
theorem cmpT_kk (B : Bld) (xs ys : List Atm) : cmpT B (.k :: xs) (.k :: ys) = cmpT (B.keep 1) xs ys := by
  unfold cmpT
  rw [compA, Option.map_map]; rfl
theorem cmpT_kd (B : Bld) (c : UInt8) (xs ys : List Atm) : cmpT B (.k :: xs) (.d c :: ys) = cmpT ⟨B.l, B.p, B.d ++ [c]⟩ xs ys := by
  unfold cmpT
  rw [compA, Option.map_map]; rfl
theorem cmpT_pk (B : Bld) (c : UInt8) (xs ys : List Atm) : cmpT B (.p c :: xs) (.k :: ys) = cmpT ⟨B.l, B.p ++ [c], B.d⟩ xs ys := by
  unfold cmpT
  rw [compA, Option.map_map]; rfl
theorem cmpT_pd (B : Bld) (b c : UInt8) (xs ys : List Atm) : cmpT B (.p b :: xs) (.d c :: ys) = if b = c then cmpT B xs ys else none := by
  unfold cmpT
  rw [compA]
  split <;> rfl
theorem cmpT_end (B : Bld) (ds : List UInt8) : cmpT B (ds.map .d) [] = some (⟨B.l, B.p, B.d ++ ds⟩ : Bld).close.l := by
  have h := cmpT_d B ds [] [] rfl
  rw [List.append_nil] at h
  rw [h]; unfold cmpT; rw [compA]; rfl
/-- the same step by step -/
theorem stp_put {B : Bld} {X Y : List Stp} {t : Stp} (ht : stpOk t) (hp : t.p ≠ []) : cmpT B (atomsOf X) (atomsOf (t :: Y)) = cmpT (B.step t) (atomsOf X) (atomsOf Y) := by
  unfold cmpT
  rw [comp_put ht hp, Option.map_map]
  congr 1; funext o
  simp only [Function.comp, run_append, run_step _ _ ht]
theorem stp_drop {B : Bld} {X Y : List Stp} {s : Stp} (hs : stpOk s) (hd : s.d ≠ []) (hY : ∀ y ∈ Y, stpOk y) (hp : ∀ t Y', Y = t :: Y' → t.p = []) : cmpT B (atomsOf (s :: X)) (atomsOf Y) = cmpT (B.step s) (atomsOf X) (atomsOf Y) := by
  unfold cmpT
  rw [comp_drop hs hd hY hp, Option.map_map]
  congr 1; funext o
  simp only [Function.comp, run_append, run_step _ _ hs]
theorem stp_nilY {B : Bld} {X : List Stp} (hX : ∀ x ∈ X, stpOk x) (hd : ∀ s X', X = s :: X' → s.d = []) : cmpT B (atomsOf X) (atomsOf []) = some B.close.l := by
  unfold cmpT; rw [comp_nilY hX hd]; rfl
theorem stp_nilX {B : Bld} {Y : List Stp} (hY : ∀ y ∈ Y, stpOk y) (hp : ∀ t Y', Y = t :: Y' → t.p = []) : cmpT B (atomsOf []) (atomsOf Y) = some B.close.l := by
  unfold cmpT; rw [comp_nilX hY hp]; rfl
theorem stp_both {B : Bld} {X Y : List Stp} {s t : Stp} {n : Nat} (hX : ∀ x ∈ s :: X, stpOk x) (hY : ∀ y ∈ t :: Y, stpOk y) (hd : s.d = []) (hp : t.p = []) (h0 : 0 < n) (hs : n ≤ s.atoms.length) (ht : n ≤ t.atoms.length) :
    cmpT B (atomsOf (s :: X)) (atomsOf (t :: Y)) = if 0 < (takeS s n).k then cmpT (B.step (takeS t n)) (atomsOf (restS s n X)) (atomsOf (restS t n Y))
      else if 0 < (takeS t n).k then cmpT (B.step (takeS s n)) (atomsOf (restS s n X)) (atomsOf (restS t n Y))
      else if (takeS s n).p = (takeS t n).d then cmpT B (atomsOf (restS s n X)) (atomsOf (restS t n Y)) else none := by
  have o1 := (takeS_ok (hX s List.mem_cons_self) h0 hs).1
  have o2 := (takeS_ok (hY t List.mem_cons_self) h0 ht).1
  unfold cmpT
  rw [comp_both hX hY hd hp h0 hs ht]
  split
  · rw [Option.map_map]
    congr 1; funext o
    simp only [Function.comp, run_append, run_step _ _ o2]
  · split
    · rw [Option.map_map]
      congr 1; funext o
      simp only [Function.comp, run_append, run_step _ _ o1]
    · split <;> rfl
/-- what is left of a stream is less -/
theorem rest_len {s : Stp} {n : Nat} {X : List Stp} (hX : ∀ x ∈ s :: X, stpOk x) (h0 : 0 < n) (hs : n ≤ s.atoms.length) : (atomsOf (s :: X)).length = n + (atomsOf (restS s n X)).length ∧ (takeS s n).atoms.length = n := by
  have h := parts_S hX h0 hs
  have h2 := (takeS_kind (hX s List.mem_cons_self) h0 hs).2.2.2
  rw [h, List.length_append, h2]
  exact ⟨rfl, rfl⟩
theorem bfit_step {N : Nat} {B : Bld} {s : Stp} (h : BFit N B) (hs : stpOk s) : BFit (N + 4 * s.atoms.length) (B.step s) := by
  rw [← run_step B s hs]; exact BFit.run _ h
theorem restS_all {s : Stp} {X : List Stp} : restS s s.atoms.length X = X := if_pos rfl
theorem stp_bounds {s : Stp} (h : stpOk s) : 0 ≤ s.k ∧ s.k ≤ s.atoms.length ∧ s.d.length ≤ s.atoms.length ∧ s.p.length ≤ s.atoms.length := by
  have := atoms_len s
  rcases h with ⟨h, _, _⟩ | ⟨h, _, _⟩ | ⟨h, _, _⟩ <;> omega
/-- the bytes of what a change makes: where each was, or what was put -/
def midsA : Nat → List Atm → List (Int × UInt8)
  | _, [] => []
  | i, .k :: l => ((i : Int), 0) :: midsA (i + 1) l
  | i, .d _ :: l => midsA (i + 1) l
  | i, .p c :: l => (-1, c) :: midsA i l
def bytesA : List Atm → List UInt8
  | [] => []
  | .k :: l => 0 :: bytesA l
  | .d c :: l => c :: bytesA l
  | .p _ :: l => bytesA l
theorem midsA_len : ∀ (i : Nat) (l : List Atm), (midsA i l).length = toA l
  | _, [] => rfl
  | i, .k :: l => by simp [midsA, toA, midsA_len (i + 1) l]
  | i, .d _ :: l => by simp [midsA, toA, midsA_len (i + 1) l]
  | i, .p c :: l => by simp [midsA, toA, midsA_len i l]
theorem bytesA_len : ∀ l : List Atm, (bytesA l).length = fromA l
  | [] => rfl
  | .k :: l => by simp [bytesA, fromA, bytesA_len l]
  | .d _ :: l => by simp [bytesA, fromA, bytesA_len l]
  | .p c :: l => by simp [bytesA, fromA, bytesA_len l]
theorem midsA_append : ∀ (i : Nat) (x y : List Atm), midsA i (x ++ y) = midsA i x ++ midsA (i + fromA x) y
  | i, [], y => by simp [midsA, fromA]
  | i, .k :: x, y => by
    rw [List.cons_append, midsA, midsA_append (i + 1) x y, midsA, fromA, List.cons_append]
    congr 3; omega
  | i, .d _ :: x, y => by
    rw [List.cons_append, midsA, midsA_append (i + 1) x y, midsA, fromA]
    congr 2; omega
  | i, .p c :: x, y => by
    rw [List.cons_append, midsA, midsA_append i x y, midsA, fromA, List.cons_append]
theorem bytesA_append : ∀ x y : List Atm, bytesA (x ++ y) = bytesA x ++ bytesA y
  | [], y => rfl
  | .k :: x, y => by simp [bytesA, bytesA_append x y]
  | .d _ :: x, y => by simp [bytesA, bytesA_append x y]
  | .p c :: x, y => by simp [bytesA, bytesA_append x y]
theorem midsA_ds (i : Nat) : ∀ ds : List UInt8, midsA i (ds.map .d) = []
  | [] => rfl
  | b :: ds => by rw [List.map_cons, midsA, midsA_ds]
theorem bytesA_ds : ∀ ds : List UInt8, bytesA (ds.map .d) = ds
  | [] => rfl
  | b :: ds => by rw [List.map_cons, bytesA, bytesA_ds]
theorem bytesA_ps : ∀ ds : List UInt8, bytesA (ds.map .p) = []
  | [] => rfl
  | b :: ds => by rw [List.map_cons, bytesA, bytesA_ps]
theorem midsA_ps (i : Nat) : ∀ ds : List UInt8, midsA i (ds.map .p) = ds.map fun c => (-1, c)
  | [] => rfl
  | b :: ds => by rw [List.map_cons, midsA, midsA_ps i ds]; rfl
theorem bytes_nf (g : Gs) : bytesA (nfOf g) = bytesOf g := by
  unfold nfOf bytesOf
  rw [bytesA_append]
  have h1 : ∀ x : Gap, bytesA (gapA x) = x.d := fun x => by rw [gapA, bytesA_append, bytesA_ps, bytesA_ds]; rfl
  rw [h1]
  congr 1
  have h2 : ∀ l : List Gap, bytesA (l.flatMap fun x => gapA x ++ [.k]) = l.flatMap bytesG := by
    intro l
    induction l with
    | nil => rfl
    | cons x l ih => rw [List.flatMap_cons, List.flatMap_cons, bytesA_append, bytesA_append, h1, ih]; rfl
  exact h2 _
/-- the next byte that is made -/
theorem split_mid : ∀ (l : List Atm), (∃ ds : List UInt8, l = ds.map .d) ∨ (∃ (ds : List UInt8) (l' : List Atm), l = ds.map .d ++ .k :: l') ∨ (∃ (ds : List UInt8) (c : UInt8) (l' : List Atm), l = ds.map .d ++ .p c :: l')
  | [] => .inl ⟨[], rfl⟩
  | .k :: l => .inr (.inl ⟨[], l, rfl⟩)
  | .p c :: l => .inr (.inr ⟨[], c, l, rfl⟩)
  | .d c :: l => by
    rcases split_mid l with ⟨ds, rfl⟩ | ⟨ds, l', rfl⟩ | ⟨ds, b, l', rfl⟩
    · exact .inl ⟨c :: ds, rfl⟩
    · exact .inr (.inl ⟨c :: ds, l', rfl⟩)
    · exact .inr (.inr ⟨c :: ds, b, l', rfl⟩)
/-- the bytes that are made, up to a place -/
def midsTo (P : List (List UInt8)) (D : List Bool) : Nat → List (Int × UInt8)
  | 0 => []
  | p + 1 => midsTo P D p ++ (P.getD p []).map (fun c => (-1, c)) ++ (if D.getD p true = false then [((p : Int), 0)] else [])
theorem mids_to (P : List (List UInt8)) (D : List Bool) (B : List UInt8) (h1 : B.length = D.length) (h2 : P.length = D.length + 1) : ∀ p, p ≤ D.length → midsTo P D p = midsA 0 (sdA ((P.zip (D.zip B)).take p) []) ∧ fromA (sdA ((P.zip (D.zip B)).take p) []) = p
  | 0, _ => ⟨by simp [midsTo, sdA, midsA], by simp [sdA, fromA]⟩
  | p + 1, h => by
    obtain ⟨e1, e2⟩ := mids_to P D B h1 h2 p (by omega)
    have hP : p < P.length := by omega
    have hB : p < B.length := by omega
    have hD : p < D.length := by omega
    have hz : (P.zip (D.zip B)).length = D.length := by simp [List.length_zip]; omega
    have hg : (P.zip (D.zip B)).take (p + 1) = (P.zip (D.zip B)).take p ++ [(P[p], D[p], B[p])] := by
      rw [List.take_succ_eq_append_getElem (by omega)]
      simp
    have es : sdA ((P.zip (D.zip B)).take (p + 1)) [] = sdA ((P.zip (D.zip B)).take p) [] ++ Pos.atoms (P[p], D[p], B[p]) := by
      rw [hg]; simp [sdA]
    have eD : D.getD p true = D[p] := by rw [List.getD_eq_getElem?_getD, List.getElem?_eq_getElem hD]; rfl
    have eP : P.getD p [] = P[p] := by rw [List.getD_eq_getElem?_getD, List.getElem?_eq_getElem hP]; rfl
    constructor
    · rw [midsTo, es, midsA_append, e2, e1, eD, eP, List.append_assoc, Pos.atoms, midsA_append, midsA_ps, fromA_p]
      cases D[p] <;> simp [midsA]
    · rw [es, fromA_append, e2, Pos.atoms, fromA_append, fromA_p]
      cases D[p] <;> simp [fromA]
theorem mids_all (l : List Stp) : midsTo (putsOf (gapsOf l)) (dropsOf (gapsOf l)) (putsOf (gapsOf l)).length = midsA 0 (nfOf (gapsOf l)) := by
  obtain ⟨h1, h2⟩ := said_len (gapsOf l)
  obtain ⟨e1, e2⟩ := mids_to _ _ _ h1 h2 (dropsOf (gapsOf l)).length (Nat.le_refl _)
  have hp := pos_len l
  rw [h2, midsTo, e1, ← sd_atoms]
  have ht : (posOf (gapsOf l)).take (dropsOf (gapsOf l)).length = posOf (gapsOf l) := List.take_of_length_le (by omega)
  unfold posOf at ht hp
  rw [ht]
  have hd : (dropsOf (gapsOf l)).getD (dropsOf (gapsOf l)).length true = true := by simp [List.getD_eq_getElem?_getD]
  rw [hd]
  simp only [Bool.true_eq_false, if_false, List.append_nil]
  have e3 : sdA (posOf (gapsOf l)) (lastOf (gapsOf l)) = sdA ((putsOf (gapsOf l)).zip ((dropsOf (gapsOf l)).zip (bytesOf (gapsOf l)))) [] ++ (lastOf (gapsOf l)).map .p := by simp [sdA, posOf]
  rw [e3, midsA_append, midsA_ps]
  rfl
theorem sd_to (last : List UInt8) : ∀ ps : List Pos, toA (sdA ps last) = (ps.map fun x => x.1.length + (if x.2.1 then 0 else 1)).sum + last.length
  | [] => by rw [sdA_nil, toA_p]; simp
  | x :: ps => by
    rw [sdA_cons, toA_append, toA_p]
    cases h : x.2.1 <;> simp [toA, sd_to last ps, h] <;> omega
end Go.Eng

/-
  Plain facts on changes: two changes carried over each other. No condition.
-/
namespace Go.Eng
open Go
/-- two changes byte by byte, carried over each other; none: they are apart -/
def carA : List Atm → List Atm → Option (List Atm × List Atm)
  | .p b :: xs, ys => (carA xs ys).map fun o => (.p b :: o.1, .k :: o.2)
  | [], .p b :: ys => (carA [] ys).map fun o => (.k :: o.1, .p b :: o.2)
  | .k :: xs, .p b :: ys => (carA (.k :: xs) ys).map fun o => (.k :: o.1, .p b :: o.2)
  | .d c :: xs, .p b :: ys => (carA (.d c :: xs) ys).map fun o => (.k :: o.1, .p b :: o.2)
  | .k :: xs, .k :: ys => (carA xs ys).map fun o => (.k :: o.1, .k :: o.2)
  | .d b :: xs, .k :: ys => (carA xs ys).map fun o => (.d b :: o.1, o.2)
  | .k :: xs, .d b :: ys => (carA xs ys).map fun o => (o.1, .d b :: o.2)
  | .d b :: xs, .d c :: ys => if b = c then carA xs ys else none
  | [], [] => some ([], [])
  | [], .k :: _ => some ([], [])
  | [], .d _ :: _ => some ([], [])
  | .k :: _, [] => some ([], [])
  | .d _ :: _, [] => some ([], [])
termination_by xs ys => xs.length + ys.length
theorem carA_px (b : UInt8) (xs ys : List Atm) : carA (.p b :: xs) ys = (carA xs ys).map fun o => (.p b :: o.1, .k :: o.2) := by
  match ys with
  | [] => rw [carA]
  | .k :: _ => rw [carA]
  | .d _ :: _ => rw [carA]
  | .p _ :: _ => rw [carA]
theorem carA_py (b : UInt8) (xs ys : List Atm) (h : notPut xs = true) : carA xs (.p b :: ys) = (carA xs ys).map fun o => (.k :: o.1, .p b :: o.2) := by
  match xs, h with
  | [], _ => rw [carA]
  | .k :: _, _ => rw [carA]
  | .d _ :: _, _ => rw [carA]
  | .p _ :: _, h => simp [notPut] at h
theorem carA_nilX (ys : List Atm) (h : notPut ys = true) : carA [] ys = some ([], []) := by
  match ys, h with
  | [], _ => rw [carA]
  | .k :: _, _ => rw [carA]
  | .d _ :: _, _ => rw [carA]
  | .p _ :: _, h => simp [notPut] at h
theorem carA_nilY (xs : List Atm) (h : notPut xs = true) : carA xs [] = some ([], []) := by
  match xs, h with
  | [], _ => rw [carA]
  | .k :: _, _ => rw [carA]
  | .d _ :: _, _ => rw [carA]
  | .p _ :: _, h => simp [notPut] at h
/-- the answer, from here on, with both builders at hand -/
def carT (U V : Bld) (n : Nat) (xs ys : List Atm) : Option (List Stp × List Stp × Nat) := (carA xs ys).map fun o => ((U.run o.1).close.l, (V.run o.2).close.l, n + toA o.1)
theorem carT_p1 (U V : Bld) (n : Nat) (b : UInt8) (xs ys : List Atm) : carT U V n (.p b :: xs) ys = carT ⟨U.l, U.p ++ [b], U.d⟩ (V.keep 1) (n + 1) xs ys := by
  unfold carT
  rw [carA_px, Option.map_map]
  congr 1; funext o
  simp only [Function.comp, toA]
  rw [show n + (toA o.1 + 1) = n + 1 + toA o.1 by omega]; rfl
theorem carT_q1 (U V : Bld) (n : Nat) (b : UInt8) (xs ys : List Atm) (h : notPut xs = true) : carT U V n xs (.p b :: ys) = carT (U.keep 1) ⟨V.l, V.p ++ [b], V.d⟩ (n + 1) xs ys := by
  unfold carT
  rw [carA_py _ _ _ h, Option.map_map]
  congr 1; funext o
  simp only [Function.comp, toA]
  rw [show n + (toA o.1 + 1) = n + 1 + toA o.1 by omega]; rfl
theorem keep_zero (B : Bld) : B.keep ((0 : Nat) : Int) = B := rfl
theorem keep_succ (B : Bld) (n : Nat) : (B.keep 1).keep (n : Int) = B.keep ((n + 1 : Nat) : Int) := by
  by_cases h : n = 0
  · subst h; rfl
  · rw [keep_keep _ _ _ (by omega) (by omega)]; congr 1; omega
theorem carT_p (xs ys : List Atm) : ∀ (P : List UInt8) (U V : Bld) (n : Nat), carT U V n (P.map .p ++ xs) ys = carT ⟨U.l, U.p ++ P, U.d⟩ (V.keep (P.length : Int)) (n + P.length) xs ys
  | [], U, V, n => by rw [List.length_nil, keep_zero]; simp
  | b :: P, U, V, n => by
    rw [List.map_cons, List.cons_append, carT_p1, carT_p xs ys P, keep_succ, List.length_cons]
    simp only [List.append_assoc, List.singleton_append]
    congr 1; omega
theorem carT_q (xs ys : List Atm) (h : notPut xs = true) : ∀ (P : List UInt8) (U V : Bld) (n : Nat), carT U V n xs (P.map .p ++ ys) = carT (U.keep (P.length : Int)) ⟨V.l, V.p ++ P, V.d⟩ (n + P.length) xs ys
  | [], U, V, n => by rw [List.length_nil, keep_zero]; simp
  | b :: P, U, V, n => by
    rw [List.map_cons, List.cons_append, carT_q1 _ _ _ _ _ _ h, carT_q xs ys h P, keep_succ, List.length_cons]
    simp only [List.append_assoc, List.singleton_append]
    congr 1; omega
theorem carT_kk (xs ys : List Atm) : ∀ (m : Nat) (U V : Bld) (n : Nat), carT U V n (List.replicate m .k ++ xs) (List.replicate m .k ++ ys) = carT (U.keep (m : Int)) (V.keep (m : Int)) (n + m) xs ys
  | 0, U, V, n => by simp [keep_zero, show U.keep 0 = U from rfl, show V.keep 0 = V from rfl]
  | m + 1, U, V, n => by
    have e : carT U V n (.k :: (List.replicate m .k ++ xs)) (.k :: (List.replicate m .k ++ ys)) = carT (U.keep 1) (V.keep 1) (n + 1) (List.replicate m .k ++ xs) (List.replicate m .k ++ ys) := by
      unfold carT
      rw [carA, Option.map_map]
      congr 1; funext o
      simp only [Function.comp, toA]
      rw [show n + (toA o.1 + 1) = n + 1 + toA o.1 by omega]; rfl
    rw [List.replicate_succ, List.cons_append, List.cons_append, e, carT_kk xs ys m, keep_succ, keep_succ]
    congr 1; omega
theorem carT_dk (xs ys : List Atm) : ∀ (ds : List UInt8) (U V : Bld) (n : Nat), carT U V n (ds.map .d ++ xs) (List.replicate ds.length .k ++ ys) = carT ⟨U.l, U.p, U.d ++ ds⟩ V n xs ys
  | [], U, V, n => by simp
  | b :: ds, U, V, n => by
    have e : carT U V n (.d b :: (ds.map .d ++ xs)) (.k :: (List.replicate ds.length .k ++ ys)) = carT ⟨U.l, U.p, U.d ++ [b]⟩ V n (ds.map .d ++ xs) (List.replicate ds.length .k ++ ys) := by
      unfold carT
      rw [carA, Option.map_map]
      congr 1
    rw [List.map_cons, List.length_cons, List.replicate_succ, List.cons_append, List.cons_append, e, carT_dk xs ys ds]
    simp
theorem carT_kd (xs ys : List Atm) : ∀ (ds : List UInt8) (U V : Bld) (n : Nat), carT U V n (List.replicate ds.length .k ++ xs) (ds.map .d ++ ys) = carT U ⟨V.l, V.p, V.d ++ ds⟩ n xs ys
  | [], U, V, n => by simp
  | b :: ds, U, V, n => by
    have e : carT U V n (.k :: (List.replicate ds.length .k ++ xs)) (.d b :: (ds.map .d ++ ys)) = carT U ⟨V.l, V.p, V.d ++ [b]⟩ n (List.replicate ds.length .k ++ xs) (ds.map .d ++ ys) := by
      unfold carT
      rw [carA, Option.map_map]
      congr 1
    rw [List.map_cons, List.length_cons, List.replicate_succ, List.cons_append, List.cons_append, e, carT_kd xs ys ds]
    simp
theorem carT_dd (xs ys : List Atm) (U V : Bld) (n : Nat) : ∀ (ds es : List UInt8), ds.length = es.length → carT U V n (ds.map .d ++ xs) (es.map .d ++ ys) = if ds = es then carT U V n xs ys else none
  | [], [], _ => by simp
  | b :: ds, c :: es, h => by
    have e : carT U V n (.d b :: (ds.map .d ++ xs)) (.d c :: (es.map .d ++ ys)) = if b = c then carT U V n (ds.map .d ++ xs) (es.map .d ++ ys) else none := by
      unfold carT
      rw [carA]
      split <;> rfl
    rw [List.map_cons, List.map_cons, List.cons_append, List.cons_append, e, carT_dd xs ys U V n ds es (by simpa using h)]
    by_cases hb : b = c
    · subst hb; simp
    · simp [hb]
  | [], _ :: _, h => by simp at h
  | _ :: _, [], h => by simp at h
theorem carT_nilX (U V : Bld) (n : Nat) (ys : List Atm) (h : notPut ys = true) : carT U V n [] ys = some (U.close.l, V.close.l, n) := by
  unfold carT; rw [carA_nilX _ h]; rfl
theorem carT_nilY (U V : Bld) (n : Nat) (xs : List Atm) (h : notPut xs = true) : carT U V n xs [] = some (U.close.l, V.close.l, n) := by
  unfold carT; rw [carA_nilY _ h]; rfl
/-- the same step by step -/
theorem cst_px {U V : Bld} {n : Nat} {X Y : List Stp} {s : Stp} (hs : stpOk s) (hp : s.p ≠ []) : carT U V n (atomsOf (s :: X)) (atomsOf Y) = carT (U.step s) (V.keep (s.p.length : Int)) (n + s.p.length) (atomsOf X) (atomsOf Y) := by
  rcases step_kinds hs with ⟨h1, h2, h3, e⟩ | ⟨h1, h2, h3, e⟩ | ⟨h1, h2, h3, e⟩
  · exact absurd h3 hp
  · exact absurd h3 hp
  · rw [atoms_cons, e, carT_p]
    congr 1
    unfold Bld.step; rw [if_neg (by omega), if_neg (fun h => h h2)]
theorem cst_py {U V : Bld} {n : Nat} {X Y : List Stp} {t : Stp} (ht : stpOk t) (hp : t.p ≠ []) (hX : ∀ x ∈ X, stpOk x) (hq : ∀ s X', X = s :: X' → s.p = []) : carT U V n (atomsOf X) (atomsOf (t :: Y)) = carT (U.keep (t.p.length : Int)) (V.step t) (n + t.p.length) (atomsOf X) (atomsOf Y) := by
  rcases step_kinds ht with ⟨h1, h2, h3, e⟩ | ⟨h1, h2, h3, e⟩ | ⟨h1, h2, h3, e⟩
  · exact absurd h3 hp
  · exact absurd h3 hp
  · rw [atoms_cons, e, carT_q _ _ (notPut_atoms hX hq)]
    congr 1
    unfold Bld.step; rw [if_neg (by omega), if_neg (fun h => h h2)]
theorem step_k {B : Bld} {s : Stp} (h : 0 < s.k) : B.step s = B.keep s.k := by unfold Bld.step; rw [if_pos h]
theorem step_d {B : Bld} {s : Stp} (h : ¬ 0 < s.k) (h2 : s.d ≠ []) : B.step s = ⟨B.l, B.p, B.d ++ s.d⟩ := by unfold Bld.step; rw [if_neg h, if_pos h2]
theorem cst_both {U V : Bld} {q : Nat} {X Y : List Stp} {s t : Stp} {n : Nat} (hX : ∀ x ∈ s :: X, stpOk x) (hY : ∀ y ∈ t :: Y, stpOk y) (hs0 : s.p = []) (ht0 : t.p = []) (h0 : 0 < n) (hs : n ≤ s.atoms.length) (ht : n ≤ t.atoms.length) :
    carT U V q (atomsOf (s :: X)) (atomsOf (t :: Y)) =
      if 0 < (takeS s n).k ∧ 0 < (takeS t n).k then carT (U.keep (n : Int)) (V.keep (n : Int)) (q + n) (atomsOf (restS s n X)) (atomsOf (restS t n Y))
      else if 0 < (takeS s n).k then carT U (V.step (takeS t n)) q (atomsOf (restS s n X)) (atomsOf (restS t n Y))
      else if 0 < (takeS t n).k then carT (U.step (takeS s n)) V q (atomsOf (restS s n X)) (atomsOf (restS t n Y))
      else if (takeS s n).d = (takeS t n).d then carT U V q (atomsOf (restS s n X)) (atomsOf (restS t n Y)) else none := by
  have a1 := takeS_kind (hX s List.mem_cons_self) h0 hs
  have a2 := takeS_kind (hY t List.mem_cons_self) h0 ht
  have o1 := (takeS_ok (hX s List.mem_cons_self) h0 hs).1
  have o2 := (takeS_ok (hY t List.mem_cons_self) h0 ht).1
  rw [parts_S hX h0 hs, parts_S hY h0 ht]
  generalize takeS s n = s1 at *
  generalize takeS t n = t1 at *
  have p1 : s1.p = [] := a1.2.2.1.2 hs0
  have p2 : t1.p = [] := a2.2.2.1.2 ht0
  have l1 := a1.2.2.2
  have l2 := a2.2.2.2
  rcases step_kinds o1 with ⟨h1, h2, h3, e⟩ | ⟨h1, h2, h3, e⟩ | ⟨h1, h2, h3, e⟩
  · have el : s1.k.toNat = n := by rw [e] at l1; simpa using l1
    rcases step_kinds o2 with ⟨g1, g2, g3, f⟩ | ⟨g1, g2, g3, f⟩ | ⟨g1, g2, g3, f⟩
    · have el2 : t1.k.toNat = n := by rw [f] at l2; simpa using l2
      rw [if_pos ⟨h1, g1⟩, e, f, el, el2, carT_kk]
    · have el2 : t1.d.length = n := by rw [f] at l2; simpa using l2
      rw [if_neg (by omega), if_pos h1, e, f, el, ← el2, carT_kd, step_d (by omega) g2]
    · exact absurd p2 g3
  · have el : s1.d.length = n := by rw [e] at l1; simpa using l1
    rcases step_kinds o2 with ⟨g1, g2, g3, f⟩ | ⟨g1, g2, g3, f⟩ | ⟨g1, g2, g3, f⟩
    · have el2 : t1.k.toNat = n := by rw [f] at l2; simpa using l2
      rw [if_neg (by omega), if_neg (by omega), if_pos g1, e, f, el2, ← el, carT_dk, step_d (by omega) h2]
    · have el2 : t1.d.length = n := by rw [f] at l2; simpa using l2
      rw [if_neg (by omega), if_neg (by omega), if_neg (by omega), e, f, carT_dd _ _ _ _ _ _ _ (by omega)]
    · exact absurd p2 g3
  · exact absurd p1 h3
theorem cst_nilX {U V : Bld} {n : Nat} {Y : List Stp} (hY : ∀ y ∈ Y, stpOk y) (hp : ∀ t Y', Y = t :: Y' → t.p = []) : carT U V n (atomsOf []) (atomsOf Y) = some (U.close.l, V.close.l, n) := carT_nilX _ _ _ _ (notPut_atoms hY hp)
theorem cst_nilY {U V : Bld} {n : Nat} {X : List Stp} (hX : ∀ x ∈ X, stpOk x) (hp : ∀ s X', X = s :: X' → s.p = []) : carT U V n (atomsOf X) (atomsOf []) = some (U.close.l, V.close.l, n) := carT_nilY _ _ _ _ (notPut_atoms hX hp)
/-- what two changes carried over each other come to -/
def carP (a b : List Stp) : Int ⊕ (List Stp × List Stp) := match sizesOf a, sizesOf b with
  | some (from_, _), some (same, _) => if from_ ≠ same then .inl 5 else match carT Bld.start Bld.start 0 (nfOf (gapsOf a)) (nfOf (gapsOf b)) with
    | none => .inl 270
    | some (u, v, n) => if 65536 < n then .inl 3 else .inr (u, v)
  | _, _ => .inl 2
/-- the same place by place, as the reference goes -/
theorem car_pos {U V : Bld} {n : Nat} {x y : Pos} {ps qs : List Pos} {lx ly : List UInt8} :
    carT U V n (sdA (x :: ps) lx) (sdA (y :: qs) ly) = (let U1 := (⟨U.l, U.p ++ x.1, U.d⟩ : Bld).keep (y.1.length : Int)
      let V0 := V.keep (x.1.length : Int)
      let V1 : Bld := ⟨V0.l, V0.p ++ y.1, V0.d⟩
      let n1 := n + x.1.length + y.1.length
      if x.2.1 = true ∧ y.2.1 = true then (if x.2.2 = y.2.2 then carT U1 V1 n1 (sdA ps lx) (sdA qs ly) else none)
      else if x.2.1 = true then carT ⟨U1.l, U1.p, U1.d ++ [x.2.2]⟩ V1 n1 (sdA ps lx) (sdA qs ly)
      else if y.2.1 = true then carT U1 ⟨V1.l, V1.p, V1.d ++ [y.2.2]⟩ n1 (sdA ps lx) (sdA qs ly)
      else carT (U1.keep 1) (V1.keep 1) (n1 + 1) (sdA ps lx) (sdA qs ly)) := by
  simp only []
  have hnp : notPut ((if x.2.1 then .d x.2.2 else .k) :: sdA ps lx) = true := by cases x.2.1 <;> rfl
  rw [sdA_cons, sdA_cons, carT_p, carT_q _ _ hnp]
  cases hx : x.2.1 <;> cases hy : y.2.1 <;> simp only [Bool.false_eq_true, if_false, if_true, and_self, and_false, false_and, and_true]
  · exact carT_kk (sdA ps lx) (sdA qs ly) 1 _ _ _
  · exact carT_kd (sdA ps lx) (sdA qs ly) [y.2.2] _ _ _
  · exact carT_dk (sdA ps lx) (sdA qs ly) [x.2.2] _ _ _
  · have := carT_dd (sdA ps lx) (sdA qs ly) ((⟨U.l, U.p ++ x.1, U.d⟩ : Bld).keep (y.1.length : Int)) ⟨(V.keep (x.1.length : Int)).l, (V.keep (x.1.length : Int)).p ++ y.1, (V.keep (x.1.length : Int)).d⟩ (n + x.1.length + y.1.length) [x.2.2] [y.2.2] rfl
    simpa using this
theorem car_last {U V : Bld} {n : Nat} {lx ly : List UInt8} :
    carT U V n (sdA [] lx) (sdA [] ly) = (let U1 := (⟨U.l, U.p ++ lx, U.d⟩ : Bld).keep (ly.length : Int)
      let V0 := V.keep (lx.length : Int)
      some (U1.close.l, (⟨V0.l, V0.p ++ ly, V0.d⟩ : Bld).close.l, n + lx.length + ly.length)) := by
  simp only []
  rw [sdA_nil, sdA_nil]
  have h1 := carT_p [] (ly.map .p) lx U V n
  have h2 := fun U V n => carT_q [] [] rfl ly U V n
  rw [List.append_nil] at h1
  simp only [List.append_nil] at h2
  rw [h1, h2, carT_nilX _ _ _ _ rfl]
end Go.Eng

/-
  Plain facts on changes: carried over each other they come to one text; one behind the other the same. No condition.
-/
namespace Go.Eng
open Go
/-- carried over each other, two changes of one text come to one text -/
theorem conv_car : ∀ (A B : List Atm) (s t u : List UInt8), applyA s A = some t → applyA s B = some u → fromA A = s.length → fromA B = s.length →
    ∃ O U v, carA A B = some (O, U) ∧ applyA t U = some v ∧ applyA u O = some v ∧ fromA U = t.length ∧ fromA O = u.length ∧ toA O = v.length ∧ toA U = v.length ∧ v.length ≤ t.length + u.length
  | .p b :: A, B, s, t, u, h1, h2, h3, h4 => by
    rw [applyA_p] at h1
    obtain ⟨t', h1', rfl⟩ := Option.map_eq_some_iff.1 h1
    obtain ⟨O, U, v, e1, e2, e3, e4, e5, e6, e7, e8⟩ := conv_car A B s t' u h1' h2 (by simpa [fromA] using h3) h4
    refine ⟨.p b :: O, .k :: U, b :: v, by rw [carA_px, e1]; rfl, by rw [applyA, e2]; rfl, by rw [applyA_p, e3]; rfl, ?_, ?_, ?_, ?_, ?_⟩ <;> (try simp only [fromA, toA, List.length_cons]) <;> omega
  | .k :: A, .p b :: B, s, t, u, h1, h2, h3, h4 => by
    rw [applyA_p] at h2
    obtain ⟨u', h2', rfl⟩ := Option.map_eq_some_iff.1 h2
    obtain ⟨O, U, v, e1, e2, e3, e4, e5, e6, e7, e8⟩ := conv_car (.k :: A) B s t u' h1 h2' h3 (by simpa [fromA] using h4)
    refine ⟨.k :: O, .p b :: U, b :: v, by rw [carA_py _ _ _ rfl, e1]; rfl, by rw [applyA_p, e2]; rfl, by rw [applyA, e3]; rfl, ?_, ?_, ?_, ?_, ?_⟩ <;> (try simp only [fromA, toA, List.length_cons]) <;> omega
  | .d c :: A, .p b :: B, s, t, u, h1, h2, h3, h4 => by
    rw [applyA_p] at h2
    obtain ⟨u', h2', rfl⟩ := Option.map_eq_some_iff.1 h2
    obtain ⟨O, U, v, e1, e2, e3, e4, e5, e6, e7, e8⟩ := conv_car (.d c :: A) B s t u' h1 h2' h3 (by simpa [fromA] using h4)
    refine ⟨.k :: O, .p b :: U, b :: v, by rw [carA_py _ _ _ rfl, e1]; rfl, by rw [applyA_p, e2]; rfl, by rw [applyA, e3]; rfl, ?_, ?_, ?_, ?_, ?_⟩ <;> (try simp only [fromA, toA, List.length_cons]) <;> omega
  | [], .p b :: B, s, t, u, h1, h2, h3, h4 => by
    rw [applyA_p] at h2
    obtain ⟨u', h2', rfl⟩ := Option.map_eq_some_iff.1 h2
    obtain ⟨O, U, v, e1, e2, e3, e4, e5, e6, e7, e8⟩ := conv_car [] B s t u' h1 h2' h3 (by simpa [fromA] using h4)
    refine ⟨.k :: O, .p b :: U, b :: v, by rw [carA_py _ _ _ rfl, e1]; rfl, by rw [applyA_p, e2]; rfl, by rw [applyA, e3]; rfl, ?_, ?_, ?_, ?_, ?_⟩ <;> (try simp only [fromA, toA, List.length_cons]) <;> omega
  | .k :: A, .k :: B, [], t, u, h1, h2, h3, h4 => by simp [fromA] at h3
  | .k :: A, .k :: B, c :: s, t, u, h1, h2, h3, h4 => by
    rw [applyA] at h1
    rw [applyA] at h2
    obtain ⟨t', h1', rfl⟩ := Option.map_eq_some_iff.1 h1
    obtain ⟨u', h2', rfl⟩ := Option.map_eq_some_iff.1 h2
    obtain ⟨O, U, v, e1, e2, e3, e4, e5, e6, e7, e8⟩ := conv_car A B s t' u' h1' h2' (by simpa [fromA] using h3) (by simpa [fromA] using h4)
    refine ⟨.k :: O, .k :: U, c :: v, by rw [carA, e1]; rfl, by rw [applyA, e2]; rfl, by rw [applyA, e3]; rfl, ?_, ?_, ?_, ?_, ?_⟩ <;> (try simp only [fromA, toA, List.length_cons]) <;> omega
  | .d b :: A, .k :: B, [], t, u, h1, h2, h3, h4 => by simp [fromA] at h3
  | .d b :: A, .k :: B, c :: s, t, u, h1, h2, h3, h4 => by
    rw [applyA] at h1
    rw [applyA] at h2
    split at h1
    · rename_i hcb
      subst hcb
      obtain ⟨u', h2', rfl⟩ := Option.map_eq_some_iff.1 h2
      obtain ⟨O, U, v, e1, e2, e3, e4, e5, e6, e7, e8⟩ := conv_car A B s t u' h1 h2' (by simpa [fromA] using h3) (by simpa [fromA] using h4)
      refine ⟨.d c :: O, U, v, by rw [carA, e1]; rfl, e2, by rw [applyA, if_pos rfl]; exact e3, ?_, ?_, ?_, ?_, ?_⟩ <;> (try simp only [fromA, toA, List.length_cons]) <;> omega
    · cases h1
  | .k :: A, .d b :: B, [], t, u, h1, h2, h3, h4 => by simp [fromA] at h3
  | .k :: A, .d b :: B, c :: s, t, u, h1, h2, h3, h4 => by
    rw [applyA] at h1
    rw [applyA] at h2
    split at h2
    · rename_i hcb
      subst hcb
      obtain ⟨t', h1', rfl⟩ := Option.map_eq_some_iff.1 h1
      obtain ⟨O, U, v, e1, e2, e3, e4, e5, e6, e7, e8⟩ := conv_car A B s t' u h1' h2 (by simpa [fromA] using h3) (by simpa [fromA] using h4)
      refine ⟨O, .d c :: U, v, by rw [carA, e1]; rfl, by rw [applyA, if_pos rfl]; exact e2, e3, ?_, ?_, ?_, ?_, ?_⟩ <;> (try simp only [fromA, toA, List.length_cons]) <;> omega
    · cases h2
  | .d b :: A, .d b' :: B, [], t, u, h1, h2, h3, h4 => by simp [fromA] at h3
  | .d b :: A, .d b' :: B, c :: s, t, u, h1, h2, h3, h4 => by
    rw [applyA] at h1
    rw [applyA] at h2
    split at h1
    · split at h2
      · rename_i g1 g2
        subst g1; subst g2
        obtain ⟨O, U, v, e1, e2, e3, e4, e5, e6, e7, e8⟩ := conv_car A B s t u h1 h2 (by simpa [fromA] using h3) (by simpa [fromA] using h4)
        exact ⟨O, U, v, by rw [carA, if_pos rfl]; exact e1, e2, e3, e4, e5, e6, e7, e8⟩
      · cases h2
    · cases h1
  | [], [], s, t, u, h1, h2, h3, h4 => by
    rw [applyA_nil] at h1 h2
    cases h1; cases h2
    exact ⟨[], [], [], by rw [carA], rfl, rfl, rfl, rfl, rfl, rfl, Nat.zero_le _⟩
  | [], .k :: B, s, t, u, h1, h2, h3, h4 => by simp only [fromA] at h3 h4; omega
  | [], .d _ :: B, s, t, u, h1, h2, h3, h4 => by simp only [fromA] at h3 h4; omega
  | .k :: A, [], s, t, u, h1, h2, h3, h4 => by simp only [fromA] at h3 h4; omega
  | .d _ :: A, [], s, t, u, h1, h2, h3, h4 => by simp only [fromA] at h3 h4; omega
termination_by A B => A.length + B.length
/-- one behind the other -/
theorem conv_comp : ∀ (A B : List Atm) (s t v : List UInt8), applyA s A = some t → applyA t B = some v → fromA A = s.length → fromA B = t.length →
    ∃ C, compA A B = some C ∧ applyA s C = some v ∧ fromA C = s.length ∧ toA C = v.length
  | A, .p b :: B, s, t, v, h1, h2, h3, h4 => by
    rw [applyA_p] at h2
    obtain ⟨v', h2', rfl⟩ := Option.map_eq_some_iff.1 h2
    obtain ⟨C, e1, e2, e3, e4⟩ := conv_comp A B s t v' h1 h2' h3 (by simpa [fromA] using h4)
    exact ⟨.p b :: C, by rw [compA_p, e1]; rfl, by rw [applyA_p, e2]; rfl, by simpa [fromA] using e3, by simp [toA, e4]⟩
  | .d b :: A, .k :: B, [], t, v, h1, h2, h3, h4 => by simp [fromA] at h3
  | .d b :: A, .k :: B, c :: s, t, v, h1, h2, h3, h4 => by
    rw [applyA] at h1
    split at h1
    · rename_i g
      subst g
      obtain ⟨C, e1, e2, e3, e4⟩ := conv_comp A (.k :: B) s t v h1 h2 (by simpa [fromA] using h3) h4
      exact ⟨.d c :: C, by rw [compA_d _ _ _ rfl, e1]; rfl, by rw [applyA, if_pos rfl]; exact e2, by simp [fromA, e3], by simpa [toA] using e4⟩
    · cases h1
  | .d b :: A, .d b' :: B, [], t, v, h1, h2, h3, h4 => by simp [fromA] at h3
  | .d b :: A, .d b' :: B, c :: s, t, v, h1, h2, h3, h4 => by
    rw [applyA] at h1
    split at h1
    · rename_i g
      subst g
      obtain ⟨C, e1, e2, e3, e4⟩ := conv_comp A (.d b' :: B) s t v h1 h2 (by simpa [fromA] using h3) h4
      exact ⟨.d c :: C, by rw [compA_d _ _ _ rfl, e1]; rfl, by rw [applyA, if_pos rfl]; exact e2, by simp [fromA, e3], by simpa [toA] using e4⟩
    · cases h1
  | .d b :: A, [], [], t, v, h1, h2, h3, h4 => by simp [fromA] at h3
  | .d b :: A, [], c :: s, t, v, h1, h2, h3, h4 => by
    rw [applyA] at h1
    split at h1
    · rename_i g
      subst g
      obtain ⟨C, e1, e2, e3, e4⟩ := conv_comp A [] s t v h1 h2 (by simpa [fromA] using h3) h4
      exact ⟨.d c :: C, by rw [compA_d _ _ _ rfl, e1]; rfl, by rw [applyA, if_pos rfl]; exact e2, by simp [fromA, e3], by simpa [toA] using e4⟩
    · cases h1
  | .k :: A, .k :: B, [], t, v, h1, h2, h3, h4 => by simp [fromA] at h3
  | .k :: A, .k :: B, c :: s, t, v, h1, h2, h3, h4 => by
    rw [applyA] at h1
    obtain ⟨t', h1', rfl⟩ := Option.map_eq_some_iff.1 h1
    rw [applyA] at h2
    obtain ⟨v', h2', rfl⟩ := Option.map_eq_some_iff.1 h2
    obtain ⟨C, e1, e2, e3, e4⟩ := conv_comp A B s t' v' h1' h2' (by simpa [fromA] using h3) (by simpa [fromA] using h4)
    exact ⟨.k :: C, by rw [compA, e1]; rfl, by rw [applyA, e2]; rfl, by simp [fromA, e3], by simp [toA, e4]⟩
  | .k :: A, .d b :: B, [], t, v, h1, h2, h3, h4 => by simp [fromA] at h3
  | .k :: A, .d b :: B, c :: s, t, v, h1, h2, h3, h4 => by
    rw [applyA] at h1
    obtain ⟨t', h1', rfl⟩ := Option.map_eq_some_iff.1 h1
    rw [applyA] at h2
    split at h2
    · rename_i g
      subst g
      obtain ⟨C, e1, e2, e3, e4⟩ := conv_comp A B s t' v h1' h2 (by simpa [fromA] using h3) (by simpa [fromA] using h4)
      exact ⟨.d c :: C, by rw [compA, e1]; rfl, by rw [applyA, if_pos rfl]; exact e2, by simp [fromA, e3], by simpa [toA] using e4⟩
    · cases h2
  | .p b :: A, .k :: B, s, t, v, h1, h2, h3, h4 => by
    rw [applyA_p] at h1
    obtain ⟨t', h1', rfl⟩ := Option.map_eq_some_iff.1 h1
    rw [applyA] at h2
    obtain ⟨v', h2', rfl⟩ := Option.map_eq_some_iff.1 h2
    obtain ⟨C, e1, e2, e3, e4⟩ := conv_comp A B s t' v' h1' h2' (by simpa [fromA] using h3) (by simpa [fromA] using h4)
    exact ⟨.p b :: C, by rw [compA, e1]; rfl, by rw [applyA_p, e2]; rfl, by simpa [fromA] using e3, by simp [toA, e4]⟩
  | .p b :: A, .d c :: B, s, t, v, h1, h2, h3, h4 => by
    rw [applyA_p] at h1
    obtain ⟨t', h1', rfl⟩ := Option.map_eq_some_iff.1 h1
    rw [applyA] at h2
    split at h2
    · rename_i g
      subst g
      obtain ⟨C, e1, e2, e3, e4⟩ := conv_comp A B s t' v h1' h2 (by simpa [fromA] using h3) (by simpa [fromA] using h4)
      exact ⟨C, by rw [compA, if_pos rfl]; exact e1, e2, e3, e4⟩
    · cases h2
  | [], [], s, t, v, h1, h2, h3, h4 => by
    rw [applyA_nil] at h1
    cases h1
    rw [applyA_nil] at h2
    cases h2
    exact ⟨[], by rw [compA], applyA_nil _, h3, rfl⟩
  | [], .k :: B, s, t, v, h1, h2, h3, h4 => by
    rw [applyA_nil] at h1
    cases h1
    simp [fromA] at h4
  | [], .d _ :: B, s, t, v, h1, h2, h3, h4 => by
    rw [applyA_nil] at h1
    cases h1
    simp [fromA] at h4
  | .k :: A, [], [], t, v, h1, h2, h3, h4 => by simp [fromA] at h3
  | .k :: A, [], c :: s, t, v, h1, h2, h3, h4 => by
    rw [applyA] at h1
    obtain ⟨t', h1', rfl⟩ := Option.map_eq_some_iff.1 h1
    simp [fromA] at h4
  | .p b :: A, [], s, t, v, h1, h2, h3, h4 => by
    rw [applyA_p] at h1
    obtain ⟨t', h1', rfl⟩ := Option.map_eq_some_iff.1 h1
    simp [fromA] at h4
termination_by A B => A.length + B.length
/-- what a change makes does not depend on the order of what is put and dropped -/
theorem apply_congr (X Y : List Atm) (h : ∀ s, applyA s X = applyA s Y) : ∀ (pre : List Atm) (s : List UInt8), applyA s (pre ++ X) = applyA s (pre ++ Y)
  | [], s => h s
  | .p b :: pre, s => by rw [List.cons_append, List.cons_append, applyA_p, applyA_p, apply_congr X Y h pre s]
  | .k :: pre, [] => rfl
  | .k :: pre, c :: s => by rw [List.cons_append, List.cons_append, applyA, applyA, apply_congr X Y h pre s]
  | .d b :: pre, [] => rfl
  | .d b :: pre, c :: s => by rw [List.cons_append, List.cons_append, applyA, applyA, apply_congr X Y h pre s]
theorem applyA_dc (c b : UInt8) (s : List UInt8) (l : List Atm) : applyA (c :: s) (.d b :: l) = if c = b then applyA s l else none := rfl
theorem apply_swap (c : UInt8) (L : List Atm) : ∀ (ds s : List UInt8), applyA s (ds.map .d ++ .p c :: L) = applyA s (.p c :: (ds.map .d ++ L))
  | [], s => rfl
  | b :: ds, [] => by rw [applyA_p]; rfl
  | b :: ds, e :: s => by
    rw [List.map_cons, List.cons_append, List.cons_append, applyA_dc, apply_swap c L ds s, applyA_p, applyA_p, applyA_dc]
    split <;> rfl
theorem apply_atom (g : Gs) (a : Atm) (L : List Atm) (s : List UInt8) : applyA s (nfOf (g.atom a) ++ L) = applyA s (nfOf g ++ a :: L) := by
  cases a with
  | k => simp [Gs.atom, nfOf, gapA]
  | d c => simp [Gs.atom, nfOf, gapA]
  | p c =>
    simp only [Gs.atom, nfOf, gapA, List.map_append, List.map_cons, List.map_nil, List.append_assoc, List.cons_append, List.nil_append]
    rw [← List.append_assoc, ← List.append_assoc (g.done.flatMap _)]
    exact apply_congr _ _ (fun s => (apply_swap c L g.cur.d s).symm) _ s
theorem apply_run : ∀ (L : List Atm) (g : Gs) (s : List UInt8), applyA s (nfOf (g.run L)) = applyA s (nfOf g ++ L)
  | [], g, s => by rw [List.append_nil]; rfl
  | a :: L, g, s => by
    rw [show g.run (a :: L) = (g.atom a).run L from rfl, apply_run L (g.atom a) s, apply_atom]
theorem apply_start (L : List Atm) (s : List UInt8) : applyA s (nfOf (Gs.start.run L)) = applyA s L := apply_run L Gs.start s
theorem apply_nf (l : List Stp) (h : ∀ s ∈ l, stpOk s) (s : List UInt8) : applyA s (nfOf (gapsOf l)) = applyA s (atomsOf l) := by rw [gapsOf_run l h, apply_start]
/-- the builder over bytes is the builder over gaps -/
theorem bld_atom (g : Gs) (a : Atm) : (bldGs g).atom a = bldGs (g.atom a) := by
  cases a with
  | k => simp [Bld.atom, bldGs, Gs.atom, bldGap]
  | d c => simp [Bld.atom, bldGs, Gs.atom]
  | p c => simp [Bld.atom, bldGs, Gs.atom]
theorem bld_run : ∀ (L : List Atm) (g : Gs), (bldGs g).run L = bldGs (g.run L)
  | [], _ => rfl
  | a :: L, g => by
    rw [show g.run (a :: L) = (g.atom a).run L from rfl, ← bld_run L (g.atom a), ← bld_atom]; rfl
theorem start_run (L : List Atm) : Bld.start.run L = bldGs (Gs.start.run L) := bld_run L Gs.start
/-- the list that a builder makes of bytes -/
def listOf (L : List Atm) : List Stp := (Bld.start.run L).close.l
theorem list_ok (L : List Atm) : (∀ s ∈ listOf L, stpOk s) ∧ atomsOf (listOf L) = nfOf (Gs.start.run L) := by
  unfold listOf
  rw [start_run]
  exact ⟨close_ok _ (bldGs_atoms _).2, by rw [close_atoms, (bldGs_atoms _).1]⟩
theorem run_nf (g : Gs) : Gs.start.run (nfOf g) = g := by
  have h : ∀ (l : List Gap) (D : List Gap), (⟨D, ⟨[], []⟩⟩ : Gs).run (l.flatMap fun x => gapA x ++ [.k]) = ⟨D ++ l, ⟨[], []⟩⟩ := by
    intro l
    induction l with
    | nil => intro D; simp [Gs.run]
    | cons x l ih =>
      intro D
      rw [List.flatMap_cons, grun_append, grun_append, gapA, grun_append, grun_p, grun_d]
      have : (⟨D, ⟨[] ++ x.p, [] ++ x.d⟩⟩ : Gs).run [.k] = ⟨D ++ [x], ⟨[], []⟩⟩ := by simp [Gs.run, Gs.atom]
      rw [this, ih]; simp
  obtain ⟨D, c⟩ := g
  unfold nfOf
  rw [grun_append, show Gs.start = ⟨[], ⟨[], []⟩⟩ from rfl, h, gapA, grun_append, grun_p, grun_d]
  simp
theorem list_gaps (L : List Atm) : gapsOf (listOf L) = Gs.start.run L := by
  rw [gapsOf_run _ (list_ok L).1, (list_ok L).2, run_nf]
theorem list_sizes (L : List Atm) : fromA (atomsOf (listOf L)) = fromA L ∧ toA (atomsOf (listOf L)) = toA L := by
  obtain ⟨h1, h2⟩ := nf_run L Gs.start
  rw [(list_ok L).2, h1, h2]
  simp [Gs.start, nfOf, gapA, fromA, toA]
theorem plain_list (l : List Stp) : plainOf l = listOf (nfOf (gapsOf l)) := plain_run l
/-- sizes of a change that may be, the other way round -/
theorem sizesF_of : ∀ (l : List Stp) (f t : Int), (∀ s ∈ l, stpOk s) → 0 ≤ f → 0 ≤ t → f + (fromA (atomsOf l) : Int) ≤ maxT → t + (toA (atomsOf l) : Int) ≤ maxT → sizesF l f t = some (f + (fromA (atomsOf l) : Int), t + (toA (atomsOf l) : Int))
  | [], f, t, _, _, _, _, _ => by simp [sizesF, atomsOf, fromA, toA]
  | s :: l, f, t, h, h1, h2, h3, h4 => by
    have hs := h s List.mem_cons_self
    have hk : 0 ≤ s.k := by rcases hs with ⟨h, _, _⟩ | ⟨h, _, _⟩ | ⟨h, _, _⟩ <;> omega
    rw [atoms_cons] at h3 h4 ⊢
    rw [fromA_append, from_step] at h3 ⊢
    rw [toA_append, to_step] at h4 ⊢
    rw [sizesF, if_pos ⟨hs, by omega, by omega, by omega⟩, sizesF_of l _ _ (fun x hx => h x (List.mem_cons_of_mem _ hx)) (by omega) (by omega) (by omega) (by omega)]
    simp only [Option.some.injEq, Prod.mk.injEq]
    omega
theorem sizesOf_of {l : List Stp} (h : ∀ s ∈ l, stpOk s) (h1 : fromA (atomsOf l) ≤ 65536) (h2 : toA (atomsOf l) ≤ 65536) : sizesOf l = some ((fromA (atomsOf l) : Int), (toA (atomsOf l) : Int)) := by
  unfold sizesOf
  rw [sizesF_of l 0 0 h (by omega) (by omega) (by unfold maxT; omega) (by unfold maxT; omega)]
  simp
theorem sizes_list (L : List Atm) (h1 : fromA L ≤ 65536) (h2 : toA L ≤ 65536) : sizesOf (listOf L) = some ((fromA L : Int), (toA L : Int)) := by
  obtain ⟨e1, e2⟩ := list_sizes L
  rw [sizesOf_of (list_ok L).1 (by omega) (by omega), e1, e2]
theorem apply_list (L : List Atm) (s : List UInt8) : applyA s (atomsOf (listOf L)) = applyA s L := by rw [(list_ok L).2, apply_start]
/-- how many bytes a change makes of a text -/
theorem apply_len : ∀ (A : List Atm) (s t : List UInt8), applyA s A = some t → t.length = toA A
  | [], s, t, h => by rw [applyA_nil] at h; cases h; rfl
  | .p b :: A, s, t, h => by
    rw [applyA_p] at h
    obtain ⟨t', h', rfl⟩ := Option.map_eq_some_iff.1 h
    simp [toA, apply_len A s t' h']
  | .k :: A, [], t, h => by cases h
  | .k :: A, c :: s, t, h => by
    rw [applyA] at h
    obtain ⟨t', h', rfl⟩ := Option.map_eq_some_iff.1 h
    simp [toA, apply_len A s t' h']
  | .d b :: A, [], t, h => by cases h
  | .d b :: A, c :: s, t, h => by
    rw [applyA] at h
    split at h
    · simpa [toA] using apply_len A s t h
    · cases h
end Go.Eng

/-
  Plain facts on changes: how much composing and carrying make. No condition.
-/
namespace Go.Eng
open Go
theorem compA_len (xs ys : List Atm) : ∀ o, compA xs ys = some o → o.length ≤ xs.length + ys.length := by
  fun_induction compA xs ys <;> intro o h
  all_goals first
    | (simp only [Option.some.injEq] at h; subst h; simp)
    | (rename_i ih; obtain ⟨o', h', rfl⟩ := Option.map_eq_some_iff.1 h; have := ih o' h'; simp only [List.length_cons] at this ⊢; omega)
    | (rename_i ih; have := ih o h; simp only [List.length_cons] at this ⊢; omega)
    | (cases h)
theorem carA_len (xs ys : List Atm) : ∀ o, carA xs ys = some o → o.1.length ≤ xs.length + ys.length ∧ o.2.length ≤ xs.length + ys.length := by
  fun_induction carA xs ys <;> intro o h
  all_goals first
    | (simp only [Option.some.injEq] at h; subst h; simp)
    | (rename_i ih; obtain ⟨o', h', rfl⟩ := Option.map_eq_some_iff.1 h; have := ih o' h'; simp only [List.length_cons] at this ⊢; omega)
    | (rename_i ih; have := ih o h; simp only [List.length_cons] at this ⊢; omega)
    | (cases h)
theorem list_len (L : List Atm) : (listOf L).length ≤ 4 * L.length + 2 := (BFit.close (BFit.runs L)).len
theorem cmpT_list (A B : List Atm) : cmpT Bld.start A B = (compA A B).map listOf := rfl
theorem carT_list (A B : List Atm) : carT Bld.start Bld.start 0 A B = (carA A B).map fun o => (listOf o.1, listOf o.2, 0 + toA o.1) := rfl
/-- what a change that may be is of, in its one form -/
theorem nf_len {l : List Stp} {f t : Int} (h : sizesOf l = some (f, t)) : (nfOf (gapsOf l)).length ≤ 131072 ∧ (fromA (nfOf (gapsOf l)) : Int) = f ∧ (toA (nfOf (gapsOf l)) : Int) = t := by
  obtain ⟨h1, h2, h3, h4, h5⟩ := sizesOf_some h
  have hok : ∀ s ∈ l, stpOk s := fun s hs => (h1 s hs).1
  obtain ⟨n1, n2⟩ := nf_sizes l hok
  have := atoms_le (nfOf (gapsOf l))
  unfold maxT at h4 h5
  omega
end Go.Eng

/-
  Plain facts on changes: turned about; their one form. No condition.
-/
namespace Go.Eng
open Go
def Atm.inv : Atm → Atm
  | .k => .k
  | .d b => .p b
  | .p b => .d b
def Stp.inv (s : Stp) : Stp := ⟨s.k, s.p, s.d⟩
def Gap.inv (g : Gap) : Gap := ⟨g.d, g.p⟩
def Gs.inv (g : Gs) : Gs := ⟨g.done.map Gap.inv, g.cur.inv⟩
theorem inv_ok {s : Stp} (h : stpOk s) : stpOk s.inv := by
  rcases h with ⟨h1, h2, h3⟩ | ⟨h1, h2, h3⟩ | ⟨h1, h2, h3⟩
  · exact .inl ⟨h1, h3, h2⟩
  · exact .inr (.inr ⟨h1, h3, h2⟩)
  · exact .inr (.inl ⟨h1, h3, h2⟩)
theorem inv_atoms {s : Stp} (h : stpOk s) : s.inv.atoms = s.atoms.map Atm.inv := by
  have hk : ∀ n, (List.replicate n Atm.k).map Atm.inv = List.replicate n Atm.k := fun n => by simp [Atm.inv]
  have hd : ∀ l : List UInt8, (l.map Atm.d).map Atm.inv = l.map Atm.p := fun l => by rw [List.map_map]; rfl
  have hp : ∀ l : List UInt8, (l.map Atm.p).map Atm.inv = l.map Atm.d := fun l => by rw [List.map_map]; rfl
  rcases h with ⟨h1, h2, h3⟩ | ⟨h1, h2, h3⟩ | ⟨h1, h2, h3⟩ <;> simp only [Stp.atoms, Stp.inv, h1, h2, h3, List.map_append, hk, hd, hp, List.map_nil, List.append_nil, List.nil_append]
  all_goals simp
theorem inv_ps (l : List UInt8) : (l.map Atm.p).map Atm.inv = l.map Atm.d := by rw [List.map_map]; rfl
theorem fromA_le : ∀ l : List Atm, fromA l ≤ l.length
  | [] => Nat.le_refl _
  | .k :: l => by have := fromA_le l; simp only [fromA, List.length_cons]; omega
  | .d _ :: l => by have := fromA_le l; simp only [fromA, List.length_cons]; omega
  | .p _ :: l => by have := fromA_le l; simp only [fromA, List.length_cons]; omega
theorem inv_all : ∀ (l : List Stp), (∀ s ∈ l, stpOk s) → atomsOf (l.map Stp.inv) = (atomsOf l).map Atm.inv
  | [], _ => rfl
  | s :: l, h => by
    rw [List.map_cons, atoms_cons, atoms_cons, List.map_append, inv_atoms (h s List.mem_cons_self), inv_all l (fun x hx => h x (List.mem_cons_of_mem _ hx))]
theorem gs_inv_atom (g : Gs) (a : Atm) : g.inv.atom a.inv = (g.atom a).inv := by
  cases a <;> simp [Gs.inv, Gs.atom, Atm.inv, Gap.inv]
theorem gs_inv_run : ∀ (L : List Atm) (g : Gs), g.inv.run (L.map Atm.inv) = (g.run L).inv
  | [], _ => rfl
  | a :: L, g => by
    rw [List.map_cons, show g.inv.run (a.inv :: L.map Atm.inv) = (g.inv.atom a.inv).run (L.map Atm.inv) from rfl, gs_inv_atom, gs_inv_run L (g.atom a)]; rfl
theorem start_inv (L : List Atm) : Gs.start.run (L.map Atm.inv) = (Gs.start.run L).inv := gs_inv_run L Gs.start
theorem gs_inv_inv (g : Gs) : g.inv.inv = g := by
  obtain ⟨d, c⟩ := g
  simp only [Gs.inv, List.map_map, Gap.inv]
  congr 1
  conv => rhs; rw [← List.map_id d]
  rfl
theorem list_same {L M : List Atm} (h : Gs.start.run L = Gs.start.run M) : listOf L = listOf M := by unfold listOf; rw [start_run, start_run, h]
/-- what is turned about, from a change's steps and from its one form -/
theorem inv_nf (l : List Stp) (h : ∀ s ∈ l, stpOk s) : listOf ((atomsOf l).map Atm.inv) = listOf ((nfOf (gapsOf l)).map Atm.inv) := by
  refine list_same ?_
  rw [start_inv, start_inv, run_nf, gapsOf_run l h]
theorem inv_twice (l : List Stp) (h : ∀ s ∈ l, stpOk s) : listOf ((atomsOf (listOf ((atomsOf l).map Atm.inv))).map Atm.inv) = plainOf l := by
  rw [plain_list]
  refine list_same ?_
  rw [(list_ok _).2, start_inv, run_nf, start_inv, gs_inv_inv, run_nf, gapsOf_run l h]
theorem inv_from : ∀ L : List Atm, fromA (L.map Atm.inv) = toA L ∧ toA (L.map Atm.inv) = fromA L
  | [] => ⟨rfl, rfl⟩
  | .k :: L => by simp [Atm.inv, fromA, toA, inv_from L]
  | .d _ :: L => by simp [Atm.inv, fromA, toA, inv_from L]
  | .p _ :: L => by simp [Atm.inv, fromA, toA, inv_from L]
/-- what is turned about undoes it -/
theorem inv_apply : ∀ (L : List Atm) (s t : List UInt8), applyA s L = some t → fromA L = s.length → applyA t (L.map Atm.inv) = some s
  | [], s, t, h, hf => by
    rw [applyA_nil] at h
    cases h
    rw [List.map_nil, applyA_nil, List.eq_nil_of_length_eq_zero hf.symm]
  | .p b :: L, s, t, h, hf => by
    rw [applyA_p] at h
    obtain ⟨t', h', rfl⟩ := Option.map_eq_some_iff.1 h
    rw [List.map_cons, show Atm.inv (.p b) = .d b from rfl, applyA_dc, if_pos rfl]
    exact inv_apply L s t' h' hf
  | .k :: L, [], t, h, hf => by cases h
  | .k :: L, c :: s, t, h, hf => by
    rw [applyA] at h
    obtain ⟨t', h', rfl⟩ := Option.map_eq_some_iff.1 h
    rw [List.map_cons, show Atm.inv .k = .k from rfl, applyA, inv_apply L s t' h' (by simpa [fromA] using hf)]; rfl
  | .d b :: L, [], t, h, hf => by cases h
  | .d b :: L, c :: s, t, h, hf => by
    rw [applyA_dc] at h
    split at h
    · rename_i hc
      subst hc
      rw [List.map_cons, show Atm.inv (.d c) = .p c from rfl, applyA_p, inv_apply L s t h (by simpa [fromA] using hf)]; rfl
    · cases h
/-- the one form makes the same -/
theorem plain_apply (l : List Stp) (h : ∀ s ∈ l, stpOk s) (s : List UInt8) : applyA s (atomsOf (plainOf l)) = applyA s (atomsOf l) := by rw [plain_atoms, apply_nf l h]
theorem plain_sizes {l : List Stp} {f t : Int} (hs : sizesOf l = some (f, t)) : sizesOf (plainOf l) = some (f, t) := by
  obtain ⟨h1, h2, h3, h4, h5⟩ := sizesOf_some hs
  have hok : ∀ s ∈ l, stpOk s := fun s hs => (h1 s hs).1
  obtain ⟨n1, n2⟩ := nf_sizes l hok
  unfold maxT at h4 h5
  rw [sizesOf_of (plain_ok l) (by rw [plain_atoms]; omega) (by rw [plain_atoms]; omega), plain_atoms, n1, n2, h2, h3]
theorem applyA_kc (c : UInt8) (s : List UInt8) (l : List Atm) : applyA (c :: s) (.k :: l) = (applyA s l).map (c :: ·) := rfl
end Go.Eng

/-
  Plain facts: the pieces so far are the text's beginning; places within a form. No condition.
-/
set_option linter.all false
namespace Go.Eng
open Go
theorem texts_from {l : List UInt8} {n : Nat} (hn : n ≤ l.length) : ∀ (pre : List Pc) (k : Nat), from_ l k = pre ++ from_ l n → k ≤ n → textsOf l pre = (l.take n).drop k
  | [], k, h, hk => by
    have e := from_take hn [] k h hk
    rcases Nat.lt_or_eq_of_le hk with hlt | rfl
    · rw [from_cons (by simp; omega)] at e; cases e
    · simp [textsOf]
  | p :: pre, k, h, hk => by
    have hkl : k < l.length := by
      rcases Nat.lt_or_ge k l.length with h1 | h1
      · exact h1
      · rw [from_nil (by omega)] at h; cases h
    have h0 := from_take hn (p :: pre) k h hk
    rw [from_cons hkl, List.cons_append] at h
    simp only [List.cons.injEq] at h
    obtain ⟨rfl, h⟩ := h
    have hw := readP_w hkl
    have hle : k + (readP l k).w ≤ n := by
      have hkn : k < (l.take n).length := by
        rcases Nat.lt_or_ge k (l.take n).length with g | g
        · exact g
        · rw [from_nil (by omega)] at h0; cases h0
      rw [from_cons hkn] at h0
      have h1 := readP_w hkn
      simp only [List.cons.injEq] at h0
      have h2 : (l.take n).length ≤ n := by simp; omega
      rw [h0.1] at h1
      omega
    have ih := texts_from hn pre _ h hle
    have e : textsOf l (readP l k :: pre) = txt l (readP l k) ++ textsOf l pre := by simp [textsOf]
    rw [e, ih, txt, readP_at]
    have h3 : (l.take n).drop k = ((l.take n).take (k + (readP l k).w)).drop k ++ (l.take n).drop (k + (readP l k).w) := by
      rw [← List.take_append_drop (k + (readP l k).w) (l.take n)]
      rw [List.drop_append_of_le_length (by simp; omega)]
      simp
    rw [h3, List.take_take, Nat.min_eq_left hle]
theorem texts_take {l : List UInt8} {n : Nat} {pre : List Pc} (hn : n ≤ l.length) (h : pieces l = pre ++ from_ l n) : textsOf l pre = l.take n := by
  have := texts_from hn pre 0 h (Nat.zero_le _)
  rwa [List.drop_zero] at this
theorem texts_all (l : List UInt8) : textsOf l (pieces l) = l := by
  have := texts_take (l := l) (pre := pieces l) (Nat.le_refl _) (by rw [from_nil (by omega), List.append_nil])
  rwa [List.take_length] at this
/-- a byte within a form begins no form -/
theorem within_broken {l : List UInt8} {k i : Nat} (hk : k < l.length) (h1 : k < i) (h2 : i < k + (readP l k).w) : readP l i = ⟨i, 1, 65533, true⟩ := by
  have hw := readP_w hk
  have hc : 128 ≤ gb (l.drop k) (i - k) ∧ gb (l.drop k) (i - k) < 192 := tail_cont (by simp; omega) (by omega) (by rw [← readP_w_eq]; omega)
  have hg : gb (l.drop k) (i - k) = gb (l.drop i) 0 := by
    simp only [gb, List.getD_eq_getElem?_getD, List.getElem?_drop]
    rw [show k + (i - k) = i by omega, Nat.add_zero]
  unfold readP
  by_cases hd : dl (l.drop i) = (65533, 1)
  · rw [if_pos hd]
  · exfalso
    have := head_lead (l := l.drop i) (by simp; omega) hd
    omega
end Go.Eng

/-
  Plain facts on pieces: their order, and the pieces of a text's end. No condition.
-/
set_option linter.all false
namespace Go.Eng
open Go
theorem pc_broken {l : List UInt8} {p : Pc} (h : p ∈ pieces l) : p.b = true ↔ p.r = 65533 ∧ p.w = 1 := by
  obtain ⟨_, h2, h3⟩ := reach_of_mem h
  rw [h3]
  rcases readP_cases h2 with ⟨e1, e2, e3⟩ | ⟨e1, e2, e3⟩
  · rw [e1, e2, e3]; simp
  · rw [e1]
    constructor
    · intro h; cases h
    · rintro ⟨g1, g2⟩
      exfalso
      rw [g1] at e2
      have : wd 65533 = 3 := by decide
      omega
/-- where one piece ends ahead of a boundary -/
theorem reach_next {l : List UInt8} {k j : Nat} (hk : Reach l k) (hj : Reach l j) (hjl : j ≤ l.length) (hlt : k < j) : k + (readP l k).w ≤ j := by
  rcases Nat.lt_or_ge j (k + (readP l k).w) with h | h
  · exact absurd hj (not_reach_within (by omega) hk hlt h)
  · exact h
theorem readP_drop (l : List UInt8) (n k : Nat) : readP (l.drop n) k = ⟨k, (readP l (n + k)).w, (readP l (n + k)).r, (readP l (n + k)).b⟩ := by
  unfold readP
  rw [List.drop_drop]
  split <;> rfl
/-- a piece, told from further on -/
def Pc.sub (p : Pc) (n : Nat) : Pc := ⟨p.at_ - n, p.w, p.r, p.b⟩
theorem from_drop (l : List UInt8) (n : Nat) : ∀ (d k : Nat), l.length - (n + k) ≤ d → from_ (l.drop n) k = (from_ l (n + k)).map fun p => p.sub n
  | d, k, h => by
    by_cases hk : n + k < l.length
    · have hw := readP_w hk
      rw [from_cons (show k < (l.drop n).length by rw [List.length_drop]; omega), from_cons hk, List.map_cons]
      have e : readP (l.drop n) k = (readP l (n + k)).sub n := by
        rw [readP_drop, Pc.sub, readP_at]
        congr 1; omega
      rw [e]
      congr 1
      cases d with
      | zero => omega
      | succ d =>
        have := from_drop l n d (k + (readP l (n + k)).w) (by omega)
        rw [show ((readP l (n + k)).sub n).w = (readP l (n + k)).w from rfl, this]
        congr 2; omega
    · rw [from_nil (show ¬ k < (l.drop n).length by rw [List.length_drop]; omega), from_nil hk]; rfl
theorem pieces_drop (l : List UInt8) (n : Nat) : pieces (l.drop n) = (from_ l n).map fun p => p.sub n := from_drop l n _ 0 (Nat.le_refl _)
end Go.Eng

/-
  Plain facts: what two texts have alike at their heads and at their ends, piece by piece. No condition.
-/
set_option linter.all false
namespace Go.Eng
open Go
def chunks (l : List UInt8) : List (List UInt8) := (pieces l).map (txt l)
theorem chunks_flat (l : List UInt8) : (chunks l).flatten = l := by
  have h := texts_all l
  unfold textsOf at h
  unfold chunks
  rw [← List.flatMap_def]; exact h
theorem txt_length {l : List UInt8} {p : Pc} (h : p ∈ pieces l) : (txt l p).length = p.w := by
  obtain ⟨_, _, _, h4⟩ := mem_w h
  simp only [txt, List.length_drop, List.length_take]; omega
theorem txt_sub {l : List UInt8} {n : Nat} {p : Pc} (h : n ≤ p.at_) : txt (l.drop n) (p.sub n) = txt l p := by
  unfold txt Pc.sub
  simp only
  rw [List.drop_take, List.drop_take, List.drop_drop]
  congr 1
  · omega
  · congr 1; omega
theorem chunks_drop {l : List UInt8} {n : Nat} (h : Reach l n) : chunks (l.drop n) = (from_ l n).map (txt l) := by
  obtain ⟨pre, h1, h2, h3⟩ := reach_parts h
  unfold chunks
  rw [pieces_drop, List.map_map]
  refine List.map_congr_left fun p hp => ?_
  exact txt_sub (h3 p hp)
theorem chunks_take {l : List UInt8} {n : Nat} {pre : List Pc} (hn : n ≤ l.length) (h : pieces l = pre ++ from_ l n) : chunks (l.take n) = pre.map (txt l) := by
  have hp := pieces_take hn h
  unfold chunks
  rw [hp]
  refine List.map_congr_left fun p hpm => ?_
  rw [← hp] at hpm
  obtain ⟨_, _, _, h4⟩ := mem_w hpm
  rw [List.length_take] at h4
  unfold txt
  rw [List.take_take, Nat.min_eq_left (by omega)]
theorem chunks_split {l : List UInt8} {n : Nat} (h : Reach l n) (hn : n ≤ l.length) : chunks l = chunks (l.take n) ++ chunks (l.drop n) := by
  rw [chunks_drop h]
  obtain ⟨pre, hp⟩ := h
  rw [chunks_take hn hp, ← List.map_append, ← hp]; rfl
theorem chunks_nil {l : List UInt8} (h : l.length = 0) : chunks l = [] := by
  have : l = [] := List.eq_nil_of_length_eq_zero h
  subst this
  unfold chunks pieces
  rw [from_nil (by simp)]; rfl
/-- the last piece -/
theorem chunks_last {l : List UInt8} (h : 0 < l.length) : chunks l = chunks (l.take (lastP l).at_) ++ [txt l (lastP l)] ∧ (txt l (lastP l)).length = (lastP l).w ∧ (lastP l).at_ + (lastP l).w = l.length ∧ 1 ≤ (lastP l).w ∧ Reach l (lastP l).at_ := by
  obtain ⟨j, hj, hjl, he⟩ := exists_last l l.length 0 (by omega) h (Reach.zero l)
  have hlast := lastP_of hj hjl he
  have hw := readP_w hjl
  have hfr : from_ l j = [readP l j] := by rw [from_cons hjl, he, from_nil (by omega)]
  have hm := reach_mem hj hjl
  rw [hlast, readP_at]
  refine ⟨?_, txt_length hm, he, hw.1, hj⟩
  have hd := chunks_drop hj
  rw [chunks_split hj (by omega), hd, hfr]; rfl
def cplen : List (List UInt8) → List (List UInt8) → Nat
  | x :: X, y :: Y => if x = y then x.length + cplen X Y else 0
  | _, _ => 0
/-- how many bytes two texts have alike from their ends on, by whole pieces -/
def tailOf (s t : List UInt8) : Nat := cplen (chunks s).reverse (chunks t).reverse
theorem tail_nil {s t : List UInt8} (h : s.length = 0 ∨ t.length = 0) : tailOf s t = 0 := by
  unfold tailOf
  rcases h with h | h
  · rw [chunks_nil h]; rfl
  · rw [chunks_nil h]; cases (chunks s).reverse <;> rfl
theorem tail_step {s t : List UInt8} (hs : 0 < s.length) (ht : 0 < t.length) : tailOf s t = if txt s (lastP s) = txt t (lastP t) then (lastP s).w + tailOf (s.take (lastP s).at_) (t.take (lastP t).at_) else 0 := by
  obtain ⟨h1, h2, _⟩ := chunks_last hs
  obtain ⟨g1, g2, _⟩ := chunks_last ht
  unfold tailOf
  rw [h1, g1, List.reverse_append, List.reverse_append, List.reverse_singleton, List.reverse_singleton, List.singleton_append, List.singleton_append, cplen, h2]
theorem txt_length_at {l : List UInt8} {k : Nat} (hk : k < l.length) : (txt l (readP l k)).length = (readP l k).w := by
  have hw := readP_w hk
  simp only [txt, readP_at, List.length_drop, List.length_take]; omega
/-- pieces of the same bytes weigh the same -/
theorem txt_wt {a b : List UInt8} {k : Nat} (ha : k < a.length) (hb : k < b.length) : txt a (readP a k) = txt b (readP b k) ↔ wt a (readP a k) = wt b (readP b k) := by
  have key : ∀ {l : List UInt8}, k < l.length → (readP l k).b = false → okr (readP l k).r ∧ txt l (readP l k) = fmb (readP l k).r ∧ (readP l k).w = wd (readP l k).r := by
    intro l hl hbf
    rcases dl_cases (l.drop k) (by simp; omega) with ⟨h1, h2, h3⟩ | ⟨h1, _⟩
    · have hr := readP_r_eq l k
      have hw := readP_w_eq l k
      rw [hr, hw]
      refine ⟨h1, ?_, h2⟩
      have hbg := (begins_iff _ _ (okr_le h1)).1 h3
      unfold txt
      rw [readP_at, hw, h2, List.drop_take, show k + wd (dl (l.drop k)).1 - k = wd (dl (l.drop k)).1 by omega]
      exact hbg
    · exfalso
      unfold readP at hbf
      rw [if_pos h1] at hbf
      cases hbf
  have one : ∀ {l : List UInt8}, k < l.length → (readP l k).b = true → txt l (readP l k) = [l[k]!] ∧ gb l k = (l[k]!).toNat := by
    intro l hl hbt
    rcases readP_cases hl with ⟨_, h2, _⟩ | ⟨h1, _⟩
    · unfold txt
      rw [readP_at, h2, List.drop_take, show k + 1 - k = 1 by omega]
      have e1 : (l.drop k).take 1 = [l[k]] := by rw [List.drop_eq_getElem_cons hl]; rfl
      have e2 : l[k]! = l[k] := by simp [getElem!_def, List.getElem?_eq_getElem hl]
      rw [e1, e2]
      refine ⟨rfl, ?_⟩
      unfold gb; rw [List.getD_eq_getElem?_getD, List.getElem?_eq_getElem hl]; rfl
    · rw [hbt] at h1; cases h1
  have cross : ∀ {a b : List UInt8}, k < a.length → k < b.length → (readP a k).b = false → txt a (readP a k) = txt b (readP b k) → (readP b k).b = false ∧ (readP b k).r = (readP a k).r := by
    intro a b ha hb h1 h2
    obtain ⟨k1, k2, k3⟩ := key ha h1
    have hlen : (readP b k).w = wd (readP a k).r := by
      have e1 := txt_length_at hb
      rw [← h2, k2, fmb_length] at e1
      exact e1.symm
    have hbg : begins (b.drop k) (readP a k).r := by
      rw [begins_iff _ _ (okr_le k1), ← k2, h2]
      unfold txt
      rw [readP_at, List.drop_take, hlen, show k + wd (readP a k).r - k = wd (readP a k).r by omega]
    have hd := dl_of_begins k1 hbg
    have hne : ¬ dl (b.drop k) = (65533, 1) := by
      rw [hd]
      intro h
      have h3 : (readP a k).r = 65533 := congrArg Prod.fst h
      have h4 : wd (readP a k).r = 1 := congrArg Prod.snd h
      rw [h3] at h4
      exact absurd h4 (by decide)
    have he : readP b k = ⟨k, (dl (b.drop k)).2, (dl (b.drop k)).1, false⟩ := by unfold readP; rw [if_neg hne]
    rw [he, hd]
    exact ⟨rfl, rfl⟩
  rw [wt_read, wt_read]
  constructor
  · intro h
    cases h1 : (readP a k).b with
    | false =>
      obtain ⟨g1, g2⟩ := cross ha hb h1 h
      rw [g1, g2]; rfl
    | true =>
      cases h2 : (readP b k).b with
      | false =>
        obtain ⟨g1, _⟩ := cross hb ha h2 h.symm
        rw [h1] at g1; cases g1
      | true =>
        obtain ⟨e1, e2⟩ := one ha h1
        obtain ⟨e3, e4⟩ := one hb h2
        rw [e1, e3] at h
        have : a[k]! = b[k]! := by simpa using h
        rw [e2, e4, this]; simp
  · intro h
    have h' := (wt_same ha hb).1 (by rw [wt_read, wt_read]; exact h)
    obtain ⟨e1, e2⟩ := h'
    cases h1 : (readP a k).b with
    | false =>
      have h2 : (readP b k).b = false := by rw [← e1]; exact h1
      rw [(key ha h1).2.1, (key hb h2).2.1, e1]
    | true =>
      have h2 : (readP b k).b = true := by rw [← e1]; exact h1
      obtain ⟨f1, f2⟩ := one ha h1
      obtain ⟨f3, f4⟩ := one hb h2
      have h3 := e2 h1
      rw [f2, f4] at h3
      rw [f1, f3, UInt8.toNat_inj.1 h3]
end Go.Eng
namespace Go.Eng
open Go
theorem take_more {l : List UInt8} {k : Nat} (hk : k < l.length) : l.take (k + (readP l k).w) = l.take k ++ txt l (readP l k) := by
  unfold txt
  rw [readP_at]
  have h := List.take_append_drop k (l.take (k + (readP l k).w))
  rw [List.take_take, Nat.min_eq_left (by omega)] at h
  exact h.symm
theorem sh_take {a b : List UInt8} {n k : Nat} (h : Sh a b n k) : cutK a n = k := by
  obtain ⟨pa, pb, h1, h2, h3, h4, h5, h6, h7⟩ := h
  unfold cutK
  by_cases h0 : n = 0
  · subst h0
    rw [if_pos (by omega)]
    have hp : pa = [] := List.eq_nil_of_length_eq_zero h3
    have ht := texts_take h6 h1
    rw [hp] at ht
    have hl := congrArg List.length ht
    rw [show textsOf a [] = [] from rfl, List.length_nil, List.length_take] at hl
    omega
  · rw [if_neg (by omega), Int.toNat_natCast]
    unfold endsOf
    rw [h1, List.map_append, List.append_assoc, List.getD_eq_getElem?_getD, List.getElem?_append_right (by rw [List.length_map]; omega), List.length_map, h3, Nat.sub_self]
    rcases Nat.lt_or_eq_of_le h6 with g | g
    · rw [from_cons g, List.map_cons, readP_at]; rfl
    · rw [from_nil (by omega)]
      simp [g]
/-- a head that two texts have alike, to its end -/
theorem sh_exists (a b : List UInt8) : ∀ (d n k : Nat), a.length - k ≤ d → Sh a b n k → a.take k = b.take k → ∃ n' k', Sh a b n' k' ∧ a.take k' = b.take k' ∧ (k' = a.length ∨ k' = b.length ∨ wt a (readP a k') ≠ wt b (readP b k'))
  | d, n, k, hd, h, ht => by
    have hb : k ≤ a.length ∧ k ≤ b.length := by obtain ⟨_, _, _, _, _, _, _, h6, h7⟩ := h; exact ⟨h6, h7⟩
    by_cases h1 : k = a.length
    · exact ⟨n, k, h, ht, .inl h1⟩
    · by_cases h2 : k = b.length
      · exact ⟨n, k, h, ht, .inr (.inl h2)⟩
      · by_cases h3 : wt a (readP a k) = wt b (readP b k)
        · have ha : k < a.length := by omega
          have hbl : k < b.length := by omega
          have hw := readP_w ha
          have he := ((wt_same ha hbl).1 h3).1
          cases d with
          | zero => omega
          | succ d =>
            refine sh_exists a b d (n + 1) (k + (readP a k).w) (by omega) (h.next ha hbl h3) ?_
            rw [take_more ha, show k + (readP a k).w = k + (readP b k).w by rw [he], take_more hbl, ht, (txt_wt ha hbl).2 h3]
        · exact ⟨n, k, h, ht, .inr (.inr h3)⟩
theorem sh_reach {a b : List UInt8} {n k : Nat} (h : Sh a b n k) : Reach a k ∧ Reach b k ∧ k ≤ a.length ∧ k ≤ b.length := by
  obtain ⟨pa, pb, h1, h2, _, _, _, h6, h7⟩ := h
  exact ⟨⟨pa, h1⟩, ⟨pb, h2⟩, h6, h7⟩
theorem from_at {l : List UInt8} {k : Nat} {p : Pc} (h : p ∈ from_ l k) : k ≤ p.at_ := by
  obtain ⟨A, B, e⟩ := List.append_of_mem h
  exact (from_split l l.length k (by omega) A p B e).1
/-- a boundary of a text's end is one of the text -/
theorem reach_of_drop {l : List UInt8} {n k : Nat} (hn : Reach l n) (hk : Reach (l.drop n) k) (hkl : n + k ≤ l.length) : Reach l (n + k) := by
  rcases Nat.lt_or_eq_of_le hkl with hlt | heq
  · obtain ⟨pre, hp⟩ := hn
    obtain ⟨pk, hq⟩ := hk
    rw [pieces_drop, from_cons (show k < (l.drop n).length by rw [List.length_drop]; omega)] at hq
    obtain ⟨A, B, e1, e2, e3⟩ := List.map_eq_append_iff.1 hq
    obtain ⟨p, B', e4, e5, e6⟩ := List.map_eq_cons_iff.1 e3
    rw [e4] at e1
    have hsp := from_split l l.length n (by omega) A p B' e1
    have hat : p.at_ - n = k := by have := congrArg Pc.at_ e5; rwa [readP_at] at this
    have hpe : p.at_ = n + k := by omega
    refine ⟨pre ++ A, ?_⟩
    rw [hp, e1, hsp.2.2.2.1, hpe, List.append_assoc]
  · rw [heq]; exact ⟨pieces l, by rw [from_nil (by omega), List.append_nil]⟩
theorem reach_of_take {l : List UInt8} {n k : Nat} (hn : Reach l n) (hnl : n ≤ l.length) (hkn : k ≤ n) (hk : Reach (l.take n) k) : Reach l k := by
  rcases Nat.lt_or_eq_of_le hkn with hlt | heq
  · obtain ⟨pre, hp⟩ := hn
    obtain ⟨pk, hq⟩ := hk
    rw [pieces_take hnl hp, from_cons (show k < (l.take n).length by rw [List.length_take]; omega)] at hq
    rw [hq, List.append_assoc, List.cons_append] at hp
    have hsp := from_split l l.length 0 (by omega) pk _ _ hp
    rw [readP_at] at hsp
    exact ⟨pk, by rw [hp, hsp.2.2.2.1]⟩
  · rw [heq]; exact hn
theorem drop_split (L : List UInt8) (n j : Nat) (hj : j ≤ n) (hn : n ≤ L.length) : L.drop j = (L.take n).drop j ++ L.drop n := by
  have := List.drop_append_of_le_length (l₁ := L.take n) (l₂ := L.drop n) (i := j) (by rw [List.length_take]; omega)
  rwa [List.take_append_drop] at this
/-- what the ends have alike -/
theorem tail_facts : ∀ (d : Nat) (s t : List UInt8), s.length ≤ d → tailOf s t ≤ s.length ∧ tailOf s t ≤ t.length ∧ s.drop (s.length - tailOf s t) = t.drop (t.length - tailOf s t) ∧ Reach s (s.length - tailOf s t) ∧ Reach t (t.length - tailOf s t)
  | d, s, t, hd => by
    have rend : ∀ l : List UInt8, Reach l l.length := fun l => ⟨pieces l, by rw [from_nil (by omega), List.append_nil]⟩
    by_cases h0 : s.length = 0 ∨ t.length = 0
    · rw [tail_nil h0]
      exact ⟨Nat.zero_le _, Nat.zero_le _, by rw [Nat.sub_zero, Nat.sub_zero, List.drop_length, List.drop_length], rend s, rend t⟩
    · have hs : 0 < s.length := by omega
      have ht : 0 < t.length := by omega
      rw [tail_step hs ht]
      split
      · rename_i he
        obtain ⟨a1, a2, a3, a4, a5⟩ := chunks_last hs
        obtain ⟨b1, b2, b3, b4, b5⟩ := chunks_last ht
        have hw : (lastP s).w = (lastP t).w := by rw [← a2, ← b2, he]
        cases d with
        | zero => omega
        | succ d =>
          obtain ⟨c1, c2, c3, c4, c5⟩ := tail_facts d (s.take (lastP s).at_) (t.take (lastP t).at_) (by rw [List.length_take]; omega)
          rw [List.length_take, Nat.min_eq_left (by omega)] at c1 c3 c4
          rw [List.length_take, Nat.min_eq_left (by omega)] at c2 c3 c5
          generalize tailOf (s.take (lastP s).at_) (t.take (lastP t).at_) = m at *
          refine ⟨by omega, by omega, ?_, ?_, ?_⟩
          · have e1 : s.drop (s.length - ((lastP s).w + m)) = (s.take (lastP s).at_).drop ((lastP s).at_ - m) ++ txt s (lastP s) := by
              have h2 : txt s (lastP s) = s.drop (lastP s).at_ := by unfold txt; rw [List.take_of_length_le (by omega)]
              rw [h2, show s.length - ((lastP s).w + m) = (lastP s).at_ - m by omega]
              exact drop_split _ _ _ (by omega) (by omega)
            have e2 : t.drop (t.length - ((lastP s).w + m)) = (t.take (lastP t).at_).drop ((lastP t).at_ - m) ++ txt t (lastP t) := by
              have h2 : txt t (lastP t) = t.drop (lastP t).at_ := by unfold txt; rw [List.take_of_length_le (by omega)]
              rw [h2, show t.length - ((lastP s).w + m) = (lastP t).at_ - m by omega]
              exact drop_split _ _ _ (by omega) (by omega)
            rw [e1, e2, c3, he]
          · rw [show s.length - ((lastP s).w + m) = (lastP s).at_ - m by omega]
            exact reach_of_take a5 (by omega) (by omega) c4
          · rw [show t.length - ((lastP s).w + m) = (lastP t).at_ - m by omega]
            exact reach_of_take b5 (by omega) (by omega) c5
      · rw [Nat.sub_zero, Nat.sub_zero]
        exact ⟨Nat.zero_le _, Nat.zero_le _, by rw [List.drop_length, List.drop_length], rend s, rend t⟩
end Go.Eng

/-
  Plain facts on changes: from one text to another one. No condition.
-/
namespace Go.Eng
open Go
def headOf (s t : List UInt8) : Nat := cutK s (cm ((pieces s).map (wt s)) ((pieces t).map (wt t)) : Nat)
theorem head_facts (s t : List UInt8) : ∃ n, Sh s t n (headOf s t) ∧ s.take (headOf s t) = t.take (headOf s t) ∧ (headOf s t = s.length ∨ headOf s t = t.length ∨ wt s (readP s (headOf s t)) ≠ wt t (readP t (headOf s t))) := by
  obtain ⟨n, k, h1, h2, h3⟩ := sh_exists s t s.length 0 0 (by omega) (Sh.start s t) (by simp)
  have hn := (h1.done h3).1
  have hk := sh_take h1
  rw [hn] at hk
  have e : headOf s t = k := hk
  rw [e]
  exact ⟨n, h1, h2, h3⟩
def footOf (s t : List UInt8) : Nat := tailOf (s.drop (headOf s t)) (t.drop (headOf s t))
def betA (s t : List UInt8) : List Atm := List.replicate (headOf s t) .k ++ ((t.take (t.length - footOf s t)).drop (headOf s t)).map .p ++ ((s.take (s.length - footOf s t)).drop (headOf s t)).map .d ++ List.replicate (footOf s t) .k
/-- the numbers of it -/
theorem bet_facts (s t : List UInt8) : headOf s t ≤ s.length ∧ headOf s t ≤ t.length ∧ headOf s t + footOf s t ≤ s.length ∧ headOf s t + footOf s t ≤ t.length ∧ s.take (headOf s t) = t.take (headOf s t) ∧ s.drop (s.length - footOf s t) = t.drop (t.length - footOf s t) ∧
    Reach s (headOf s t) ∧ Reach t (headOf s t) ∧ Reach s (s.length - footOf s t) ∧ Reach t (t.length - footOf s t) := by
  obtain ⟨n, h1, h2, _⟩ := head_facts s t
  obtain ⟨r1, r2, l1, l2⟩ := sh_reach h1
  obtain ⟨f1, f2, f3, f4, f5⟩ := tail_facts _ (s.drop (headOf s t)) (t.drop (headOf s t)) (Nat.le_refl _)
  have e : tailOf (s.drop (headOf s t)) (t.drop (headOf s t)) = footOf s t := rfl
  rw [e] at f1 f2 f3 f4 f5
  rw [List.length_drop] at f1 f2 f3 f4 f5
  rw [List.length_drop] at f3
  generalize headOf s t = k at *
  generalize footOf s t = m at *
  rw [List.drop_drop, List.drop_drop] at f3
  refine ⟨l1, l2, by omega, by omega, h2, ?_, r1, r2, ?_, ?_⟩
  · rw [show s.length - m = k + (s.length - k - m) by omega, show t.length - m = k + (t.length - k - m) by omega]; exact f3
  · rw [show s.length - m = k + (s.length - k - m) by omega]; exact reach_of_drop r1 f4 (by omega)
  · rw [show t.length - m = k + (t.length - k - m) by omega]; exact reach_of_drop r2 f5 (by omega)
theorem bet_sizes (s t : List UInt8) : fromA (betA s t) = s.length ∧ toA (betA s t) = t.length := by
  obtain ⟨h1, h2, h3, h4, _⟩ := bet_facts s t
  unfold betA
  simp only [fromA_append, toA_append, fromA_k, toA_k, fromA_p, toA_p, fromA_d, toA_d, List.length_drop, List.length_take]
  omega
theorem bet_apply (s t : List UInt8) : applyA s (betA s t) = some t := by
  obtain ⟨h1, h2, h3, h4, h5, h6, _⟩ := bet_facts s t
  unfold betA
  generalize headOf s t = k at *
  generalize footOf s t = m at *
  rw [List.append_assoc, List.append_assoc, applyA_ks k s _ h1, applyA_ps, applyA_ds _ _ _ (by simp only [List.length_drop, List.length_take]; omega)]
  have e1 : (s.drop k).take ((s.take (s.length - m)).drop k).length = (s.take (s.length - m)).drop k := by
    rw [List.length_drop, List.length_take, Nat.min_eq_left (by omega), List.drop_take]
  rw [if_pos e1]
  have e2 : (s.drop k).drop ((s.take (s.length - m)).drop k).length = s.drop (s.length - m) := by
    rw [List.length_drop, List.length_take, Nat.min_eq_left (by omega), List.drop_drop]; congr 1; omega
  rw [e2]
  have e3 := applyA_ks m (s.drop (s.length - m)) [] (by rw [List.length_drop]; omega)
  rw [List.append_nil, applyA_nil] at e3
  rw [e3]
  simp only [Option.map_some, List.append_nil]
  congr 1
  rw [List.take_of_length_le (show (s.drop (s.length - m)).length ≤ m by rw [List.length_drop]; omega), h5, h6, ← List.append_assoc]
  have e4 : t.take k ++ (t.take (t.length - m)).drop k = t.take (t.length - m) := by
    have := List.take_append_drop k (t.take (t.length - m))
    rwa [List.take_take, Nat.min_eq_left (by omega)] at this
  rw [e4, List.take_append_drop]
/-- the builder's way -/
theorem bet_list (s t : List UInt8) : listOf (betA s t) = ((⟨(Bld.start.keep (headOf s t : Int)).l, (t.take (t.length - footOf s t)).drop (headOf s t), (s.take (s.length - footOf s t)).drop (headOf s t)⟩ : Bld).keep (footOf s t : Int)).close.l := by
  unfold listOf betA
  rw [run_append, run_append, run_append, run_k, run_p, run_d, run_k]
  have hp : ∀ k : Nat, (Bld.start.keep (k : Int)).p = [] ∧ (Bld.start.keep (k : Int)).d = [] := by
    intro k
    by_cases h : k = 0
    · subst h; exact ⟨rfl, rfl⟩
    · exact keep_pd _ _ (by omega)
  obtain ⟨h1, h2⟩ := hp (headOf s t)
  simp only [h1, h2, List.nil_append]
end Go.Eng

/-
  The walks of the program's back and Between. No condition.
-/
namespace Go.Eng
theorem cm_le : ∀ X Y : List Nat, cm X Y ≤ X.length
  | [], Y => by cases Y <;> exact Nat.le_refl _
  | x :: X, [] => Nat.zero_le _
  | x :: X, y :: Y => by
    have := cm_le X Y
    unfold cm
    split
    · simp only [List.length_cons]; omega
    · exact Nat.zero_le _
end Go.Eng
namespace Go.Proofs.Ytelgegefmjlimaa
open Go Go.Eng
set_option maxRecDepth 100000
set_option maxHeartbeats 4000000
set_option linter.all false
attribute [local irreducible] WL WC WQ QFun QLoop Does Q1 QRound QAssign Go.Addr.add
attribute [local irreducible] readP pieces dl from_ lastP tailOf txt
theorem eback_any (s t : List UInt8) (hs : s.length ≤ 1000000) (ht : t.length ≤ 1000000) (w0 : World) (m : Mem) (H : SHeap) :
    Does Try.prog 54 #[str s, str t] w0 m H (Gives (.int .i64 (tailOf s t : Int)) m H) := by
  refine Does.of_body (args := [str s, str t]) Try.func54 rfl Try.ntmps54 rfl ?_
  (try (refine st ?_; intros))
  refine WC.loopH [(5, .int .i64 ((0) : Int)), (0, str s), (1, str t)] ?_ ?_ (fun j r ds m' H' => ∃ (n : Nat), j = s.length - n ∧ r = [(5, .int .i64 (n : Int)), (0, str s), (1, str t)] ∧ ds = [] ∧ m = m' ∧ H' = H ∧ (n ≤ s.length ∧ n ≤ t.length) ∧ (n + tailOf (s.take (s.length - n)) (t.take (t.length - n)) = tailOf s t)) (s.length - (0)) ⟨0, rfl, rfl, rfl, rfl, rfl, ⟨Nat.zero_le _, Nat.zero_le _⟩, by simp⟩ ?_
  · (repeat (first | exact Env.Sub.nil | refine Env.Sub.cons rfl ?_))
  · exact (fun w h => Pick.sat (by iterate 60 (try (first | exact Pick.all | (apply Pick.take; (· (repeat (first | exact Out.here | apply Out.there)))) | apply Pick.drop))) h)
  rintro j r ds m' H' ⟨n, rfl, rfl, rfl, rfl, rfl, hn, hT⟩
  generalize H' = H
  by_cases h1 : n < s.length
  · by_cases h2 : n < t.length
    · have hS : (s.take (s.length - n)).length = s.length - n := by rw [List.length_take]; omega
      have hTl : (t.take (t.length - n)).length = t.length - n := by rw [List.length_take]; omega
      have es : (s.length : Int) - (n : Int) = ((s.length - n : Nat) : Int) := by omega
      have et : (t.length : Int) - (n : Int) = ((t.length - n : Nat) : Int) := by omega
      rw [tail_step (by omega) (by omega)] at hT
      obtain ⟨_, a2, a3, a4, _⟩ := chunks_last (l := s.take (s.length - n)) (by omega)
      obtain ⟨_, b2, b3, b4, _⟩ := chunks_last (l := t.take (t.length - n)) (by omega)
      rw [hS] at a3
      rw [hTl] at b3
      (try (refine st ?_; intros))
      rw [es]
      refine w_callF Try.func74 ?_ (hs := before_in s (s.length - n) (by omega) (by omega) (by omega) _ _ _)
      rintro v m H ⟨rfl, rfl, rfl⟩
      generalize hp : lastP (s.take (s.length - n)) = p at *
      generalize hq : lastP (t.take (t.length - n)) = q at *
      rw [show p.v = .agg #[.int .i64 (p.at_ : Int), .int .i64 (p.w : Int), .int .i32 (p.r : Int), .bool p.b] from rfl]
      (refine st ?_; intros; rename_i bp)
      rw [et]
      refine w_callF Try.func74 ?_ (hs := before_in t (t.length - n) (by omega) (by omega) (by omega) _ _ _)
      rintro v m H ⟨rfl, rfl, rfl⟩
      rw [hq, show q.v = .agg #[.int .i64 (q.at_ : Int), .int .i64 (q.w : Int), .int .i32 (q.r : Int), .bool q.b] from rfl]
      have ep : (s.take (p.at_ + p.w)).drop p.at_ = txt (s.take (s.length - n)) p := by
        unfold txt; rw [List.take_take, Nat.min_eq_left (by omega)]
      have eq : (t.take (q.at_ + q.w)).drop q.at_ = txt (t.take (t.length - n)) q := by
        unfold txt; rw [List.take_take, Nat.min_eq_left (by omega)]
      by_cases hw : p.w = q.w
      · by_cases hx : txt (s.take (s.length - n)) p = txt (t.take (t.length - n)) q
        · rw [if_pos hx] at hT
          have hx2 : (s.take (p.at_ + p.w)).drop p.at_ = (t.take (q.at_ + q.w)).drop q.at_ := by rw [ep, eq, hx]
          (refine st ?_; intros; rename_i bq)
          refine WQ.next (s.length - (n + p.w)) ⟨n + p.w, rfl, rfl, rfl, rfl, rfl, ?_, ?_⟩ (by omega) (by (repeat (first | exact Env.Sub.nil | refine Env.Sub.cons rfl ?_))) (fun w h => Pick.sat (by iterate 60 (try (first | exact Pick.all | (apply Pick.take; (· (repeat (first | exact Out.here | apply Out.there)))) | apply Pick.drop))) h)
          · omega
          · rw [List.take_take, List.take_take, Nat.min_eq_left (by omega), Nat.min_eq_left (by omega)] at hT
            rw [show s.length - (n + p.w) = p.at_ by omega, show t.length - (n + p.w) = q.at_ by omega]; omega
        · rw [if_neg hx] at hT
          have hx2 : ¬ (s.take (p.at_ + p.w)).drop p.at_ = (t.take (q.at_ + q.w)).drop q.at_ := by rw [ep, eq]; exact hx
          (refine st ?_; intros; rename_i bq)
          exact q_fin0 (H0 := H) (Gives.mk (show Value.int .i64 (n : Int) = .int .i64 (tailOf s t : Int) by rw [← hT, Nat.add_zero])) (hd := (fun w h => Pick.sat (by iterate 60 (try (first | exact Pick.all | (apply Pick.take; (· (repeat (first | exact Out.here | apply Out.there)))) | apply Pick.drop))) h))
      · have hx : ¬ txt (s.take (s.length - n)) p = txt (t.take (t.length - n)) q := by
          intro h; rw [← h, a2] at b2; exact hw b2
        rw [if_neg hx] at hT
        (refine st ?_; intros; rename_i bq)
        exact q_fin0 (H0 := H) (Gives.mk (show Value.int .i64 (n : Int) = .int .i64 (tailOf s t : Int) by rw [← hT, Nat.add_zero])) (hd := (fun w h => Pick.sat (by iterate 60 (try (first | exact Pick.all | (apply Pick.take; (· (repeat (first | exact Out.here | apply Out.there)))) | apply Pick.drop))) h))
    · rw [tail_nil (by right; rw [List.length_take]; omega)] at hT
      (try (refine st ?_; intros))
      exact q_fin0 (H0 := H) (Gives.mk (show Value.int .i64 (n : Int) = .int .i64 (tailOf s t : Int) by rw [← hT, Nat.add_zero])) (hd := (fun w h => Pick.sat (by iterate 60 (try (first | exact Pick.all | (apply Pick.take; (· (repeat (first | exact Out.here | apply Out.there)))) | apply Pick.drop))) h))
  · rw [tail_nil (by left; rw [List.length_take]; omega)] at hT
    (try (refine st ?_; intros))
    exact q_fin0 (H0 := H) (Gives.mk (show Value.int .i64 (n : Int) = .int .i64 (tailOf s t : Int) by rw [← hT, Nat.add_zero])) (hd := (fun w h => Pick.sat (by iterate 60 (try (first | exact Pick.all | (apply Pick.take; (· (repeat (first | exact Out.here | apply Out.there)))) | apply Pick.drop))) h))
attribute [local irreducible] headOf footOf listOf
theorem sq_E31_1 {G : Prop} (h : G := by (repeat (first | (refine sp ?_; (repeat intro zzc)) | (refine iF 54 rfl ?_; refine w_callG Try.func54 ?_ (hs := eback_any _ _ (by simp; omega) (by simp; omega) _ _ _)))); exact WQ.q1 rfl) : G := h
theorem st_E31_1 {G G' : Prop} (next : G') (h : Bx G' → G := by intro zzn; (first | ((refine st ?_; (repeat intro zzc)); (try ((first | (refine iF 54 rfl ?_; refine w_callG Try.func54 ?_ (hs := eback_any _ _ (by simp; omega) (by simp; omega) _ _ _)) | ((refine iDraw ?_; (first | refine WC.drawAll rfl (by decide +kernel) ?_ | refine WC.draw 1 rfl (by decide +kernel) ?_ | refine WC.draw 2 rfl (by decide +kernel) ?_ | refine WC.draw 3 rfl (by decide +kernel) ?_ | refine WC.draw 4 rfl (by decide +kernel) ?_ | refine WC.draw 5 rfl (by decide +kernel) ?_ | refine WC.draw 6 rfl (by decide +kernel) ?_ | refine WC.draw 7 rfl (by decide +kernel) ?_ | refine WC.draw 8 rfl (by decide +kernel) ?_ | refine WC.draw 9 rfl (by decide +kernel) ?_ | refine WC.draw 10 rfl (by decide +kernel) ?_ | refine WC.draw 11 rfl (by decide +kernel) ?_ | refine WC.draw 12 rfl (by decide +kernel) ?_ | refine WC.draw 13 rfl (by decide +kernel) ?_ | refine WC.draw 14 rfl (by decide +kernel) ?_ | refine WC.draw 15 rfl (by decide +kernel) ?_ | refine WC.draw 16 rfl (by decide +kernel) ?_ | refine WC.draw 17 rfl (by decide +kernel) ?_ | refine WC.draw 18 rfl (by decide +kernel) ?_ | refine WC.draw 19 rfl (by decide +kernel) ?_ | refine WC.draw 20 rfl (by decide +kernel) ?_ | refine WC.draw 21 rfl (by decide +kernel) ?_ | refine WC.draw 22 rfl (by decide +kernel) ?_ | refine WC.draw 23 rfl (by decide +kernel) ?_ | refine WC.draw 24 rfl (by decide +kernel) ?_)); (repeat (refine WD.cons rfl (fun c h => by cases h) sq_E31_1 ?_)); refine WD.nil ?_)); (try (refine st ?_; (repeat intro zzc)))))) | ((first | (refine iF 54 rfl ?_; refine w_callG Try.func54 ?_ (hs := eback_any _ _ (by simp; omega) (by simp; omega) _ _ _)) | ((refine iDraw ?_; (first | refine WC.drawAll rfl (by decide +kernel) ?_ | refine WC.draw 1 rfl (by decide +kernel) ?_ | refine WC.draw 2 rfl (by decide +kernel) ?_ | refine WC.draw 3 rfl (by decide +kernel) ?_ | refine WC.draw 4 rfl (by decide +kernel) ?_ | refine WC.draw 5 rfl (by decide +kernel) ?_ | refine WC.draw 6 rfl (by decide +kernel) ?_ | refine WC.draw 7 rfl (by decide +kernel) ?_ | refine WC.draw 8 rfl (by decide +kernel) ?_ | refine WC.draw 9 rfl (by decide +kernel) ?_ | refine WC.draw 10 rfl (by decide +kernel) ?_ | refine WC.draw 11 rfl (by decide +kernel) ?_ | refine WC.draw 12 rfl (by decide +kernel) ?_ | refine WC.draw 13 rfl (by decide +kernel) ?_ | refine WC.draw 14 rfl (by decide +kernel) ?_ | refine WC.draw 15 rfl (by decide +kernel) ?_ | refine WC.draw 16 rfl (by decide +kernel) ?_ | refine WC.draw 17 rfl (by decide +kernel) ?_ | refine WC.draw 18 rfl (by decide +kernel) ?_ | refine WC.draw 19 rfl (by decide +kernel) ?_ | refine WC.draw 20 rfl (by decide +kernel) ?_ | refine WC.draw 21 rfl (by decide +kernel) ?_ | refine WC.draw 22 rfl (by decide +kernel) ?_ | refine WC.draw 23 rfl (by decide +kernel) ?_ | refine WC.draw 24 rfl (by decide +kernel) ?_)); (repeat (refine WD.cons rfl (fun c h => by cases h) sq_E31_1 ?_)); refine WD.nil ?_)); (try (refine st ?_; (repeat intro zzc))))); (repeat ((first | (refine iF 54 rfl ?_; refine w_callG Try.func54 ?_ (hs := eback_any _ _ (by simp; omega) (by simp; omega) _ _ _)) | ((refine iDraw ?_; (first | refine WC.drawAll rfl (by decide +kernel) ?_ | refine WC.draw 1 rfl (by decide +kernel) ?_ | refine WC.draw 2 rfl (by decide +kernel) ?_ | refine WC.draw 3 rfl (by decide +kernel) ?_ | refine WC.draw 4 rfl (by decide +kernel) ?_ | refine WC.draw 5 rfl (by decide +kernel) ?_ | refine WC.draw 6 rfl (by decide +kernel) ?_ | refine WC.draw 7 rfl (by decide +kernel) ?_ | refine WC.draw 8 rfl (by decide +kernel) ?_ | refine WC.draw 9 rfl (by decide +kernel) ?_ | refine WC.draw 10 rfl (by decide +kernel) ?_ | refine WC.draw 11 rfl (by decide +kernel) ?_ | refine WC.draw 12 rfl (by decide +kernel) ?_ | refine WC.draw 13 rfl (by decide +kernel) ?_ | refine WC.draw 14 rfl (by decide +kernel) ?_ | refine WC.draw 15 rfl (by decide +kernel) ?_ | refine WC.draw 16 rfl (by decide +kernel) ?_ | refine WC.draw 17 rfl (by decide +kernel) ?_ | refine WC.draw 18 rfl (by decide +kernel) ?_ | refine WC.draw 19 rfl (by decide +kernel) ?_ | refine WC.draw 20 rfl (by decide +kernel) ?_ | refine WC.draw 21 rfl (by decide +kernel) ?_ | refine WC.draw 22 rfl (by decide +kernel) ?_ | refine WC.draw 23 rfl (by decide +kernel) ?_ | refine WC.draw 24 rfl (by decide +kernel) ?_)); (repeat (refine WD.cons rfl (fun c h => by cases h) sq_E31_1 ?_)); refine WD.nil ?_)); (try (refine st ?_; (repeat intro zzc))))); (repeat revert zzc); exact zzn.out) : G := h ⟨next⟩
theorem between_any (s t : List UInt8) (hs : s.length ≤ 65536) (ht : t.length ≤ 65536) (w0 : World) (m : Mem) (H : SHeap) :
    Does Try.prog 20 #[str s, str t] w0 m H (ListP 59 (.inr (listOf (betA s t))) .i64 m H) := by
  refine Does.of_body (args := [str s, str t]) Try.func20 rfl Try.ntmps20 rfl ?_
  obtain ⟨h1, h2, h3, h4, _⟩ := bet_facts s t
  have hl := bet_list s t
  have hk : cutK s (cm (W s) (W t) : Nat) = headOf s t := by unfold headOf W; rfl
  have hf : tailOf (s.drop (headOf s t)) (t.drop (headOf s t)) = footOf s t := by unfold footOf; rfl
  have hcm : (cm (W s) (W t) : Int) ≤ 9223372036854775807 := by
    have := cm_le (W s) (W t)
    have := W_length s
    have := pieces_length s
    omega
  generalize listOf (betA s t) = R at *
  (try (refine st_E31_1 ?_; intros))
  refine w_callF Try.func53 ?_ (hs := common_any s t (by omega) (by omega) _ _ _)
  rintro v m H1 ⟨rfl, rfl, rfl⟩
  (try (refine st_E31_1 ?_; intros))
  refine w_callF Try.func52 ?_ (hs := cut_any s (cm (W s) (W t) : Nat) (by omega) ⟨by omega, hcm⟩ _ _ _)
  rintro v m H1 ⟨rfl, rfl, rfl⟩
  rw [hk]
  have hkl : (s.take (headOf s t)).length = headOf s t := by rw [List.length_take]; omega
  (refine st_E31_1 ?_; intros; rename_i b)
  rw [hkl, hf]
  refine WL.newRow (T := 59) (sz := 3) ?_
  refine WL.heap (H' := .blk b (.cells [.slice none Bld.start.l.length 0, str Bld.start.p, str Bld.start.d].toArray 98 (0, 0)) :: .row none 0 59 3 (Bld.start.l.map Stp.cs) :: H1) (fun w h => Pick.sat (by iterate 60 (try (first | exact Pick.all | (apply Pick.take; (· (repeat (first | exact Out.here | apply Out.there)))) | apply Pick.drop))) h) ?_
  refine w_callF Try.func55 ?_ (hs := keep_any Bld.start (headOf s t) (by omega) (BFit.start.mono (by omega)) _ _ _)
  rintro v m H2 ⟨rfl, rfl, c1, cp1, rfl⟩
  have hB0 := BFit.start.keep (n := headOf s t)
  generalize Bld.start.keep (headOf s t : Int) = B0 at *
  (try (refine st_E31_1 ?_; intros))
  refine WC.drawE 18 ([]) (.blk b (.cells [.slice c1 B0.l.length cp1, str B0.p, str B0.d].toArray 98 (0, 0)) :: .row c1 cp1 59 3 (B0.l.map Stp.cs) :: H1) rfl (by decide +kernel) (fun w h => Pick.sat (by iterate 60 (try (first | exact Pick.all | (apply Pick.take; (· (repeat (first | exact Out.here | apply Out.there)))) | apply Pick.drop))) h) ?_
  ((try (refine WE.calm 0 (by decide +kernel) rfl rfl (by decide +kernel) rfl (fun c h => by cases h) (by intro zm zF zle; exact sq_E31_1) ?_)); (try (refine WE.calm 1 (by decide +kernel) rfl rfl (by decide +kernel) rfl (fun c h => by cases h) (by intro zm zF zle; exact sq_E31_1) ?_)); (try (refine WE.calm 2 (by decide +kernel) rfl rfl (by decide +kernel) rfl (fun c h => by cases h) (by intro zm zF zle; exact sq_E31_1) ?_)); (try (refine WE.calm 3 (by decide +kernel) rfl rfl (by decide +kernel) rfl (fun c h => by cases h) (by intro zm zF zle; exact sq_E31_1) ?_)); (try (refine WE.calm 4 (by decide +kernel) rfl rfl (by decide +kernel) rfl (fun c h => by cases h) (by intro zm zF zle; exact sq_E31_1) ?_)); (try (refine WE.calm 5 (by decide +kernel) rfl rfl (by decide +kernel) rfl (fun c h => by cases h) (by intro zm zF zle; exact sq_E31_1) ?_)); (try (refine WE.calm 6 (by decide +kernel) rfl rfl (by decide +kernel) rfl (fun c h => by cases h) (by intro zm zF zle; exact sq_E31_1) ?_)); (try (refine WE.calm 7 (by decide +kernel) rfl rfl (by decide +kernel) rfl (fun c h => by cases h) (by intro zm zF zle; exact sq_E31_1) ?_)); (try (refine WE.calm 8 (by decide +kernel) rfl rfl (by decide +kernel) rfl (fun c h => by cases h) (by intro zm zF zle; exact sq_E31_1) ?_)); (try (refine WE.calm 9 (by decide +kernel) rfl rfl (by decide +kernel) rfl (fun c h => by cases h) (by intro zm zF zle; exact sq_E31_1) ?_)); (try (refine WE.calm 10 (by decide +kernel) rfl rfl (by decide +kernel) rfl (fun c h => by cases h) (by intro zm zF zle; exact sq_E31_1) ?_)); (try (refine WE.calm 11 (by decide +kernel) rfl rfl (by decide +kernel) rfl (fun c h => by cases h) (by intro zm zF zle; exact sq_E31_1) ?_)); (try (refine WE.calm 12 (by decide +kernel) rfl rfl (by decide +kernel) rfl (fun c h => by cases h) (by intro zm zF zle; exact sq_E31_1) ?_)); (try (refine WE.calm 13 (by decide +kernel) rfl rfl (by decide +kernel) rfl (fun c h => by cases h) (by intro zm zF zle; exact sq_E31_1) ?_)); (try (refine WE.calm 14 (by decide +kernel) rfl rfl (by decide +kernel) rfl (fun c h => by cases h) (by intro zm zF zle; exact sq_E31_1) ?_)); (try (refine WE.calm 15 (by decide +kernel) rfl rfl (by decide +kernel) rfl (fun c h => by cases h) (by intro zm zF zle; exact sq_E31_1) ?_)); (try (refine WE.calm 16 (by decide +kernel) rfl rfl (by decide +kernel) rfl (fun c h => by cases h) (by intro zm zF zle; exact sq_E31_1) ?_)); (try (refine WE.calm 17 (by decide +kernel) rfl rfl (by decide +kernel) rfl (fun c h => by cases h) (by intro zm zF zle; exact sq_E31_1) ?_)); (try (refine WE.calm 18 (by decide +kernel) rfl rfl (by decide +kernel) rfl (fun c h => by cases h) (by intro zm zF zle; exact sq_E31_1) ?_)); (try (refine WE.calm 19 (by decide +kernel) rfl rfl (by decide +kernel) rfl (fun c h => by cases h) (by intro zm zF zle; exact sq_E31_1) ?_)); (try (refine WE.calm 20 (by decide +kernel) rfl rfl (by decide +kernel) rfl (fun c h => by cases h) (by intro zm zF zle; exact sq_E31_1) ?_)); (try (refine WE.calm 21 (by decide +kernel) rfl rfl (by decide +kernel) rfl (fun c h => by cases h) (by intro zm zF zle; exact sq_E31_1) ?_)); (try (refine WE.calm 22 (by decide +kernel) rfl rfl (by decide +kernel) rfl (fun c h => by cases h) (by intro zm zF zle; exact sq_E31_1) ?_)); (try (refine WE.calm 23 (by decide +kernel) rfl rfl (by decide +kernel) rfl (fun c h => by cases h) (by intro zm zF zle; exact sq_E31_1) ?_)); (try (refine WE.calm 24 (by decide +kernel) rfl rfl (by decide +kernel) rfl (fun c h => by cases h) (by intro zm zF zle; exact sq_E31_1) ?_)); (try (refine WE.calm 25 (by decide +kernel) rfl rfl (by decide +kernel) rfl (fun c h => by cases h) (by intro zm zF zle; exact sq_E31_1) ?_)); (try (refine WE.calm 26 (by decide +kernel) rfl rfl (by decide +kernel) rfl (fun c h => by cases h) (by intro zm zF zle; exact sq_E31_1) ?_)); (try (refine WE.calm 27 (by decide +kernel) rfl rfl (by decide +kernel) rfl (fun c h => by cases h) (by intro zm zF zle; exact sq_E31_1) ?_)); (try (refine WE.calm 28 (by decide +kernel) rfl rfl (by decide +kernel) rfl (fun c h => by cases h) (by intro zm zF zle; exact sq_E31_1) ?_)); (try (refine WE.calm 29 (by decide +kernel) rfl rfl (by decide +kernel) rfl (fun c h => by cases h) (by intro zm zF zle; exact sq_E31_1) ?_)); (try (refine WE.calm 30 (by decide +kernel) rfl rfl (by decide +kernel) rfl (fun c h => by cases h) (by intro zm zF zle; exact sq_E31_1) ?_)); (try (refine WE.calm 31 (by decide +kernel) rfl rfl (by decide +kernel) rfl (fun c h => by cases h) (by intro zm zF zle; exact sq_E31_1) ?_)); (try (refine WE.calm 32 (by decide +kernel) rfl rfl (by decide +kernel) rfl (fun c h => by cases h) (by intro zm zF zle; exact sq_E31_1) ?_)); (try (refine WE.calm 33 (by decide +kernel) rfl rfl (by decide +kernel) rfl (fun c h => by cases h) (by intro zm zF zle; exact sq_E31_1) ?_)); (try (refine WE.calm 34 (by decide +kernel) rfl rfl (by decide +kernel) rfl (fun c h => by cases h) (by intro zm zF zle; exact sq_E31_1) ?_)); (try (refine WE.calm 35 (by decide +kernel) rfl rfl (by decide +kernel) rfl (fun c h => by cases h) (by intro zm zF zle; exact sq_E31_1) ?_)); (try (refine WE.calm 36 (by decide +kernel) rfl rfl (by decide +kernel) rfl (fun c h => by cases h) (by intro zm zF zle; exact sq_E31_1) ?_)); (try (refine WE.calm 37 (by decide +kernel) rfl rfl (by decide +kernel) rfl (fun c h => by cases h) (by intro zm zF zle; exact sq_E31_1) ?_)); (try (refine WE.calm 38 (by decide +kernel) rfl rfl (by decide +kernel) rfl (fun c h => by cases h) (by intro zm zF zle; exact sq_E31_1) ?_)); (try (refine WE.calm 39 (by decide +kernel) rfl rfl (by decide +kernel) rfl (fun c h => by cases h) (by intro zm zF zle; exact sq_E31_1) ?_)); (try (refine WE.calm 40 (by decide +kernel) rfl rfl (by decide +kernel) rfl (fun c h => by cases h) (by intro zm zF zle; exact sq_E31_1) ?_)); (try (refine WE.calm 41 (by decide +kernel) rfl rfl (by decide +kernel) rfl (fun c h => by cases h) (by intro zm zF zle; exact sq_E31_1) ?_)))
  refine WE.act0 15 (by decide +kernel) rfl rfl (fun c h => by cases h) ?_
  (try (refine st_E31_1 ?_; intros))
  refine WQ.stored (B := []) (U := .blk b (.cells [.slice c1 B0.l.length cp1, str ((t.take (t.length - footOf s t)).drop (headOf s t)), str B0.d].toArray 98 (0, 0)) :: .row c1 cp1 59 3 (B0.l.map Stp.cs) :: H1) (Mem.le.refl _) (fun w h => Pick.sat (by iterate 60 (try (first | exact Pick.all | (apply Pick.take; (· (repeat (first | exact Out.here | apply Out.there)))) | apply Pick.drop))) h) ?_
  ((try (refine WE.calm 0 (by decide +kernel) rfl rfl (by decide +kernel) rfl (fun c h => by cases h) (by intro zm zF zle; exact sq_E31_1) ?_)); (try (refine WE.calm 1 (by decide +kernel) rfl rfl (by decide +kernel) rfl (fun c h => by cases h) (by intro zm zF zle; exact sq_E31_1) ?_)); (try (refine WE.calm 2 (by decide +kernel) rfl rfl (by decide +kernel) rfl (fun c h => by cases h) (by intro zm zF zle; exact sq_E31_1) ?_)); (try (refine WE.calm 3 (by decide +kernel) rfl rfl (by decide +kernel) rfl (fun c h => by cases h) (by intro zm zF zle; exact sq_E31_1) ?_)); (try (refine WE.calm 4 (by decide +kernel) rfl rfl (by decide +kernel) rfl (fun c h => by cases h) (by intro zm zF zle; exact sq_E31_1) ?_)); (try (refine WE.calm 5 (by decide +kernel) rfl rfl (by decide +kernel) rfl (fun c h => by cases h) (by intro zm zF zle; exact sq_E31_1) ?_)); (try (refine WE.calm 6 (by decide +kernel) rfl rfl (by decide +kernel) rfl (fun c h => by cases h) (by intro zm zF zle; exact sq_E31_1) ?_)); (try (refine WE.calm 7 (by decide +kernel) rfl rfl (by decide +kernel) rfl (fun c h => by cases h) (by intro zm zF zle; exact sq_E31_1) ?_)); (try (refine WE.calm 8 (by decide +kernel) rfl rfl (by decide +kernel) rfl (fun c h => by cases h) (by intro zm zF zle; exact sq_E31_1) ?_)); (try (refine WE.calm 9 (by decide +kernel) rfl rfl (by decide +kernel) rfl (fun c h => by cases h) (by intro zm zF zle; exact sq_E31_1) ?_)); (try (refine WE.calm 10 (by decide +kernel) rfl rfl (by decide +kernel) rfl (fun c h => by cases h) (by intro zm zF zle; exact sq_E31_1) ?_)); (try (refine WE.calm 11 (by decide +kernel) rfl rfl (by decide +kernel) rfl (fun c h => by cases h) (by intro zm zF zle; exact sq_E31_1) ?_)); (try (refine WE.calm 12 (by decide +kernel) rfl rfl (by decide +kernel) rfl (fun c h => by cases h) (by intro zm zF zle; exact sq_E31_1) ?_)); (try (refine WE.calm 13 (by decide +kernel) rfl rfl (by decide +kernel) rfl (fun c h => by cases h) (by intro zm zF zle; exact sq_E31_1) ?_)); (try (refine WE.calm 14 (by decide +kernel) rfl rfl (by decide +kernel) rfl (fun c h => by cases h) (by intro zm zF zle; exact sq_E31_1) ?_)); (try (refine WE.calm 15 (by decide +kernel) rfl rfl (by decide +kernel) rfl (fun c h => by cases h) (by intro zm zF zle; exact sq_E31_1) ?_)); (try (refine WE.calm 16 (by decide +kernel) rfl rfl (by decide +kernel) rfl (fun c h => by cases h) (by intro zm zF zle; exact sq_E31_1) ?_)); (try (refine WE.calm 17 (by decide +kernel) rfl rfl (by decide +kernel) rfl (fun c h => by cases h) (by intro zm zF zle; exact sq_E31_1) ?_)); (try (refine WE.calm 18 (by decide +kernel) rfl rfl (by decide +kernel) rfl (fun c h => by cases h) (by intro zm zF zle; exact sq_E31_1) ?_)); (try (refine WE.calm 19 (by decide +kernel) rfl rfl (by decide +kernel) rfl (fun c h => by cases h) (by intro zm zF zle; exact sq_E31_1) ?_)); (try (refine WE.calm 20 (by decide +kernel) rfl rfl (by decide +kernel) rfl (fun c h => by cases h) (by intro zm zF zle; exact sq_E31_1) ?_)); (try (refine WE.calm 21 (by decide +kernel) rfl rfl (by decide +kernel) rfl (fun c h => by cases h) (by intro zm zF zle; exact sq_E31_1) ?_)); (try (refine WE.calm 22 (by decide +kernel) rfl rfl (by decide +kernel) rfl (fun c h => by cases h) (by intro zm zF zle; exact sq_E31_1) ?_)); (try (refine WE.calm 23 (by decide +kernel) rfl rfl (by decide +kernel) rfl (fun c h => by cases h) (by intro zm zF zle; exact sq_E31_1) ?_)); (try (refine WE.calm 24 (by decide +kernel) rfl rfl (by decide +kernel) rfl (fun c h => by cases h) (by intro zm zF zle; exact sq_E31_1) ?_)); (try (refine WE.calm 25 (by decide +kernel) rfl rfl (by decide +kernel) rfl (fun c h => by cases h) (by intro zm zF zle; exact sq_E31_1) ?_)); (try (refine WE.calm 26 (by decide +kernel) rfl rfl (by decide +kernel) rfl (fun c h => by cases h) (by intro zm zF zle; exact sq_E31_1) ?_)); (try (refine WE.calm 27 (by decide +kernel) rfl rfl (by decide +kernel) rfl (fun c h => by cases h) (by intro zm zF zle; exact sq_E31_1) ?_)); (try (refine WE.calm 28 (by decide +kernel) rfl rfl (by decide +kernel) rfl (fun c h => by cases h) (by intro zm zF zle; exact sq_E31_1) ?_)); (try (refine WE.calm 29 (by decide +kernel) rfl rfl (by decide +kernel) rfl (fun c h => by cases h) (by intro zm zF zle; exact sq_E31_1) ?_)); (try (refine WE.calm 30 (by decide +kernel) rfl rfl (by decide +kernel) rfl (fun c h => by cases h) (by intro zm zF zle; exact sq_E31_1) ?_)); (try (refine WE.calm 31 (by decide +kernel) rfl rfl (by decide +kernel) rfl (fun c h => by cases h) (by intro zm zF zle; exact sq_E31_1) ?_)); (try (refine WE.calm 32 (by decide +kernel) rfl rfl (by decide +kernel) rfl (fun c h => by cases h) (by intro zm zF zle; exact sq_E31_1) ?_)); (try (refine WE.calm 33 (by decide +kernel) rfl rfl (by decide +kernel) rfl (fun c h => by cases h) (by intro zm zF zle; exact sq_E31_1) ?_)); (try (refine WE.calm 34 (by decide +kernel) rfl rfl (by decide +kernel) rfl (fun c h => by cases h) (by intro zm zF zle; exact sq_E31_1) ?_)); (try (refine WE.calm 35 (by decide +kernel) rfl rfl (by decide +kernel) rfl (fun c h => by cases h) (by intro zm zF zle; exact sq_E31_1) ?_)); (try (refine WE.calm 36 (by decide +kernel) rfl rfl (by decide +kernel) rfl (fun c h => by cases h) (by intro zm zF zle; exact sq_E31_1) ?_)); (try (refine WE.calm 37 (by decide +kernel) rfl rfl (by decide +kernel) rfl (fun c h => by cases h) (by intro zm zF zle; exact sq_E31_1) ?_)); (try (refine WE.calm 38 (by decide +kernel) rfl rfl (by decide +kernel) rfl (fun c h => by cases h) (by intro zm zF zle; exact sq_E31_1) ?_)); (try (refine WE.calm 39 (by decide +kernel) rfl rfl (by decide +kernel) rfl (fun c h => by cases h) (by intro zm zF zle; exact sq_E31_1) ?_)); (try (refine WE.calm 40 (by decide +kernel) rfl rfl (by decide +kernel) rfl (fun c h => by cases h) (by intro zm zF zle; exact sq_E31_1) ?_)); (try (refine WE.calm 41 (by decide +kernel) rfl rfl (by decide +kernel) rfl (fun c h => by cases h) (by intro zm zF zle; exact sq_E31_1) ?_)))
  refine WE.act0 17 (by decide +kernel) rfl rfl (fun c h => by cases h) ?_
  (try (refine st_E31_1 ?_; intros))
  refine WQ.stored (B := []) (U := .blk b (.cells [.slice c1 B0.l.length cp1, str ((t.take (t.length - footOf s t)).drop (headOf s t)), str ((s.take (s.length - footOf s t)).drop (headOf s t))].toArray 98 (0, 0)) :: .row c1 cp1 59 3 (B0.l.map Stp.cs) :: H1) (Mem.le.refl _) (fun w h => Pick.sat (by iterate 60 (try (first | exact Pick.all | (apply Pick.take; (· (repeat (first | exact Out.here | apply Out.there)))) | apply Pick.drop))) h) ?_
  refine WE.done (by decide +kernel) ?_
  (try (refine st_E31_1 ?_; intros))
  have hP : ((t.take (t.length - footOf s t)).drop (headOf s t)).length ≤ 65536 := by rw [List.length_drop, List.length_take]; omega
  have hD : ((s.take (s.length - footOf s t)).drop (headOf s t)).length ≤ 65536 := by rw [List.length_drop, List.length_take]; omega
  generalize (t.take (t.length - footOf s t)).drop (headOf s t) = P at *
  generalize (s.take (s.length - footOf s t)).drop (headOf s t) = D at *
  have hB1 : BFit 1000000 (⟨B0.l, P, D⟩ : Bld) := ⟨by have := hB0.len; simp only; omega, fun x hx => by have := hB0.k x hx; omega, by simp only; omega, by simp only; omega⟩
  have hB2 := hB1.keep (n := footOf s t)
  have hB2l := hB2.len
  refine WL.heap (H' := .blk b (.cells [.slice c1 (⟨B0.l, P, D⟩ : Bld).l.length cp1, str (⟨B0.l, P, D⟩ : Bld).p, str (⟨B0.l, P, D⟩ : Bld).d].toArray 98 (0, 0)) :: .row c1 cp1 59 3 ((⟨B0.l, P, D⟩ : Bld).l.map Stp.cs) :: H1) (fun w h => Pick.sat (by iterate 60 (try (first | exact Pick.all | (apply Pick.take; (· (repeat (first | exact Out.here | apply Out.there)))) | apply Pick.drop))) h) ?_
  refine w_callF Try.func55 ?_ (hs := keep_any ⟨B0.l, P, D⟩ (footOf s t) (by omega) (hB1.mono (by omega)) _ _ _)
  rintro v m H2 ⟨rfl, rfl, c2, cp2, rfl⟩
  rw [hl]
  generalize (⟨B0.l, P, D⟩ : Bld).keep (footOf s t : Int) = B2 at *
  (try (refine st_E31_1 ?_; intros))
  refine w_callF Try.func48 ?_ (hs := done_any B2 (by omega) _ _ _)
  rintro v m H2 ⟨rfl, c3, cp3, rfl, rfl⟩
  (try (refine st_E31_1 ?_; intros))
  exact q_fin0 (H0 := .row c3 cp3 59 3 (B2.close.l.map Stp.cs) :: H1) ⟨rfl, c3, cp3, rfl, rfl⟩ (hd := (fun w h => Pick.sat (by iterate 60 (try (first | exact Pick.all | (apply Pick.take; (· (repeat (first | exact Out.here | apply Out.there)))) | apply Pick.drop))) h))
end Go.Proofs.Ytelgegefmjlimaa

