/-
  The walks of runes.Compare and of the reference's. No condition.
-/
import Derived.Test.YtdmdabjaboigcaaR20
namespace Go.Proofs.Ytdmdabjaboigcaa
open Go Go.Eng
set_option maxRecDepth 100000
set_option maxHeartbeats 4000000
set_option linter.all false
attribute [local irreducible] WL WC WQ QFun QLoop Does Q1 QRound QAssign Go.Addr.add
theorem read_is {l : List UInt8} {z : Int} {k : Nat} {p : Pc} (hz : z = (k : Int)) (hl : l.length ≤ 9223372036854775804) (hk : k < l.length) (h : readP l k = p) (w0 : World) (m : Mem) (H : SHeap) :
    Does Try.prog 67 #[str l, .int .i64 z] w0 m H (Gives p.v m H) := by subst h; exact read_z l hz hl hk w0 m H
theorem compare_any (a b : List UInt8) (ha : a.length ≤ 1000000000) (hb : b.length ≤ 1000000000) (w0 : World) (m : Mem) (H : SHeap) :
    Does Try.prog 42 #[str a, str b] w0 m H (Gives (.int .i64 (cmpL (W a) (W b))) m H) := by
  refine Does.of_body (args := [str a, str b]) Try.func42 rfl Try.ntmps42 rfl ?_
  (try (refine st ?_; intros))
  refine w_callF Try.func76 ?_ (hs := shared_any a b ha hb _ _ _)
  rintro _ m H ⟨n, k, rfl, rfl, rfl, hS, hstop⟩
  have hd := (hS.done hstop).2
  have hka : k ≤ a.length := by obtain ⟨_, _, _, _, _, _, _, h, _⟩ := hS; exact h
  have hkb : k ≤ b.length := by obtain ⟨_, _, _, _, _, _, _, _, h⟩ := hS; exact h
  rw [← W, ← W] at hd
  rw [hd]
  by_cases h1 : k = a.length
  · by_cases h2 : k = b.length
    · (try (refine st ?_; intros))
      (refine q_fin0 ?_)
      exact Gives.mk (vi (by rw [if_pos ⟨h1, h2⟩]))
    · (try (refine st ?_; intros))
      (refine q_fin0 ?_)
      exact Gives.mk (vi (by rw [if_neg (by omega), if_pos h1]))
  · by_cases h2 : k = b.length
    · (try (refine st ?_; intros))
      (refine q_fin0 ?_)
      exact Gives.mk (vi (by rw [if_neg (by omega), if_neg h1, if_pos h2]))
    · rw [if_neg (by omega), if_neg h1, if_neg h2, wt_read, wt_read]
      have hg1 := gb_lt a k
      have hg2 := gb_lt b k
      have hc1 := readP_cases (show k < a.length by omega)
      have hc2 := readP_cases (show k < b.length by omega)
      have ha1 : k < a.length := by omega
      have hb1 : k < b.length := by omega
      rcases hp : readP a k with ⟨pa, pw, pr, pb⟩
      rcases hq : readP b k with ⟨qa, qw, qr, qb⟩
      rw [hp] at hc1
      rw [hq] at hc2
      simp only at hc1 hc2 ⊢
      (try (refine st ?_; intros))
      refine w_callF Try.func67 ?_ (hs := read_is (by (first | with_reducible exact natz _ | with_reducible exact natz0 | with_reducible exact natz1 | with_reducible exact natz2 | with_reducible exact natz3 | with_reducible exact natz4 | with_reducible exact natz8 | (apply natz_add; (· first | with_reducible exact natz _ | with_reducible exact natz0 | with_reducible exact natz1 | with_reducible exact natz2 | with_reducible exact natz3 | with_reducible exact natz4 | with_reducible exact natz8); (· first | with_reducible exact natz _ | with_reducible exact natz0 | with_reducible exact natz1 | with_reducible exact natz2 | with_reducible exact natz3 | with_reducible exact natz4 | with_reducible exact natz8)) | (apply natz_sub; (· first | with_reducible exact natz _ | with_reducible exact natz0 | with_reducible exact natz1 | with_reducible exact natz2 | with_reducible exact natz3 | with_reducible exact natz4 | with_reducible exact natz8); (· first | with_reducible exact natz _ | with_reducible exact natz0 | with_reducible exact natz1 | with_reducible exact natz2 | with_reducible exact natz3 | with_reducible exact natz4 | with_reducible exact natz8); (· omega)) | exact (Int.toNat_of_nonneg (by omega)).symm)) (by omega) ha1 hp _ _ _)
      rintro _ m H ⟨rfl, rfl, rfl⟩
      (try (refine st ?_; intros))
      refine w_callF Try.func67 ?_ (hs := read_is (by (first | with_reducible exact natz _ | with_reducible exact natz0 | with_reducible exact natz1 | with_reducible exact natz2 | with_reducible exact natz3 | with_reducible exact natz4 | with_reducible exact natz8 | (apply natz_add; (· first | with_reducible exact natz _ | with_reducible exact natz0 | with_reducible exact natz1 | with_reducible exact natz2 | with_reducible exact natz3 | with_reducible exact natz4 | with_reducible exact natz8); (· first | with_reducible exact natz _ | with_reducible exact natz0 | with_reducible exact natz1 | with_reducible exact natz2 | with_reducible exact natz3 | with_reducible exact natz4 | with_reducible exact natz8)) | (apply natz_sub; (· first | with_reducible exact natz _ | with_reducible exact natz0 | with_reducible exact natz1 | with_reducible exact natz2 | with_reducible exact natz3 | with_reducible exact natz4 | with_reducible exact natz8); (· first | with_reducible exact natz _ | with_reducible exact natz0 | with_reducible exact natz1 | with_reducible exact natz2 | with_reducible exact natz3 | with_reducible exact natz4 | with_reducible exact natz8); (· omega)) | exact (Int.toNat_of_nonneg (by omega)).symm)) (by omega) hb1 hq _ _ _)
      rintro _ m H ⟨rfl, rfl, rfl⟩
      cases pb with
      | true =>
        cases qb with
        | true =>
          by_cases hlt : gb a k < gb b k
          · (try (refine st ?_; intros))
            (refine q_fin0 ?_)
            exact Gives.mk (vi (by simp [hlt]))
          · (try (refine st ?_; intros))
            (refine q_fin0 ?_)
            exact Gives.mk (vi (by simp [hlt]))
        | false =>
          (try (refine st ?_; intros))
          (refine q_fin0 ?_)
          exact Gives.mk (vi (by simp; omega))
      | false =>
        cases qb with
        | true =>
          (try (refine st ?_; intros))
          (refine q_fin0 ?_)
          exact Gives.mk (vi (by simp; omega))
        | false =>
          by_cases hlt : pr < qr
          · have hlt2 : (⟨pa, pw, pr, false⟩ : Pc).r < (⟨qa, qw, qr, false⟩ : Pc).r := hlt
            (try (refine st ?_; intros))
            (refine q_fin0 ?_)
            exact Gives.mk (vi (by simp [hlt]))
          · have hlt2 : ¬ (⟨pa, pw, pr, false⟩ : Pc).r < (⟨qa, qw, qr, false⟩ : Pc).r := hlt
            (try (refine st ?_; intros))
            (refine q_fin0 ?_)
            exact Gives.mk (vi (by simp [hlt]))
theorem refCommon_is {a b : List UInt8} {n : Nat} (h : cm (W a) (W b) = n) (ha : a.length ≤ 1048576) (hb : b.length ≤ 1048576) (w0 : World) (m : Mem) (H : SHeap) :
    Does Try.prog 45 #[str a, str b] w0 m H (Gives (.int .i64 (n : Int)) m H) := by subst h; exact refCommon_any a b ha hb w0 m H
theorem W_at {l : List UInt8} {n x : Nat} (h : (W l)[n]? = some x) : ∃ p, ((pieces l).map Pc.cs)[n]? = some p.cs ∧ p ∈ pieces l ∧ wt l p = x := by
  rw [W, List.getElem?_map] at h
  obtain ⟨p, h1, h2⟩ := Option.map_eq_some_iff.1 h
  exact ⟨p, by rw [List.getElem?_map, h1]; rfl, List.mem_of_getElem? h1, h2⟩
theorem sq_R21_1 {G : Prop} (h : G := by (repeat (first | (refine sp ?_; (repeat intro zzc)) | (refine iF 77 rfl ?_; refine w_callG Try.func77 ?_ (hs := weight_any _ _ (by assumption) (by omega) _ _ _)) | (refine iF 45 rfl ?_; refine w_callG Try.func45 ?_ (hs := refCommon_is (by assumption) (by omega) (by omega) _ _ _)))); exact WQ.q1 rfl) : G := h
theorem st_R21_1 {G G' : Prop} (next : G') (h : Bx G' → G := by intro zzn; (first | ((refine st ?_; (repeat intro zzc)); (try ((first | (refine iF 77 rfl ?_; refine w_callG Try.func77 ?_ (hs := weight_any _ _ (by assumption) (by omega) _ _ _)) | (refine iF 45 rfl ?_; refine w_callG Try.func45 ?_ (hs := refCommon_is (by assumption) (by omega) (by omega) _ _ _)) | ((refine iDraw ?_; (first | refine WC.drawAll rfl (by decide +kernel) ?_ | refine WC.draw 1 rfl (by decide +kernel) ?_ | refine WC.draw 2 rfl (by decide +kernel) ?_ | refine WC.draw 3 rfl (by decide +kernel) ?_ | refine WC.draw 4 rfl (by decide +kernel) ?_ | refine WC.draw 5 rfl (by decide +kernel) ?_ | refine WC.draw 6 rfl (by decide +kernel) ?_ | refine WC.draw 7 rfl (by decide +kernel) ?_ | refine WC.draw 8 rfl (by decide +kernel) ?_ | refine WC.draw 9 rfl (by decide +kernel) ?_ | refine WC.draw 10 rfl (by decide +kernel) ?_ | refine WC.draw 11 rfl (by decide +kernel) ?_ | refine WC.draw 12 rfl (by decide +kernel) ?_ | refine WC.draw 13 rfl (by decide +kernel) ?_ | refine WC.draw 14 rfl (by decide +kernel) ?_ | refine WC.draw 15 rfl (by decide +kernel) ?_ | refine WC.draw 16 rfl (by decide +kernel) ?_ | refine WC.draw 17 rfl (by decide +kernel) ?_ | refine WC.draw 18 rfl (by decide +kernel) ?_ | refine WC.draw 19 rfl (by decide +kernel) ?_ | refine WC.draw 20 rfl (by decide +kernel) ?_ | refine WC.draw 21 rfl (by decide +kernel) ?_ | refine WC.draw 22 rfl (by decide +kernel) ?_ | refine WC.draw 23 rfl (by decide +kernel) ?_ | refine WC.draw 24 rfl (by decide +kernel) ?_)); (repeat (refine WD.cons rfl (fun c h => by cases h) sq_R21_1 ?_)); refine WD.nil ?_)); (try (refine st ?_; (repeat intro zzc)))))) | ((first | (refine iF 77 rfl ?_; refine w_callG Try.func77 ?_ (hs := weight_any _ _ (by assumption) (by omega) _ _ _)) | (refine iF 45 rfl ?_; refine w_callG Try.func45 ?_ (hs := refCommon_is (by assumption) (by omega) (by omega) _ _ _)) | ((refine iDraw ?_; (first | refine WC.drawAll rfl (by decide +kernel) ?_ | refine WC.draw 1 rfl (by decide +kernel) ?_ | refine WC.draw 2 rfl (by decide +kernel) ?_ | refine WC.draw 3 rfl (by decide +kernel) ?_ | refine WC.draw 4 rfl (by decide +kernel) ?_ | refine WC.draw 5 rfl (by decide +kernel) ?_ | refine WC.draw 6 rfl (by decide +kernel) ?_ | refine WC.draw 7 rfl (by decide +kernel) ?_ | refine WC.draw 8 rfl (by decide +kernel) ?_ | refine WC.draw 9 rfl (by decide +kernel) ?_ | refine WC.draw 10 rfl (by decide +kernel) ?_ | refine WC.draw 11 rfl (by decide +kernel) ?_ | refine WC.draw 12 rfl (by decide +kernel) ?_ | refine WC.draw 13 rfl (by decide +kernel) ?_ | refine WC.draw 14 rfl (by decide +kernel) ?_ | refine WC.draw 15 rfl (by decide +kernel) ?_ | refine WC.draw 16 rfl (by decide +kernel) ?_ | refine WC.draw 17 rfl (by decide +kernel) ?_ | refine WC.draw 18 rfl (by decide +kernel) ?_ | refine WC.draw 19 rfl (by decide +kernel) ?_ | refine WC.draw 20 rfl (by decide +kernel) ?_ | refine WC.draw 21 rfl (by decide +kernel) ?_ | refine WC.draw 22 rfl (by decide +kernel) ?_ | refine WC.draw 23 rfl (by decide +kernel) ?_ | refine WC.draw 24 rfl (by decide +kernel) ?_)); (repeat (refine WD.cons rfl (fun c h => by cases h) sq_R21_1 ?_)); refine WD.nil ?_)); (try (refine st ?_; (repeat intro zzc))))); (repeat ((first | (refine iF 77 rfl ?_; refine w_callG Try.func77 ?_ (hs := weight_any _ _ (by assumption) (by omega) _ _ _)) | (refine iF 45 rfl ?_; refine w_callG Try.func45 ?_ (hs := refCommon_is (by assumption) (by omega) (by omega) _ _ _)) | ((refine iDraw ?_; (first | refine WC.drawAll rfl (by decide +kernel) ?_ | refine WC.draw 1 rfl (by decide +kernel) ?_ | refine WC.draw 2 rfl (by decide +kernel) ?_ | refine WC.draw 3 rfl (by decide +kernel) ?_ | refine WC.draw 4 rfl (by decide +kernel) ?_ | refine WC.draw 5 rfl (by decide +kernel) ?_ | refine WC.draw 6 rfl (by decide +kernel) ?_ | refine WC.draw 7 rfl (by decide +kernel) ?_ | refine WC.draw 8 rfl (by decide +kernel) ?_ | refine WC.draw 9 rfl (by decide +kernel) ?_ | refine WC.draw 10 rfl (by decide +kernel) ?_ | refine WC.draw 11 rfl (by decide +kernel) ?_ | refine WC.draw 12 rfl (by decide +kernel) ?_ | refine WC.draw 13 rfl (by decide +kernel) ?_ | refine WC.draw 14 rfl (by decide +kernel) ?_ | refine WC.draw 15 rfl (by decide +kernel) ?_ | refine WC.draw 16 rfl (by decide +kernel) ?_ | refine WC.draw 17 rfl (by decide +kernel) ?_ | refine WC.draw 18 rfl (by decide +kernel) ?_ | refine WC.draw 19 rfl (by decide +kernel) ?_ | refine WC.draw 20 rfl (by decide +kernel) ?_ | refine WC.draw 21 rfl (by decide +kernel) ?_ | refine WC.draw 22 rfl (by decide +kernel) ?_ | refine WC.draw 23 rfl (by decide +kernel) ?_ | refine WC.draw 24 rfl (by decide +kernel) ?_)); (repeat (refine WD.cons rfl (fun c h => by cases h) sq_R21_1 ?_)); refine WD.nil ?_)); (try (refine st ?_; (repeat intro zzc))))); (repeat revert zzc); exact zzn.out) : G := h ⟨next⟩
theorem refCompare_any (a b : List UInt8) (ha : a.length ≤ 1048576) (hb : b.length ≤ 1048576) (w0 : World) (m : Mem) (H : SHeap) :
    Does Try.prog 43 #[str a, str b] w0 m H (Gives (.int .i64 (cmpL (W a) (W b))) m H) := by
  refine Does.of_body (args := [str a, str b]) Try.func43 rfl Try.ntmps43 rfl ?_
  have hpa := pieces_length a
  have hpb := pieces_length b
  have hWa := W_length a
  have hWb := W_length b
  have hma : ((pieces a).map Pc.cs).length = (pieces a).length := by simp
  have hmb : ((pieces b).map Pc.cs).length = (pieces b).length := by simp
  obtain ⟨P, X, Y, e1, e2, hcm, hst⟩ := cm_split (W a) (W b)
  have hl1 : (W a).length = P.length + X.length := by rw [e1]; simp
  have hl2 : (W b).length = P.length + Y.length := by rw [e2]; simp
  have hcl : cmpL (W a) (W b) = cmpL X Y := by rw [e1, e2, cmpL_pre]
  rw [hcl]
  (try (refine st_R21_1 ?_; intros))
  refine w_callF Try.func19 ?_ (hs := refPieces_any _ (by omega) _ _ _)
  rintro _ m _ ⟨x0, cx, rfl, rfl, rfl⟩
  (try (refine st_R21_1 ?_; intros))
  refine w_callF Try.func19 ?_ (hs := refPieces_any _ (by omega) _ _ _)
  rintro _ m _ ⟨y0, cy, rfl, rfl, rfl⟩
  cases X with
  | nil =>
    simp only [List.length_nil] at hl1
    cases Y with
    | nil =>
      simp only [List.length_nil] at hl2
      (try (refine st_R21_1 ?_; intros))
      (refine q_fin0 ?_)
      exact Gives.mk rfl
    | cons y Y =>
      simp only [List.length_cons] at hl2
      (try (refine st_R21_1 ?_; intros))
      (refine q_fin0 ?_)
      exact Gives.mk rfl
  | cons x X =>
    simp only [List.length_cons] at hl1
    obtain ⟨p, hget1, hmem1, hw1⟩ := W_at (l := a) (n := P.length) (x := x) (by rw [e1]; simp)
    have hok1 := mem_ok hmem1
    refine WL.rowSome (a := x0) (by (repeat (first | exact List.Mem.head _ | apply List.Mem.tail))) (by omega) ?_
    rintro x1 rfl
    cases Y with
    | nil =>
      simp only [List.length_nil] at hl2
      (try (refine st_R21_1 ?_; intros))
      (refine q_fin0 ?_)
      exact Gives.mk rfl
    | cons y Y =>
      simp only [List.length_cons] at hl2
      obtain ⟨q, hget2, hmem2, hw2⟩ := W_at (l := b) (n := P.length) (x := y) (by rw [e2]; simp)
      have hok2 := mem_ok hmem2
      refine WL.rowSome (a := y0) (by (repeat (first | exact List.Mem.head _ | apply List.Mem.tail))) (by omega) ?_
      rintro y1 rfl
      have hne : x ≠ y := hst
      by_cases hlt : wt a p < wt b q
      · (try (refine st_R21_1 ?_; intros))
        (refine q_fin0 ?_)
        exact Gives.mk (vi (by simp only [cmpL]; rw [if_neg hne, if_pos (by omega)]))
      · (try (refine st_R21_1 ?_; intros))
        (refine q_fin0 ?_)
        exact Gives.mk (vi (by simp only [cmpL]; rw [if_neg hne, if_neg (by omega)]))
end Go.Proofs.Ytdmdabjaboigcaa
