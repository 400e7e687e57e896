/-
  Parts of a walk, joined: R21 R22 R23 RT8 R24 R25 R28 R26 R29 EngQ. No condition.
-/
import Derived.Test.YtdmdabjaboigcaaP7
import Derived.Test.YtdmdabjaboigcaaP3
import Derived.ChangeMaps5
import Derived.ReadAgain
import Derived.ChangeBook
import Derived.Deep.Slices
import Derived.WalkKit
import Derived.ProofKit
import Derived.OpenShut
import Derived.JoinedCond
/-
  The walks of runes.Compare and of the reference's. No condition.
-/
namespace Go.Proofs.Ytdmdabjaboigcaa
open Go Go.Eng
set_option maxRecDepth 100000
set_option maxHeartbeats 4000000
set_option linter.all false
attribute [local irreducible] WL WC WQ QFun QLoop Does Q1 QRound QAssign Go.Addr.add
theorem read_is {l : List UInt8} {z : Int} {k : Nat} {p : Pc} (hz : z = (k : Int)) (hl : l.length ≤ 9223372036854775804) (hk : k < l.length) (h : readP l k = p) (w0 : World) (m : Mem) (H : SHeap) :
    Does Try.prog 67 #[str l, .int .i64 z] w0 m H (Gives p.v m H) := by subst h; exact read_z l hz hl hk w0 m H
theorem compare_any (a b : List UInt8) (ha : a.length ≤ 1000000000) (hb : b.length ≤ 1000000000) (w0 : World) (m : Mem) (H : SHeap) :
    Does Try.prog 42 #[str a, str b] w0 m H (Gives (.int .i64 (cmpL (W a) (W b))) m H) := by
  refine Does.of_body (args := [str a, str b]) Try.func42 rfl Try.ntmps42 rfl ?_
  (try (refine st ?_; intros))
  refine w_callF Try.func76 ?_ (hs := shared_any a b ha hb _ _ _)
  rintro _ m H ⟨n, k, rfl, rfl, rfl, hS, hstop⟩
  have hd := (hS.done hstop).2
  have hka : k ≤ a.length := by obtain ⟨_, _, _, _, _, _, _, h, _⟩ := hS; exact h
  have hkb : k ≤ b.length := by obtain ⟨_, _, _, _, _, _, _, _, h⟩ := hS; exact h
  rw [← W, ← W] at hd
  rw [hd]
  by_cases h1 : k = a.length
  · by_cases h2 : k = b.length
    · (try (refine st ?_; intros))
      (refine q_fin0 ?_)
      exact Gives.mk (vi (by rw [if_pos ⟨h1, h2⟩]))
    · (try (refine st ?_; intros))
      (refine q_fin0 ?_)
      exact Gives.mk (vi (by rw [if_neg (by omega), if_pos h1]))
  · by_cases h2 : k = b.length
    · (try (refine st ?_; intros))
      (refine q_fin0 ?_)
      exact Gives.mk (vi (by rw [if_neg (by omega), if_neg h1, if_pos h2]))
    · rw [if_neg (by omega), if_neg h1, if_neg h2, wt_read, wt_read]
      have hg1 := gb_lt a k
      have hg2 := gb_lt b k
      have hc1 := readP_cases (show k < a.length by omega)
      have hc2 := readP_cases (show k < b.length by omega)
      have ha1 : k < a.length := by omega
      have hb1 : k < b.length := by omega
      rcases hp : readP a k with ⟨pa, pw, pr, pb⟩
      rcases hq : readP b k with ⟨qa, qw, qr, qb⟩
      rw [hp] at hc1
      rw [hq] at hc2
      simp only at hc1 hc2 ⊢
      (try (refine st ?_; intros))
      refine w_callF Try.func67 ?_ (hs := read_is (by (first | with_reducible exact natz _ | with_reducible exact natz0 | with_reducible exact natz1 | with_reducible exact natz2 | with_reducible exact natz3 | with_reducible exact natz4 | with_reducible exact natz8 | (apply natz_add; (· first | with_reducible exact natz _ | with_reducible exact natz0 | with_reducible exact natz1 | with_reducible exact natz2 | with_reducible exact natz3 | with_reducible exact natz4 | with_reducible exact natz8); (· first | with_reducible exact natz _ | with_reducible exact natz0 | with_reducible exact natz1 | with_reducible exact natz2 | with_reducible exact natz3 | with_reducible exact natz4 | with_reducible exact natz8)) | (apply natz_sub; (· first | with_reducible exact natz _ | with_reducible exact natz0 | with_reducible exact natz1 | with_reducible exact natz2 | with_reducible exact natz3 | with_reducible exact natz4 | with_reducible exact natz8); (· first | with_reducible exact natz _ | with_reducible exact natz0 | with_reducible exact natz1 | with_reducible exact natz2 | with_reducible exact natz3 | with_reducible exact natz4 | with_reducible exact natz8); (· omega)) | exact (Int.toNat_of_nonneg (by omega)).symm)) (by omega) ha1 hp _ _ _)
      rintro _ m H ⟨rfl, rfl, rfl⟩
      (try (refine st ?_; intros))
      refine w_callF Try.func67 ?_ (hs := read_is (by (first | with_reducible exact natz _ | with_reducible exact natz0 | with_reducible exact natz1 | with_reducible exact natz2 | with_reducible exact natz3 | with_reducible exact natz4 | with_reducible exact natz8 | (apply natz_add; (· first | with_reducible exact natz _ | with_reducible exact natz0 | with_reducible exact natz1 | with_reducible exact natz2 | with_reducible exact natz3 | with_reducible exact natz4 | with_reducible exact natz8); (· first | with_reducible exact natz _ | with_reducible exact natz0 | with_reducible exact natz1 | with_reducible exact natz2 | with_reducible exact natz3 | with_reducible exact natz4 | with_reducible exact natz8)) | (apply natz_sub; (· first | with_reducible exact natz _ | with_reducible exact natz0 | with_reducible exact natz1 | with_reducible exact natz2 | with_reducible exact natz3 | with_reducible exact natz4 | with_reducible exact natz8); (· first | with_reducible exact natz _ | with_reducible exact natz0 | with_reducible exact natz1 | with_reducible exact natz2 | with_reducible exact natz3 | with_reducible exact natz4 | with_reducible exact natz8); (· omega)) | exact (Int.toNat_of_nonneg (by omega)).symm)) (by omega) hb1 hq _ _ _)
      rintro _ m H ⟨rfl, rfl, rfl⟩
      cases pb with
      | true =>
        cases qb with
        | true =>
          by_cases hlt : gb a k < gb b k
          · (try (refine st ?_; intros))
            (refine q_fin0 ?_)
            exact Gives.mk (vi (by simp [hlt]))
          · (try (refine st ?_; intros))
            (refine q_fin0 ?_)
            exact Gives.mk (vi (by simp [hlt]))
        | false =>
          (try (refine st ?_; intros))
          (refine q_fin0 ?_)
          exact Gives.mk (vi (by simp; omega))
      | false =>
        cases qb with
        | true =>
          (try (refine st ?_; intros))
          (refine q_fin0 ?_)
          exact Gives.mk (vi (by simp; omega))
        | false =>
          by_cases hlt : pr < qr
          · have hlt2 : (⟨pa, pw, pr, false⟩ : Pc).r < (⟨qa, qw, qr, false⟩ : Pc).r := hlt
            (try (refine st ?_; intros))
            (refine q_fin0 ?_)
            exact Gives.mk (vi (by simp [hlt]))
          · have hlt2 : ¬ (⟨pa, pw, pr, false⟩ : Pc).r < (⟨qa, qw, qr, false⟩ : Pc).r := hlt
            (try (refine st ?_; intros))
            (refine q_fin0 ?_)
            exact Gives.mk (vi (by simp [hlt]))
theorem refCommon_is {a b : List UInt8} {n : Nat} (h : cm (W a) (W b) = n) (ha : a.length ≤ 1048576) (hb : b.length ≤ 1048576) (w0 : World) (m : Mem) (H : SHeap) :
    Does Try.prog 45 #[str a, str b] w0 m H (Gives (.int .i64 (n : Int)) m H) := by subst h; exact refCommon_any a b ha hb w0 m H
theorem W_at {l : List UInt8} {n x : Nat} (h : (W l)[n]? = some x) : ∃ p, ((pieces l).map Pc.cs)[n]? = some p.cs ∧ p ∈ pieces l ∧ wt l p = x := by
  rw [W, List.getElem?_map] at h
  obtain ⟨p, h1, h2⟩ := Option.map_eq_some_iff.1 h
  exact ⟨p, by rw [List.getElem?_map, h1]; rfl, List.mem_of_getElem? h1, h2⟩
theorem sq_R21_1 {G : Prop} (h : G := by (repeat (first | (refine sp ?_; (repeat intro zzc)) | (refine iF 77 rfl ?_; refine w_callG Try.func77 ?_ (hs := weight_any _ _ (by assumption) (by omega) _ _ _)) | (refine iF 45 rfl ?_; refine w_callG Try.func45 ?_ (hs := refCommon_is (by assumption) (by omega) (by omega) _ _ _)))); exact WQ.q1 rfl) : G := h
theorem st_R21_1 {G G' : Prop} (next : G') (h : Bx G' → G := by intro zzn; (first | ((refine st ?_; (repeat intro zzc)); (try ((first | (refine iF 77 rfl ?_; refine w_callG Try.func77 ?_ (hs := weight_any _ _ (by assumption) (by omega) _ _ _)) | (refine iF 45 rfl ?_; refine w_callG Try.func45 ?_ (hs := refCommon_is (by assumption) (by omega) (by omega) _ _ _)) | ((refine iDraw ?_; (first | refine WC.drawAll rfl (by decide +kernel) ?_ | refine WC.draw 1 rfl (by decide +kernel) ?_ | refine WC.draw 2 rfl (by decide +kernel) ?_ | refine WC.draw 3 rfl (by decide +kernel) ?_ | refine WC.draw 4 rfl (by decide +kernel) ?_ | refine WC.draw 5 rfl (by decide +kernel) ?_ | refine WC.draw 6 rfl (by decide +kernel) ?_ | refine WC.draw 7 rfl (by decide +kernel) ?_ | refine WC.draw 8 rfl (by decide +kernel) ?_ | refine WC.draw 9 rfl (by decide +kernel) ?_ | refine WC.draw 10 rfl (by decide +kernel) ?_ | refine WC.draw 11 rfl (by decide +kernel) ?_ | refine WC.draw 12 rfl (by decide +kernel) ?_ | refine WC.draw 13 rfl (by decide +kernel) ?_ | refine WC.draw 14 rfl (by decide +kernel) ?_ | refine WC.draw 15 rfl (by decide +kernel) ?_ | refine WC.draw 16 rfl (by decide +kernel) ?_ | refine WC.draw 17 rfl (by decide +kernel) ?_ | refine WC.draw 18 rfl (by decide +kernel) ?_ | refine WC.draw 19 rfl (by decide +kernel) ?_ | refine WC.draw 20 rfl (by decide +kernel) ?_ | refine WC.draw 21 rfl (by decide +kernel) ?_ | refine WC.draw 22 rfl (by decide +kernel) ?_ | refine WC.draw 23 rfl (by decide +kernel) ?_ | refine WC.draw 24 rfl (by decide +kernel) ?_)); (repeat (refine WD.cons rfl (fun c h => by cases h) sq_R21_1 ?_)); refine WD.nil ?_)); (try (refine st ?_; (repeat intro zzc)))))) | ((first | (refine iF 77 rfl ?_; refine w_callG Try.func77 ?_ (hs := weight_any _ _ (by assumption) (by omega) _ _ _)) | (refine iF 45 rfl ?_; refine w_callG Try.func45 ?_ (hs := refCommon_is (by assumption) (by omega) (by omega) _ _ _)) | ((refine iDraw ?_; (first | refine WC.drawAll rfl (by decide +kernel) ?_ | refine WC.draw 1 rfl (by decide +kernel) ?_ | refine WC.draw 2 rfl (by decide +kernel) ?_ | refine WC.draw 3 rfl (by decide +kernel) ?_ | refine WC.draw 4 rfl (by decide +kernel) ?_ | refine WC.draw 5 rfl (by decide +kernel) ?_ | refine WC.draw 6 rfl (by decide +kernel) ?_ | refine WC.draw 7 rfl (by decide +kernel) ?_ | refine WC.draw 8 rfl (by decide +kernel) ?_ | refine WC.draw 9 rfl (by decide +kernel) ?_ | refine WC.draw 10 rfl (by decide +kernel) ?_ | refine WC.draw 11 rfl (by decide +kernel) ?_ | refine WC.draw 12 rfl (by decide +kernel) ?_ | refine WC.draw 13 rfl (by decide +kernel) ?_ | refine WC.draw 14 rfl (by decide +kernel) ?_ | refine WC.draw 15 rfl (by decide +kernel) ?_ | refine WC.draw 16 rfl (by decide +kernel) ?_ | refine WC.draw 17 rfl (by decide +kernel) ?_ | refine WC.draw 18 rfl (by decide +kernel) ?_ | refine WC.draw 19 rfl (by decide +kernel) ?_ | refine WC.draw 20 rfl (by decide +kernel) ?_ | refine WC.draw 21 rfl (by decide +kernel) ?_ | refine WC.draw 22 rfl (by decide +kernel) ?_ | refine WC.draw 23 rfl (by decide +kernel) ?_ | refine WC.draw 24 rfl (by decide +kernel) ?_)); (repeat (refine WD.cons rfl (fun c h => by cases h) sq_R21_1 ?_)); refine WD.nil ?_)); (try (refine st ?_; (repeat intro zzc))))); (repeat ((first | (refine iF 77 rfl ?_; refine w_callG Try.func77 ?_ (hs := weight_any _ _ (by assumption) (by omega) _ _ _)) | (refine iF 45 rfl ?_; refine w_callG Try.func45 ?_ (hs := refCommon_is (by assumption) (by omega) (by omega) _ _ _)) | ((refine iDraw ?_; (first | refine WC.drawAll rfl (by decide +kernel) ?_ | refine WC.draw 1 rfl (by decide +kernel) ?_ | refine WC.draw 2 rfl (by decide +kernel) ?_ | refine WC.draw 3 rfl (by decide +kernel) ?_ | refine WC.draw 4 rfl (by decide +kernel) ?_ | refine WC.draw 5 rfl (by decide +kernel) ?_ | refine WC.draw 6 rfl (by decide +kernel) ?_ | refine WC.draw 7 rfl (by decide +kernel) ?_ | refine WC.draw 8 rfl (by decide +kernel) ?_ | refine WC.draw 9 rfl (by decide +kernel) ?_ | refine WC.draw 10 rfl (by decide +kernel) ?_ | refine WC.draw 11 rfl (by decide +kernel) ?_ | refine WC.draw 12 rfl (by decide +kernel) ?_ | refine WC.draw 13 rfl (by decide +kernel) ?_ | refine WC.draw 14 rfl (by decide +kernel) ?_ | refine WC.draw 15 rfl (by decide +kernel) ?_ | refine WC.draw 16 rfl (by decide +kernel) ?_ | refine WC.draw 17 rfl (by decide +kernel) ?_ | refine WC.draw 18 rfl (by decide +kernel) ?_ | refine WC.draw 19 rfl (by decide +kernel) ?_ | refine WC.draw 20 rfl (by decide +kernel) ?_ | refine WC.draw 21 rfl (by decide +kernel) ?_ | refine WC.draw 22 rfl (by decide +kernel) ?_ | refine WC.draw 23 rfl (by decide +kernel) ?_ | refine WC.draw 24 rfl (by decide +kernel) ?_)); (repeat (refine WD.cons rfl (fun c h => by cases h) sq_R21_1 ?_)); refine WD.nil ?_)); (try (refine st ?_; (repeat intro zzc))))); (repeat revert zzc); exact zzn.out) : G := h ⟨next⟩
theorem refCompare_any (a b : List UInt8) (ha : a.length ≤ 1048576) (hb : b.length ≤ 1048576) (w0 : World) (m : Mem) (H : SHeap) :
    Does Try.prog 43 #[str a, str b] w0 m H (Gives (.int .i64 (cmpL (W a) (W b))) m H) := by
  refine Does.of_body (args := [str a, str b]) Try.func43 rfl Try.ntmps43 rfl ?_
  have hpa := pieces_length a
  have hpb := pieces_length b
  have hWa := W_length a
  have hWb := W_length b
  have hma : ((pieces a).map Pc.cs).length = (pieces a).length := by simp
  have hmb : ((pieces b).map Pc.cs).length = (pieces b).length := by simp
  obtain ⟨P, X, Y, e1, e2, hcm, hst⟩ := cm_split (W a) (W b)
  have hl1 : (W a).length = P.length + X.length := by rw [e1]; simp
  have hl2 : (W b).length = P.length + Y.length := by rw [e2]; simp
  have hcl : cmpL (W a) (W b) = cmpL X Y := by rw [e1, e2, cmpL_pre]
  rw [hcl]
  (try (refine st_R21_1 ?_; intros))
  refine w_callF Try.func19 ?_ (hs := refPieces_any _ (by omega) _ _ _)
  rintro _ m _ ⟨x0, cx, rfl, rfl, rfl⟩
  (try (refine st_R21_1 ?_; intros))
  refine w_callF Try.func19 ?_ (hs := refPieces_any _ (by omega) _ _ _)
  rintro _ m _ ⟨y0, cy, rfl, rfl, rfl⟩
  cases X with
  | nil =>
    simp only [List.length_nil] at hl1
    cases Y with
    | nil =>
      simp only [List.length_nil] at hl2
      (try (refine st_R21_1 ?_; intros))
      (refine q_fin0 ?_)
      exact Gives.mk rfl
    | cons y Y =>
      simp only [List.length_cons] at hl2
      (try (refine st_R21_1 ?_; intros))
      (refine q_fin0 ?_)
      exact Gives.mk rfl
  | cons x X =>
    simp only [List.length_cons] at hl1
    obtain ⟨p, hget1, hmem1, hw1⟩ := W_at (l := a) (n := P.length) (x := x) (by rw [e1]; simp)
    have hok1 := mem_ok hmem1
    refine WL.rowSome (a := x0) (by (repeat (first | exact List.Mem.head _ | apply List.Mem.tail))) (by omega) ?_
    rintro x1 rfl
    cases Y with
    | nil =>
      simp only [List.length_nil] at hl2
      (try (refine st_R21_1 ?_; intros))
      (refine q_fin0 ?_)
      exact Gives.mk rfl
    | cons y Y =>
      simp only [List.length_cons] at hl2
      obtain ⟨q, hget2, hmem2, hw2⟩ := W_at (l := b) (n := P.length) (x := y) (by rw [e2]; simp)
      have hok2 := mem_ok hmem2
      refine WL.rowSome (a := y0) (by (repeat (first | exact List.Mem.head _ | apply List.Mem.tail))) (by omega) ?_
      rintro y1 rfl
      have hne : x ≠ y := hst
      by_cases hlt : wt a p < wt b q
      · (try (refine st_R21_1 ?_; intros))
        (refine q_fin0 ?_)
        exact Gives.mk (vi (by simp only [cmpL]; rw [if_neg hne, if_pos (by omega)]))
      · (try (refine st_R21_1 ?_; intros))
        (refine q_fin0 ?_)
        exact Gives.mk (vi (by simp only [cmpL]; rw [if_neg hne, if_neg (by omega)]))
end Go.Proofs.Ytdmdabjaboigcaa

/-
  The walks of runes.Index and of the reference's, and of the law RunesHolds. No condition.
-/
namespace Go.Proofs.Ytdmdabjaboigcaa
open Go Go.Eng
set_option maxRecDepth 100000
set_option maxHeartbeats 4000000
set_option linter.all false
attribute [local irreducible] WL WC WQ QFun QLoop Does Q1 QRound QAssign Go.Addr.add
theorem index_any (l : List UInt8) (q : Int) (hl : l.length ≤ 1000000000) (w0 : World) (m : Mem) (H : SHeap) :
    Does Try.prog 46 #[str l, .int .i32 q] w0 m H (Gives (.int .i64 (idx (pieces l) q)) m H) := by
  refine Does.of_body (args := [str l, .int .i32 q]) Try.func46 rfl Try.ntmps46 rfl ?_
  have hpl := pieces_length l
  (refine st ?_; intros; rename_i b3 b4)
  refine w_callF Try.func38 ?_ (hs := pieces_any _ _ _ _)
  rintro _ m0 H0 ⟨b, rfl, rfl, rfl⟩
  (try (refine st ?_; intros))
  refine WC.persist (by (repeat (first | exact Out.here | apply Out.there))) ?_
  intro mp hle hb
  refine WC.rangeFunc (encs := fun p : Pc => [p.v]) (xs := pieces l) (Cap := TextAt b l) (lb := [.pointer (some ⟨b, 0, none⟩)]) (ps := [8]) (J := fun pre m' Hl => Hl = [.blk b4 (.cells [.int .i64 0].toArray 3 (0, 0)), .blk b3 (.cells [.int .i32 q].toArray 21 (0, 0))] ∧ noIdx pre q) (Jx := fun c pre m' Hl => c = .ret ∧ ∃ p0, ∃ x : Pc, pre = p0 ++ [x] ∧ noIdx p0 q ∧ ((x.r : Int) = q ∧ x.b = false) ∧ Hl = [.blk b4 (.cells [.int .i64 (x.at_ : Int)].toArray 3 (0, 0)), .blk b3 (.cells [.int .i32 q].toArray 21 (0, 0))]) rfl Try.func74 rfl rfl (pieces_seq l (by omega) b) hb (fun _ => rfl) rfl (.cons (.cons .nil)) ?_ ?_ ?_ ?_
  · exact ⟨rfl, fun _ h => by cases h⟩
  · rintro lp pre x post hxs m1 Hl ⟨rfl, hno⟩ hm1 Hfr hfr
    (try (refine st ?_; intros))
    refine WQ.assigned (.cons (.cons (.cons .nil))) (Mem.le.refl _) ?_
    intro Hfr2
    by_cases h1 : (x.r : Int) = q
    · cases hx : x.b with
      | true =>
        (try (refine st ?_; intros))
        exact WQ.roundOn (Hl := [_, _]) (fun w h => Pick.sat (by iterate 60 (try (first | exact Pick.all | (apply Pick.take; (· (repeat (first | exact Out.here | apply Out.there)))) | apply Pick.drop))) h) (Mem.le.refl _) ⟨rfl, noIdx_snoc hno (by rw [hx]; rintro ⟨_, h⟩; cases h)⟩
      | false =>
        (try (refine st ?_; intros))
        exact WQ.roundRet (Hl := [_, _]) (fun w h => Pick.sat (by iterate 60 (try (first | exact Pick.all | (apply Pick.take; (· (repeat (first | exact Out.here | apply Out.there)))) | apply Pick.drop))) h) (Mem.le.refl _) ⟨rfl, pre, x, rfl, hno, ⟨h1, hx⟩, rfl⟩
    · (try (refine st ?_; intros))
      exact WQ.roundOn (Hl := [_, _]) (fun w h => Pick.sat (by iterate 60 (try (first | exact Pick.all | (apply Pick.take; (· (repeat (first | exact Out.here | apply Out.there)))) | apply Pick.drop))) h) (Mem.le.refl _) ⟨rfl, noIdx_snoc hno (fun h => h1 h.1)⟩
  · rintro D m' Hl ⟨rfl, hno⟩ hm1
    have hid : idx (pieces l) q = -1 := by have := idx_pre [] hno; rwa [List.append_nil] at this
    (try (refine st ?_; intros))
    refine WQ.mark (List.perm_middle (l₁ := [_, _])) ?_
    refine q_fin1 (H0 := H) (hle.trans hm1) (Gives.mk (vi hid.symm)) (hd := (fun w h => Pick.sat (by iterate 60 (try (first | exact Pick.all | (apply Pick.take; (· (repeat (first | exact Out.here | apply Out.there)))) | apply Pick.drop))) h))
  · rintro D c pre m' Hl hpre ⟨rfl, p0, x, rfl, hno, hx, rfl⟩ hm1
    obtain ⟨post, hpost⟩ := hpre
    have hid : idx (pieces l) q = (x.at_ : Int) := by
      rw [← hpost, List.append_assoc, idx_pre _ hno]
      simp [idx, hx]
    (try (refine st ?_; intros))
    refine WQ.mark (List.perm_middle (l₁ := [_, _])) ?_
    refine q_fin1 (H0 := H) (hle.trans hm1) (Gives.mk (vi hid.symm)) (hd := (fun w h => Pick.sat (by iterate 60 (try (first | exact Pick.all | (apply Pick.take; (· (repeat (first | exact Out.here | apply Out.there)))) | apply Pick.drop))) h))
theorem refIndex_any (l : List UInt8) (q : Int) (hl : l.length ≤ 1048576) (w0 : World) (m : Mem) (H : SHeap) :
    Does Try.prog 47 #[str l, .int .i32 q] w0 m H (Gives (.int .i64 (idx (pieces l) q)) m H) := by
  refine Does.of_body (args := [str l, .int .i32 q]) Try.func47 rfl Try.ntmps47 rfl ?_
  have hpl := pieces_length l
  (try (refine st ?_; intros))
  refine w_callF Try.func19 ?_ (hs := refPieces_any _ (by omega) _ _ _)
  rintro _ m _ ⟨a, cap, rfl, rfl, rfl⟩
  have hpm : ((pieces l).map Pc.cs).length = (pieces l).length := by simp
  (try (refine st ?_; intros))
  refine WC.loopH [(10, .int .i64 ((0) : Int)), (9, .int .i64 (((pieces l).map Pc.cs).length : Int)), (8, .slice a ((pieces l).map Pc.cs).length cap), (1, .int .i32 q)] ?_ ?_ (fun j r ds m' H' => ∃ i, j = (pieces l).length - i ∧ r = [(10, .int .i64 (i : Int)), (9, .int .i64 (((pieces l).map Pc.cs).length : Int)), (8, .slice a ((pieces l).map Pc.cs).length cap), (1, .int .i32 q)] ∧ ds = [] ∧ m = m' ∧ H' = .row a cap 24 4 ((pieces l).map Pc.cs) :: H ∧ (i ≤ (pieces l).length) ∧ (noIdx ((pieces l).take i) q)) ((pieces l).length - (0)) ⟨0, rfl, rfl, rfl, rfl, rfl, by omega, by intro p hp; simp at hp⟩ ?_
  · (repeat (first | exact Env.Sub.nil | refine Env.Sub.cons rfl ?_))
  · exact (fun w h => Pick.sat (by iterate 60 (try (first | exact Pick.all | (apply Pick.take; (· (repeat (first | exact Out.here | apply Out.there)))) | apply Pick.drop))) h)
  rintro j r ds m' H' ⟨i, rfl, rfl, rfl, rfl, rfl, hi, hno⟩
  by_cases hlt : i < (pieces l).length
  · obtain ⟨x, hx, hget, htk, hmem, hdr⟩ := at_idx (f := Pc.cs) hlt
    refine WC.rowSome (a := a) (by (repeat (first | exact List.Mem.head _ | apply List.Mem.tail))) (by omega) ?_
    rintro a0 rfl
    cases hb : x.b with
    | true =>
      have hb2 : (!x.b) = false := by rw [hb]; rfl
      (try (refine st ?_; intros))
      refine WQ.next ((pieces l).length - (i + 1)) ⟨i + 1, rfl, rfl, rfl, rfl, rfl, ?_, ?_⟩ (by omega) (by (repeat (first | exact Env.Sub.nil | refine Env.Sub.cons rfl ?_))) (fun w h => Pick.sat (by iterate 60 (try (first | exact Pick.all | (apply Pick.take; (· (repeat (first | exact Out.here | apply Out.there)))) | apply Pick.drop))) h)
      · omega
      · rw [htk]; exact noIdx_snoc hno (by rw [hb]; rintro ⟨_, h⟩; cases h)
    | false =>
      have hb2 : (!x.b) = true := by rw [hb]; rfl
      by_cases h1 : (x.r : Int) = q
      · have hid : idx (pieces l) q = (x.at_ : Int) := by
          rw [← List.take_append_drop i (pieces l), idx_pre _ hno, hdr]
          simp [idx, h1, hb]
        (try (refine st ?_; intros))
        (refine q_fin0 ?_)
        exact Gives.mk (vi hid.symm)
      · (try (refine st ?_; intros))
        refine WQ.next ((pieces l).length - (i + 1)) ⟨i + 1, rfl, rfl, rfl, rfl, rfl, ?_, ?_⟩ (by omega) (by (repeat (first | exact Env.Sub.nil | refine Env.Sub.cons rfl ?_))) (fun w h => Pick.sat (by iterate 60 (try (first | exact Pick.all | (apply Pick.take; (· (repeat (first | exact Out.here | apply Out.there)))) | apply Pick.drop))) h)
        · omega
        · rw [htk]; exact noIdx_snoc hno (fun h => h1 h.1)
  · have hid : idx (pieces l) q = -1 := by
      rw [List.take_of_length_le (by omega)] at hno
      have := idx_pre [] hno; rwa [List.append_nil] at this
    (try (refine st ?_; intros))
    (refine q_fin0 ?_)
    exact Gives.mk (vi hid.symm)
end Go.Proofs.Ytdmdabjaboigcaa

/-
  The walk of the law RunesHolds. No condition.
-/
namespace Go.Proofs.Ytdmdabjaboigcaa
open Go Go.Eng
set_option maxRecDepth 100000
set_option maxHeartbeats 4000000
set_option linter.all false
attribute [local irreducible] WL WC WQ QFun QLoop Does Q1 QRound QAssign Go.Addr.add
theorem sq_R23_1 {G : Prop} (h : G := by (repeat (first | (refine sp ?_; (repeat intro zzc)) | (refine iF 15 rfl ?_; refine w_callG Try.func15 ?_ (hs := wakes_any _ _ _)) | (refine iF 42 rfl ?_; refine w_callG Try.func42 ?_ (hs := compare_any _ _ (by omega) (by omega) _ _ _)) | (refine iF 43 rfl ?_; refine w_callG Try.func43 ?_ (hs := refCompare_any _ _ (by omega) (by omega) _ _ _)) | (refine iF 44 rfl ?_; refine w_callG Try.func44 ?_ (hs := common_any _ _ (by omega) (by omega) _ _ _)) | (refine iF 45 rfl ?_; refine w_callG Try.func45 ?_ (hs := refCommon_any _ _ (by omega) (by omega) _ _ _)) | (refine iF 46 rfl ?_; refine w_callG Try.func46 ?_ (hs := index_any _ _ (by omega) _ _ _)) | (refine iF 47 rfl ?_; refine w_callG Try.func47 ?_ (hs := refIndex_any _ _ (by omega) _ _ _)))); exact WQ.q1 rfl) : G := h
theorem st_R23_1 {G G' : Prop} (next : G') (h : Bx G' → G := by intro zzn; (first | ((refine st ?_; (repeat intro zzc)); (try ((first | (refine iF 15 rfl ?_; refine w_callG Try.func15 ?_ (hs := wakes_any _ _ _)) | (refine iF 42 rfl ?_; refine w_callG Try.func42 ?_ (hs := compare_any _ _ (by omega) (by omega) _ _ _)) | (refine iF 43 rfl ?_; refine w_callG Try.func43 ?_ (hs := refCompare_any _ _ (by omega) (by omega) _ _ _)) | (refine iF 44 rfl ?_; refine w_callG Try.func44 ?_ (hs := common_any _ _ (by omega) (by omega) _ _ _)) | (refine iF 45 rfl ?_; refine w_callG Try.func45 ?_ (hs := refCommon_any _ _ (by omega) (by omega) _ _ _)) | (refine iF 46 rfl ?_; refine w_callG Try.func46 ?_ (hs := index_any _ _ (by omega) _ _ _)) | (refine iF 47 rfl ?_; refine w_callG Try.func47 ?_ (hs := refIndex_any _ _ (by omega) _ _ _)) | ((refine iDraw ?_; (first | refine WC.drawAll rfl (by decide +kernel) ?_ | refine WC.draw 1 rfl (by decide +kernel) ?_ | refine WC.draw 2 rfl (by decide +kernel) ?_ | refine WC.draw 3 rfl (by decide +kernel) ?_ | refine WC.draw 4 rfl (by decide +kernel) ?_ | refine WC.draw 5 rfl (by decide +kernel) ?_ | refine WC.draw 6 rfl (by decide +kernel) ?_ | refine WC.draw 7 rfl (by decide +kernel) ?_ | refine WC.draw 8 rfl (by decide +kernel) ?_ | refine WC.draw 9 rfl (by decide +kernel) ?_ | refine WC.draw 10 rfl (by decide +kernel) ?_ | refine WC.draw 11 rfl (by decide +kernel) ?_ | refine WC.draw 12 rfl (by decide +kernel) ?_ | refine WC.draw 13 rfl (by decide +kernel) ?_ | refine WC.draw 14 rfl (by decide +kernel) ?_ | refine WC.draw 15 rfl (by decide +kernel) ?_ | refine WC.draw 16 rfl (by decide +kernel) ?_ | refine WC.draw 17 rfl (by decide +kernel) ?_ | refine WC.draw 18 rfl (by decide +kernel) ?_ | refine WC.draw 19 rfl (by decide +kernel) ?_ | refine WC.draw 20 rfl (by decide +kernel) ?_ | refine WC.draw 21 rfl (by decide +kernel) ?_ | refine WC.draw 22 rfl (by decide +kernel) ?_ | refine WC.draw 23 rfl (by decide +kernel) ?_ | refine WC.draw 24 rfl (by decide +kernel) ?_)); (repeat (refine WD.cons rfl (fun c h => by cases h) sq_R23_1 ?_)); refine WD.nil ?_)); (try (refine st ?_; (repeat intro zzc)))))) | ((first | (refine iF 15 rfl ?_; refine w_callG Try.func15 ?_ (hs := wakes_any _ _ _)) | (refine iF 42 rfl ?_; refine w_callG Try.func42 ?_ (hs := compare_any _ _ (by omega) (by omega) _ _ _)) | (refine iF 43 rfl ?_; refine w_callG Try.func43 ?_ (hs := refCompare_any _ _ (by omega) (by omega) _ _ _)) | (refine iF 44 rfl ?_; refine w_callG Try.func44 ?_ (hs := common_any _ _ (by omega) (by omega) _ _ _)) | (refine iF 45 rfl ?_; refine w_callG Try.func45 ?_ (hs := refCommon_any _ _ (by omega) (by omega) _ _ _)) | (refine iF 46 rfl ?_; refine w_callG Try.func46 ?_ (hs := index_any _ _ (by omega) _ _ _)) | (refine iF 47 rfl ?_; refine w_callG Try.func47 ?_ (hs := refIndex_any _ _ (by omega) _ _ _)) | ((refine iDraw ?_; (first | refine WC.drawAll rfl (by decide +kernel) ?_ | refine WC.draw 1 rfl (by decide +kernel) ?_ | refine WC.draw 2 rfl (by decide +kernel) ?_ | refine WC.draw 3 rfl (by decide +kernel) ?_ | refine WC.draw 4 rfl (by decide +kernel) ?_ | refine WC.draw 5 rfl (by decide +kernel) ?_ | refine WC.draw 6 rfl (by decide +kernel) ?_ | refine WC.draw 7 rfl (by decide +kernel) ?_ | refine WC.draw 8 rfl (by decide +kernel) ?_ | refine WC.draw 9 rfl (by decide +kernel) ?_ | refine WC.draw 10 rfl (by decide +kernel) ?_ | refine WC.draw 11 rfl (by decide +kernel) ?_ | refine WC.draw 12 rfl (by decide +kernel) ?_ | refine WC.draw 13 rfl (by decide +kernel) ?_ | refine WC.draw 14 rfl (by decide +kernel) ?_ | refine WC.draw 15 rfl (by decide +kernel) ?_ | refine WC.draw 16 rfl (by decide +kernel) ?_ | refine WC.draw 17 rfl (by decide +kernel) ?_ | refine WC.draw 18 rfl (by decide +kernel) ?_ | refine WC.draw 19 rfl (by decide +kernel) ?_ | refine WC.draw 20 rfl (by decide +kernel) ?_ | refine WC.draw 21 rfl (by decide +kernel) ?_ | refine WC.draw 22 rfl (by decide +kernel) ?_ | refine WC.draw 23 rfl (by decide +kernel) ?_ | refine WC.draw 24 rfl (by decide +kernel) ?_)); (repeat (refine WD.cons rfl (fun c h => by cases h) sq_R23_1 ?_)); refine WD.nil ?_)); (try (refine st ?_; (repeat intro zzc))))); (repeat ((first | (refine iF 15 rfl ?_; refine w_callG Try.func15 ?_ (hs := wakes_any _ _ _)) | (refine iF 42 rfl ?_; refine w_callG Try.func42 ?_ (hs := compare_any _ _ (by omega) (by omega) _ _ _)) | (refine iF 43 rfl ?_; refine w_callG Try.func43 ?_ (hs := refCompare_any _ _ (by omega) (by omega) _ _ _)) | (refine iF 44 rfl ?_; refine w_callG Try.func44 ?_ (hs := common_any _ _ (by omega) (by omega) _ _ _)) | (refine iF 45 rfl ?_; refine w_callG Try.func45 ?_ (hs := refCommon_any _ _ (by omega) (by omega) _ _ _)) | (refine iF 46 rfl ?_; refine w_callG Try.func46 ?_ (hs := index_any _ _ (by omega) _ _ _)) | (refine iF 47 rfl ?_; refine w_callG Try.func47 ?_ (hs := refIndex_any _ _ (by omega) _ _ _)) | ((refine iDraw ?_; (first | refine WC.drawAll rfl (by decide +kernel) ?_ | refine WC.draw 1 rfl (by decide +kernel) ?_ | refine WC.draw 2 rfl (by decide +kernel) ?_ | refine WC.draw 3 rfl (by decide +kernel) ?_ | refine WC.draw 4 rfl (by decide +kernel) ?_ | refine WC.draw 5 rfl (by decide +kernel) ?_ | refine WC.draw 6 rfl (by decide +kernel) ?_ | refine WC.draw 7 rfl (by decide +kernel) ?_ | refine WC.draw 8 rfl (by decide +kernel) ?_ | refine WC.draw 9 rfl (by decide +kernel) ?_ | refine WC.draw 10 rfl (by decide +kernel) ?_ | refine WC.draw 11 rfl (by decide +kernel) ?_ | refine WC.draw 12 rfl (by decide +kernel) ?_ | refine WC.draw 13 rfl (by decide +kernel) ?_ | refine WC.draw 14 rfl (by decide +kernel) ?_ | refine WC.draw 15 rfl (by decide +kernel) ?_ | refine WC.draw 16 rfl (by decide +kernel) ?_ | refine WC.draw 17 rfl (by decide +kernel) ?_ | refine WC.draw 18 rfl (by decide +kernel) ?_ | refine WC.draw 19 rfl (by decide +kernel) ?_ | refine WC.draw 20 rfl (by decide +kernel) ?_ | refine WC.draw 21 rfl (by decide +kernel) ?_ | refine WC.draw 22 rfl (by decide +kernel) ?_ | refine WC.draw 23 rfl (by decide +kernel) ?_ | refine WC.draw 24 rfl (by decide +kernel) ?_)); (repeat (refine WD.cons rfl (fun c h => by cases h) sq_R23_1 ?_)); refine WD.nil ?_)); (try (refine st ?_; (repeat intro zzc))))); (repeat revert zzc); exact zzn.out) : G := h ⟨next⟩
theorem runesHolds_any (a b : List UInt8) (q : Int) (ha : a.length ≤ 1048576) (hb : b.length ≤ 1048576) (w0 : World) (m : Mem) (H : SHeap) :
    Does Try.prog 9 #[str a, str b, .int .i32 q] w0 m H (fun v m' _ => v = .bool true ∧ m.le m') := by
  refine Does.of_body (args := [str a, str b, .int .i32 q]) Try.func9 rfl Try.ntmps9 rfl ?_
  have hpl := pieces_length a
  have hpm : ((pieces a).map Pc.cs).length = (pieces a).length := by simp
  (try (refine st_R23_1 ?_; intros))
  refine w_callF Try.func19 ?_ (hs := refPieces_any _ (by omega) _ _ _)
  rintro _ m _ ⟨x0, cx, rfl, rfl, rfl⟩
  (try (refine st_R23_1 ?_; intros))
  refine WC.loopH [(30, .int .i64 ((0) : Int)), (29, .int .i64 (((pieces a).map Pc.cs).length : Int)), (28, .slice x0 ((pieces a).map Pc.cs).length cx), (0, str a), (1, str b), (2, .int .i32 q)] ?_ ?_ (fun j r ds m' H' => ∃ i, j = (pieces a).length - i ∧ r = [(30, .int .i64 (i : Int)), (29, .int .i64 (((pieces a).map Pc.cs).length : Int)), (28, .slice x0 ((pieces a).map Pc.cs).length cx), (0, str a), (1, str b), (2, .int .i32 q)] ∧ ds = [] ∧ m = m' ∧ H' = .row x0 cx 24 4 ((pieces a).map Pc.cs) :: H ∧ (i ≤ (pieces a).length)) ((pieces a).length - (0)) ⟨0, rfl, rfl, rfl, rfl, rfl, by omega⟩ ?_
  · (repeat (first | exact Env.Sub.nil | refine Env.Sub.cons rfl ?_))
  · exact (fun w h => Pick.sat (by iterate 60 (try (first | exact Pick.all | (apply Pick.take; (· (repeat (first | exact Out.here | apply Out.there)))) | apply Pick.drop))) h)
  rintro j r ds m' H' ⟨i, rfl, rfl, rfl, rfl, rfl, hi⟩
  by_cases hlt : i < (pieces a).length
  · obtain ⟨x, hx, hget, htk, hmem, hdr⟩ := at_idx (f := Pc.cs) hlt
    refine WC.rowSome (a := x0) (by (repeat (first | exact List.Mem.head _ | apply List.Mem.tail))) (by omega) ?_
    rintro x1 rfl
    (try (refine st_R23_1 ?_; intros))
    (first | refine c_ways (fun h64 => ?_) (fun h64 => ?_) | refine c_nways (fun h64 => ?_) (fun h64 => ?_) | refine w_gways (fun h64 => ?_) (fun h64 => ?_) | refine w_gnways (fun h64 => ?_) (fun h64 => ?_))
    · (try (refine st_R23_1 ?_; intros))
      (refine q_fin0 ?_)
      exact ⟨rfl, Mem.le.refl _⟩
    · (try (refine st_R23_1 ?_; intros))
      refine WQ.next ((pieces a).length - (i + 1)) ⟨i + 1, rfl, rfl, rfl, rfl, rfl, ?_⟩ (by omega) (by (repeat (first | exact Env.Sub.nil | refine Env.Sub.cons rfl ?_))) (fun w h => Pick.sat (by iterate 60 (try (first | exact Pick.all | (apply Pick.take; (· (repeat (first | exact Out.here | apply Out.there)))) | apply Pick.drop))) h)
      omega
  · (try (refine st_R23_1 ?_; intros))
    (refine q_fin0 ?_)
    exact ⟨rfl, Mem.le.refl _⟩
end Go.Proofs.Ytdmdabjaboigcaa

/-
  Plain facts: pieces of a text's beginning; a text's pieces as texts; from the end on. No condition.
-/
set_option linter.all false
namespace Go.Eng
open Go
theorem begins_take {l : List UInt8} {c n : Nat} (h : begins (l.take n) c) : begins l c := by
  obtain ⟨h1, h2⟩ := h
  simp only [List.length_take] at h1
  refine ⟨by omega, fun k hk => ?_⟩
  rw [← h2 k hk]
  simp only [nb, gb, List.getD_eq_getElem?_getD, List.length_take]
  rw [List.getElem?_take_of_lt (by omega)]
theorem begins_of_take {l : List UInt8} {c n : Nat} (h : begins l c) (hn : wd c ≤ n) : begins (l.take n) c := by
  obtain ⟨h1, h2⟩ := h
  refine ⟨by simp only [List.length_take]; omega, fun k hk => ?_⟩
  rw [← h2 k hk]
  simp only [nb, gb, List.getD_eq_getElem?_getD, List.length_take]
  rw [List.getElem?_take_of_lt (by omega)]
theorem read_take {l : List UInt8} {k n : Nat} (hk : k + (readP l k).w ≤ n) (hn : n ≤ l.length) (hkl : k < l.length) : readP (l.take n) k = readP l k := by
  have hw := readP_w hkl
  have hd : (l.take n).drop k = (l.drop k).take (n - k) := by rw [List.drop_take]
  have hlen : ((l.drop k).take (n - k)).length = n - k := by simp; omega
  have key : dl ((l.drop k).take (n - k)) = dl (l.drop k) := by
    rcases dl_cases (l.drop k) (by simp; omega) with ⟨h1, h2, h3⟩ | ⟨h1, h2⟩
    · have hwd : (readP l k).w = wd (dl (l.drop k)).1 := by rw [readP_w_eq, h2]
      rw [dl_of_begins h1 (begins_of_take h3 (by omega)), ← h2]
    · rw [h1]
      rcases dl_cases ((l.drop k).take (n - k)) (by omega) with ⟨g1, _, g3⟩ | ⟨g1, _⟩
      · exact absurd (begins_take g3) (h2 _ g1)
      · exact g1
  unfold readP
  rw [hd, key]
theorem from_take {l : List UInt8} {n : Nat} (hn : n ≤ l.length) : ∀ (pre : List Pc) (k : Nat), from_ l k = pre ++ from_ l n → k ≤ n → from_ (l.take n) k = pre
  | [], k, h, hk => by
    rcases Nat.lt_or_eq_of_le hk with hlt | rfl
    · exfalso
      simp only [List.nil_append] at h
      rw [from_cons (by omega)] at h
      by_cases hnl : n < l.length
      · rw [from_cons hnl] at h
        have := congrArg (fun x => (x.head?.map Pc.at_)) h
        simp only [List.head?_cons, Option.map_some, readP_at, Option.some.injEq] at this
        omega
      · rw [from_nil (k := n) hnl] at h; cases h
    · rw [from_nil (by simp; omega)]
  | p :: pre, k, h, hk => by
    have hkl : k < l.length := by
      rcases Nat.lt_or_ge k l.length with h1 | h1
      · exact h1
      · rw [from_nil (by omega)] at h; cases h
    rw [from_cons hkl, List.cons_append] at h
    simp only [List.cons.injEq] at h
    obtain ⟨rfl, h⟩ := h
    have hw := readP_w hkl
    have hle : k + (readP l k).w ≤ n := by
      rcases Nat.lt_or_ge n (k + (readP l k).w) with hlt | hge
      · exfalso
        -- no piece behind k begins at n
        rcases Nat.lt_or_eq_of_le hn with hnl | hnl
        · have hm : readP l n ∈ from_ l (k + (readP l k).w) := by rw [h, from_cons hnl]; exact List.mem_append_right _ List.mem_cons_self
          obtain ⟨A, B, e⟩ := List.append_of_mem hm
          have := (from_split l l.length _ (by omega) _ _ _ e).1
          rw [readP_at] at this; omega
        · omega
      · exact hge
    have hlt : k < (l.take n).length := by simp; omega
    rw [from_cons hlt, read_take hle hn hkl, from_take hn pre _ h hle]
theorem pieces_take {l : List UInt8} {n : Nat} {pre : List Pc} (hn : n ≤ l.length) (h : pieces l = pre ++ from_ l n) : pieces (l.take n) = pre := from_take hn pre 0 h (Nat.zero_le _)
/-- a piece's bytes -/
def txt (l : List UInt8) (p : Pc) : List UInt8 := (l.take (p.at_ + p.w)).drop p.at_
theorem txt_len (l : List UInt8) (p : Pc) : (txt l p).length ≤ p.w := by simp [txt]; omega
theorem mem_w {l : List UInt8} {p : Pc} (h : p ∈ pieces l) : p.at_ < l.length ∧ 1 ≤ p.w ∧ p.w ≤ 4 ∧ p.at_ + p.w ≤ l.length := by
  obtain ⟨_, h2, h3⟩ := reach_of_mem h
  have := readP_w h2
  rw [← h3] at this
  omega
def mendOf (l w : List UInt8) (ps : List Pc) : List UInt8 := ps.flatMap fun p => if p.b then w else txt l p
theorem mendOf_snoc (l w : List UInt8) (ps : List Pc) (p : Pc) : mendOf l w (ps ++ [p]) = mendOf l w ps ++ (if p.b then w else txt l p) := by simp [mendOf]
def textsOf (l : List UInt8) (ps : List Pc) : List UInt8 := ps.flatMap (txt l)
theorem textsOf_snoc (l : List UInt8) (ps : List Pc) (p : Pc) : textsOf l (ps ++ [p]) = textsOf l ps ++ txt l p := by simp [textsOf]
/-- where the first so many pieces end -/
def cutK (l : List UInt8) (n : Int) : Nat := if n ≤ 0 then 0 else (endsOf l).getD n.toNat l.length
end Go.Eng

/-
  The walks of the iterator Back, of runes.Cut and of the reference's. No condition.
-/
namespace Go.Proofs.Ytdmdabjaboigcaa
open Go Go.Eng
set_option maxRecDepth 100000
set_option maxHeartbeats 4000000
set_option linter.all false
attribute [local irreducible] WL WC WQ QFun QLoop Does Q1 QRound QAssign Go.Addr.add
theorem last_is {l : List UInt8} {p : Pc} (h : lastP l = p) (hl : l.length ≤ 9223372036854775804) (h0 : 0 < l.length) (w0 : World) (m : Mem) (H : SHeap) :
    Does Try.prog 69 #[str l] w0 m H (Gives p.v m H) := by subst h; exact last_any l hl h0 w0 m H
theorem back_seq (l : List UInt8) (hl : l.length ≤ 9223372036854775804) (b : Nat) : SeqC Try.prog 75 [.pointer (some ⟨b, 0, none⟩)] (fun p : Pc => [p.v]) (pieces l).reverse (TextAt b l) := by
  intro w0 lp J Jx m H hcap h0 hY
  have hcap' : m b = some (.cells [str l].toArray 9 (0, 0)) := hcap
  refine Does.of_body Try.func75 rfl Try.ntmps75 rfl ?_
  (try (refine st ?_; intros))
  refine WC.loopH [(3, .int .i64 ((l.length) : Int)), (0, .func (.yield lp) #[] #[]), (1, .pointer (some ⟨b, 0, none⟩))] ?_ ?_ (fun j r ds m' H' => ∃ (n : Nat) (rest : (List Pc)) (mm : Mem) (H1 : SHeap), j = 2 * n ∧ r = [(3, .int .i64 (n : Int)), (0, .func (.yield lp) #[] #[]), (1, .pointer (some ⟨b, 0, none⟩))] ∧ ds = [] ∧ mm = m' ∧ H' = H1 ∧ (n ≤ l.length) ∧ (pieces l = rest ++ from_ l n) ∧ (m.le mm) ∧ (J (from_ l n).reverse mm H1)) (2 * (l.length)) ⟨l.length, pieces l, m, H, rfl, rfl, rfl, rfl, rfl, by omega, by rw [from_nil (by omega), List.append_nil], Mem.le.refl _, by rw [from_nil (by omega)]; exact h0⟩ ?_
  · (repeat (first | exact Env.Sub.nil | refine Env.Sub.cons rfl ?_))
  · exact (fun w h => Pick.sat (by iterate 60 (try (first | exact Pick.all | (apply Pick.take; (· (repeat (first | exact Out.here | apply Out.there)))) | apply Pick.drop))) h)
  rintro j r ds m' H' ⟨n, rest, mm, H1, rfl, rfl, rfl, rfl, rfl, hn, hp, hle, hJ⟩
  have hcap1 := hle _ _ hcap'
  rcases nil_or_snoc rest with rfl | ⟨r0, p, rfl⟩
  · have hn0 : n = 0 := by
      rcases Nat.eq_zero_or_pos n with h | h
      · exact h
      · exfalso
        have e := pieces_take hn hp
        rw [pieces, from_cons (by simp; omega)] at e; cases e
    subst hn0
    (try (refine st ?_; intros))
    apply WQ.finNorm
    · (first | (apply res_tmp; (· exact rfl); (· exact rfl)) | (apply res_cell; (· exact rfl); (· exact rfl); (· (first | (apply Loads.one; (· exact rfl); (· first | (apply Cell.blk; (· (repeat (first | exact List.Mem.head _ | apply List.Mem.tail))); (· exact rfl)) | (apply Cell.mem; (· assumption); (· exact rfl)))) | (apply Loads.whole; (· exact rfl); (· exact rfl); (· (repeat (first | exact List.Mem.head _ | apply List.Mem.tail))); (· exact rfl)) | (apply Loads.blk; (· exact rfl); (· exact rfl); (· (repeat (first | exact List.Mem.head _ | apply List.Mem.tail))); (· (repeat (first | exact Seg.nil | (apply Seg.cons; (· exact rfl)))))) | (apply Loads.row; (· (repeat (first | exact List.Mem.head _ | apply List.Mem.tail))); (· assumption); (· exact rfl); (· exact rfl); (· exact rfl); (· exact rfl)) | (apply Loads.row1; (· (repeat (first | exact List.Mem.head _ | apply List.Mem.tail))); (· assumption); (· exact rfl); (· exact rfl)) | (apply Loads.rowF; (· (repeat (first | exact List.Mem.head _ | apply List.Mem.tail))); (· assumption); (· exact rfl); (· exact rfl); (· exact rfl)) | (apply Loads.prow; (· assumption); (· assumption); (· exact rfl); (· exact rfl); (· exact rfl); (· exact rfl)) | (apply Loads.prow1; (· assumption); (· assumption); (· exact rfl); (· exact rfl)) | (apply Loads.prowF; (· assumption); (· assumption); (· exact rfl); (· exact rfl); (· exact rfl)) | (apply Loads.rrow; (· assumption); (· assumption); (· exact rfl); (· exact rfl); (· exact rfl); (· exact rfl)) | (apply Loads.rrow1; (· assumption); (· assumption); (· exact rfl); (· exact rfl)) | (apply Loads.rrowF; (· assumption); (· assumption); (· exact rfl); (· exact rfl); (· exact rfl)) | (apply Loads.rowS; (· (repeat (first | exact List.Mem.head _ | apply List.Mem.tail))); (· assumption); (· exact rfl); (· exact rfl); (· exact rfl); (· (repeat (first | exact Seg.nil | (apply Seg.cons; (· exact rfl))))))))) | (apply res_none; exact rfl) | (apply res_many; (· exact rfl); (· repeat (first | exact ResAll.nil | (apply ResAll.tmp; (· exact rfl)) | (apply ResAll.cell; (· exact rfl); (· (first | (apply Loads.one; (· exact rfl); (· first | (apply Cell.blk; (· (repeat (first | exact List.Mem.head _ | apply List.Mem.tail))); (· exact rfl)) | (apply Cell.mem; (· assumption); (· exact rfl)))) | (apply Loads.whole; (· exact rfl); (· exact rfl); (· (repeat (first | exact List.Mem.head _ | apply List.Mem.tail))); (· exact rfl)) | (apply Loads.blk; (· exact rfl); (· exact rfl); (· (repeat (first | exact List.Mem.head _ | apply List.Mem.tail))); (· (repeat (first | exact Seg.nil | (apply Seg.cons; (· exact rfl)))))) | (apply Loads.row; (· (repeat (first | exact List.Mem.head _ | apply List.Mem.tail))); (· assumption); (· exact rfl); (· exact rfl); (· exact rfl); (· exact rfl)) | (apply Loads.row1; (· (repeat (first | exact List.Mem.head _ | apply List.Mem.tail))); (· assumption); (· exact rfl); (· exact rfl)) | (apply Loads.rowF; (· (repeat (first | exact List.Mem.head _ | apply List.Mem.tail))); (· assumption); (· exact rfl); (· exact rfl); (· exact rfl)) | (apply Loads.prow; (· assumption); (· assumption); (· exact rfl); (· exact rfl); (· exact rfl); (· exact rfl)) | (apply Loads.prow1; (· assumption); (· assumption); (· exact rfl); (· exact rfl)) | (apply Loads.prowF; (· assumption); (· assumption); (· exact rfl); (· exact rfl); (· exact rfl)) | (apply Loads.rrow; (· assumption); (· assumption); (· exact rfl); (· exact rfl); (· exact rfl); (· exact rfl)) | (apply Loads.rrow1; (· assumption); (· assumption); (· exact rfl); (· exact rfl)) | (apply Loads.rrowF; (· assumption); (· assumption); (· exact rfl); (· exact rfl); (· exact rfl)) | (apply Loads.rowS; (· (repeat (first | exact List.Mem.head _ | apply List.Mem.tail))); (· assumption); (· exact rfl); (· exact rfl); (· exact rfl); (· (repeat (first | exact Seg.nil | (apply Seg.cons; (· exact rfl))))))))))); (· exact rfl)))
    · exact ⟨hle, .inl (by rw [show (pieces l).reverse = (from_ l 0).reverse from rfl]; exact hJ)⟩
  · rw [List.append_assoc] at hp
    have hsp := pieces_split (pre := r0) (p := p) (post := from_ l n) (by rw [hp]; rfl)
    have hpt := pieces_take hn (by rw [hp, ← List.append_assoc])
    have hlast : lastP (l.take n) = p := by rw [lastP, hpt]; simp
    have hn0 : 0 < n := by
      rcases Nat.eq_zero_or_pos n with h | h
      · subst h
        have e : pieces (l.take 0) = [] := by rw [pieces, from_nil (by simp)]
        rw [e] at hpt; simp at hpt
      · exact h
    have hw := readP_w hsp.1
    rw [← hsp.2.1] at hw
    have hlt : p.at_ < n := by
      rcases Nat.lt_or_eq_of_le hn with h | h
      · have hm : readP l n ∈ from_ l (p.at_ + p.w) := by
          have e := hsp.2.2.1
          rw [from_cons hsp.1, ← hsp.2.1] at e
          simp only [List.cons.injEq, true_and] at e
          rw [← e, from_cons h]; exact List.mem_cons_self
        obtain ⟨A, B, e⟩ := List.append_of_mem hm
        have := (from_split l l.length _ (by omega) _ _ _ e).1
        rw [readP_at] at this; omega
      · omega
    have htl : (l.take n).length = n := by simp; omega
    (try (refine st ?_; intros))
    refine w_callF Try.func69 ?_ (hs := last_is hlast (by omega) (by omega) _ _ _)
    rintro _ mm H1 ⟨rfl, rfl, rfl⟩
    (try (refine st ?_; intros))
    have hD : (from_ l p.at_).reverse = (from_ l n).reverse ++ [p] := by rw [← hsp.2.2.1]; simp
    have hxs : (pieces l).reverse = (from_ l n).reverse ++ p :: r0.reverse := by rw [hp]; simp
    apply WL.yield
    · exact rfl
    · exact rfl
    · exact rfl
    · exact hY _ p _ hxs _ H1 [_] hJ hle
    · rintro m2 _ ⟨H2, rfl, hJ2, hle2⟩
      (try (refine st ?_; intros))
      refine WQ.next (2 * (p.at_)) ⟨p.at_, r0, m2, H2, rfl, rfl, rfl, rfl, rfl, ?_, ?_, ?_, ?_⟩ (by omega) (by (repeat (first | exact Env.Sub.nil | refine Env.Sub.cons rfl ?_))) (fun w h => Pick.sat (by iterate 60 (try (first | exact Pick.all | (apply Pick.take; (· (repeat (first | exact Out.here | apply Out.there)))) | apply Pick.drop))) h)
      · omega
      · rw [← hsp.2.2.1, hp]; simp
      · exact hle.trans hle2
      · rw [hD]; exact hJ2
    · rintro m2 _ ⟨H2, rfl, hJ2, hle2⟩
      (try (refine st ?_; intros))
      (refine q_fin0 ?_)
      exact ⟨hle.trans hle2, .inr ⟨(from_ l n).reverse ++ [p], ⟨r0.reverse, by rw [hxs]; simp⟩, hJ2⟩⟩
theorem cut_any (l : List UInt8) (n : Int) (hl : l.length ≤ 1000000000) (hn : -9223372036854775808 ≤ n ∧ n ≤ 9223372036854775807) (w0 : World) (m : Mem) (H : SHeap) :
    Does Try.prog 50 #[str l, .int .i64 n] w0 m H (Gives (.tuple #[str (l.take (cutK l n)), str (l.drop (cutK l n))]) m H) := by
  refine Does.of_body (args := [str l, .int .i64 n]) Try.func50 rfl Try.ntmps50 rfl ?_
  by_cases h0 : n ≤ 0
  · have hk : cutK l n = 0 := by rw [cutK, if_pos h0]
    rw [hk]
    (try (refine st ?_; intros))
    (refine q_fin0 ?_)
    exact Gives.mk (by simp)
  · obtain ⟨N, rfl⟩ : ∃ N : Nat, n = N := ⟨n.toNat, by omega⟩
    have hk : cutK l N = (endsOf l).getD N l.length := by rw [cutK, if_neg h0]; simp
    rw [hk]
    (refine st ?_; intros; rename_i it)
    refine WC.loopH [(11, .pointer (some ⟨it, 0, none⟩)), (0, str l), (1, .int .i64 ((N : Int)))] ?_ ?_ (fun j r ds m' H' => ∃ (k : Nat) (pre : (List Pc)) (c : Int), j = l.length - k ∧ r = [(11, .pointer (some ⟨it, 0, none⟩)), (0, str l), (1, .int .i64 c)] ∧ ds = [] ∧ m = m' ∧ H' = .blk it (.stringIter ⟨l.toArray⟩ k) :: H ∧ (pieces l = pre ++ from_ l k) ∧ (pre.length ≤ N) ∧ (c = (N : Int) - pre.length) ∧ (k ≤ l.length)) (l.length - (0)) ⟨0, [], (N : Int), rfl, rfl, rfl, rfl, rfl, rfl, by simp, by simp, by omega⟩ ?_
    · (repeat (first | exact Env.Sub.nil | refine Env.Sub.cons rfl ?_))
    · exact (fun w h => Pick.sat (by iterate 60 (try (first | exact Pick.all | (apply Pick.take; (· (repeat (first | exact Out.here | apply Out.there)))) | apply Pick.drop))) h)
    rintro j r ds m' H' ⟨k, pre, c, rfl, rfl, rfl, rfl, rfl, hp, hN, hc, hkl⟩
    have hpl := pieces_length l
    by_cases hkl2 : k < l.length
    · have hw := readP_w hkl2
      have hwe := readP_w_eq l k
      rw [from_cons hkl2] at hp
      have hpre : pre.length ≤ (pieces l).length := by rw [hp]; simp
      by_cases hz : c = 0
      · have hk2 : (endsOf l).getD N l.length = k := by
          have e : N = pre.length := by omega
          rw [e, endsOf, hp]
          simp [List.getD_eq_getElem?_getD, readP_at]
        rw [hk2]
        (try (refine st ?_; intros))
        (refine q_fin0 ?_)
        exact Gives.mk rfl
      · (try (refine st ?_; intros))
        refine WQ.next (l.length - (k + (dl (l.drop k)).2)) ⟨k + (dl (l.drop k)).2, pre ++ [readP l k], _, rfl, rfl, rfl, rfl, rfl, ?_, ?_, ?_, ?_⟩ (by omega) (by (repeat (first | exact Env.Sub.nil | refine Env.Sub.cons rfl ?_))) (fun w h => Pick.sat (by iterate 60 (try (first | exact Pick.all | (apply Pick.take; (· (repeat (first | exact Out.here | apply Out.there)))) | apply Pick.drop))) h)
        · rw [hp, ← hwe]; simp
        · simp; omega
        · simp; omega
        · omega
    · rw [from_nil hkl2, List.append_nil] at hp
      have hk2 : (endsOf l).getD N l.length = l.length := by
        rw [endsOf, hp, List.getD_eq_getElem?_getD]
        by_cases e : N = pre.length
        · rw [e]; simp
        · rw [List.getElem?_eq_none (by simp; omega)]; rfl
      rw [hk2]
      (try (refine st ?_; intros))
      (refine q_fin0 ?_)
      exact Gives.mk (by simp)
theorem refEnds_es {l : List UInt8} {es : List (List Value)} (he : (endsOf l).map iV = es) (hl : l.length ≤ 5000000000000) (w0 : World) (m : Mem) (H : SHeap) :
    Does Try.prog 71 #[str l] w0 m H (MakesRow 3 1 es m H) := by subst he; exact refEnds_any l hl w0 m H
theorem refCut_any (l : List UInt8) (n : Int) (hl : l.length ≤ 1000000000) (hn : -9223372036854775808 ≤ n ∧ n ≤ 9223372036854775807) (w0 : World) (m : Mem) (H : SHeap) :
    Does Try.prog 51 #[str l, .int .i64 n] w0 m H (Gives (.tuple #[str (l.take (cutK l n)), str (l.drop (cutK l n))]) m H) := by
  refine Does.of_body (args := [str l, .int .i64 n]) Try.func51 rfl Try.ntmps51 rfl ?_
  have hel := ends_length l
  obtain ⟨es, hes⟩ : ∃ es, (endsOf l).map iV = es := ⟨_, rfl⟩
  have hesl : es.length = (endsOf l).length := by simp [← hes]
  have hne : 0 < (endsOf l).length := by simp [endsOf]
  obtain ⟨x, hx, hget, _, hmem, _⟩ := at_idx (xs := endsOf l) (f := iV) (i := (min (max n 0) ((es.length : Int) - 1)).toNat) (by omega)
  rw [hes] at hget
  have hxl := ends_le hmem
  have hk : cutK l n = x := by
    unfold cutK
    have hlast : (endsOf l)[(endsOf l).length - 1]? = some l.length := by simp [endsOf]
    split
    · rename_i h
      rw [show (min (max n 0) ((es.length : Int) - 1)).toNat = 0 by omega] at hx
      by_cases h1 : 0 < l.length
      · rw [endsOf, pieces, from_cons h1] at hx
        simp [readP_at] at hx; exact hx
      · rw [endsOf, pieces, from_nil h1] at hx
        simp at hx; omega
    · rename_i h
      rw [List.getD_eq_getElem?_getD]
      by_cases h1 : n.toNat < (endsOf l).length
      · rw [show (min (max n 0) ((es.length : Int) - 1)).toNat = n.toNat by omega] at hx
        rw [hx]; rfl
      · rw [show (min (max n 0) ((es.length : Int) - 1)).toNat = (endsOf l).length - 1 by omega, hlast] at hx
        rw [List.getElem?_eq_none (by omega)]
        simpa using hx
  rw [hk]
  (try (refine st ?_; intros))
  refine w_callF Try.func71 ?_ (hs := refEnds_es hes (by omega) _ _ _)
  rintro _ m _ ⟨a, cap, rfl, rfl, rfl⟩
  refine WL.rowSome (a := a) (by (repeat (first | exact List.Mem.head _ | apply List.Mem.tail))) (by omega) ?_
  rintro a0 rfl
  (try (refine st ?_; intros))
  (refine q_fin0 ?_)
  exact Gives.mk rfl
end Go.Proofs.Ytdmdabjaboigcaa

/-
  The walks of runes.Mend, Reverse, and of the reference's. No condition.
-/
namespace Go.Proofs.Ytdmdabjaboigcaa
open Go Go.Eng
set_option maxRecDepth 100000
set_option maxHeartbeats 4000000
set_option linter.all false
attribute [local irreducible] WL WC WQ QFun QLoop Does Q1 QRound QAssign Go.Addr.add
theorem bV_eq (w : List UInt8) : w.map bV = w.map (fun b => [Value.int .u8 (b.toNat : Int)]) := rfl
theorem mendOf_len {l w : List UInt8} (hw : w.length ≤ 64) : ∀ ps : List Pc, (∀ p ∈ ps, p.w ≤ 4) → (mendOf l w ps).length ≤ 64 * ps.length
  | [], _ => by simp [mendOf]
  | p :: ps, h => by
    have h1 := mendOf_len (l := l) hw ps (fun q hq => h q (List.mem_cons_of_mem _ hq))
    have h2 := h p List.mem_cons_self
    have h3 := txt_len l p
    have e : mendOf l w (p :: ps) = (if p.b then w else txt l p) ++ mendOf l w ps := by simp [mendOf]
    rw [e, List.length_append, List.length_cons]
    split <;> omega
theorem textsOf_len {l : List UInt8} : ∀ ps : List Pc, (∀ p ∈ ps, p.w ≤ 4) → (textsOf l ps).length ≤ 4 * ps.length
  | [], _ => by simp [textsOf]
  | p :: ps, h => by
    have h1 := textsOf_len (l := l) ps (fun q hq => h q (List.mem_cons_of_mem _ hq))
    have h2 := h p List.mem_cons_self
    have h3 := txt_len l p
    have e : textsOf l (p :: ps) = txt l p ++ textsOf l ps := by simp [textsOf]
    rw [e, List.length_append, List.length_cons]
    omega
theorem text_any (l : List UInt8) (p : Pc) (hp : p.at_ < l.length ∧ 1 ≤ p.w ∧ p.w ≤ 4 ∧ p.at_ + p.w ≤ l.length) (hl : l.length ≤ 1000000000) (w0 : World) (m : Mem) (H : SHeap) :
    Does Try.prog 78 #[str l, p.v] w0 m H (Gives (str (txt l p)) m H) := by
  refine Does.of_body (args := [str l, p.v]) Try.func78 rfl Try.ntmps78 rfl ?_
  (try (refine st ?_; intros))
  (refine q_fin0 ?_)
  exact Gives.mk rfl
theorem mend_any (l w : List UInt8) (hl : l.length ≤ 1048576) (hw : w.length ≤ 64) (w0 : World) (m : Mem) (H : SHeap) :
    Does Try.prog 49 #[str l, str w] w0 m H (Gives (str (mendOf l w (pieces l))) m H) := by
  refine Does.of_body (args := [str l, str w]) Try.func49 rfl Try.ntmps49 rfl ?_
  have hpl := pieces_length l
  (refine st ?_; intros; rename_i b2 b3 b5)
  refine w_callF Try.func38 ?_ (hs := pieces_any _ _ _ _)
  rintro _ m0 H0 ⟨b, rfl, rfl, rfl⟩
  (try (refine st ?_; intros))
  refine WC.newRow (T := 5) (sz := 1) ?_
  refine WC.persist (by (repeat (first | exact Out.here | apply Out.there))) ?_
  intro mp hle hb
  refine WC.rangeFunc (encs := fun p : Pc => [p.v]) (xs := pieces l) (Cap := TextAt b l) (lb := [.pointer (some ⟨b, 0, none⟩)]) (ps := [9]) (J := fun pre m' Hl => ∃ a cap, Hl = [.row a cap 5 1 ((mendOf l w pre).map bV), .blk b5 (.cells [.slice a (mendOf l w pre).length cap].toArray 90 (0, 0)), .blk b3 (.cells [str w].toArray 9 (0, 0)), .blk b2 (.cells [str l].toArray 9 (0, 0))]) (Jx := fun c pre m' Hl => False) rfl Try.func74 rfl rfl (pieces_seq l (by omega) b) hb (fun _ => rfl) rfl (.cons (.cons (.cons (.cons .nil)))) ?_ ?_ ?_ ?_
  · exact ⟨none, 0, rfl⟩
  · rintro lp pre x post hxs m1 Hl ⟨a, cap, rfl⟩ hm1 Hfr hfr
    have hpre : pre.length ≤ (pieces l).length := by rw [hxs]; simp
    have hmw := mem_w (l := l) (p := x) (by rw [hxs]; simp)
    have hln := mendOf_len (l := l) hw pre (fun p hp => (mem_w (l := l) (by rw [hxs]; exact List.mem_append_left _ hp)).2.2.1)
    have hml : ((mendOf l w pre).map bV).length = (mendOf l w pre).length := by simp
    have hsn := mendOf_snoc l w pre x
    have htx := txt_len l x
    have htd : txt l x = (l.take (x.at_ + x.w)).drop x.at_ := rfl
    have htl : ((l.take (x.at_ + x.w)).drop x.at_).length ≤ x.w := htx
    (try (refine st ?_; intros))
    refine WQ.assigned (.cons (.cons (.cons (.cons (.cons .nil))))) (Mem.le.refl _) ?_
    intro Hfr2
    cases hx : x.b with
    | true =>
      rw [hx, if_pos rfl] at hsn
      (refine st ?_; intros; rename_i a2 c2)
      refine WQ.roundOn (Hl := [.row a2 c2 5 1 _, .blk b5 _, .blk b3 _, .blk b2 _]) (fun w h => Pick.sat (by iterate 60 (try (first | exact Pick.all | (apply Pick.take; (· (repeat (first | exact Out.here | apply Out.there)))) | apply Pick.drop))) h) (Mem.le.refl _) ⟨a2, c2, ?_⟩
      rw [hsn, bV_append]; simp
    | false =>
      rw [hx] at hsn
      simp only [Bool.false_eq_true, if_false] at hsn
      (refine st ?_; intros; rename_i a2 c2)
      refine WQ.roundOn (Hl := [.row a2 c2 5 1 _, .blk b5 _, .blk b3 _, .blk b2 _]) (fun w h => Pick.sat (by iterate 60 (try (first | exact Pick.all | (apply Pick.take; (· (repeat (first | exact Out.here | apply Out.there)))) | apply Pick.drop))) h) (Mem.le.refl _) ⟨a2, c2, ?_⟩
      rw [hsn, bV_append, htd]; simp
  · rintro D m' Hl ⟨a, cap, rfl⟩ hm1
    (try (refine st ?_; intros))
    refine WL.rowStr (s := mendOf l w (pieces l)) rfl rfl (by (repeat (first | exact List.Mem.head _ | apply List.Mem.tail))) rfl rfl rfl rfl rfl ?_
    (try (refine st ?_; intros))
    refine WQ.mark (List.perm_middle (l₁ := [_, _, _, _])) ?_
    refine q_fin1 (H0 := H) (hle.trans hm1) (Gives.mk rfl) (hd := (fun w h => Pick.sat (by iterate 60 (try (first | exact Pick.all | (apply Pick.take; (· (repeat (first | exact Out.here | apply Out.there)))) | apply Pick.drop))) h))
  · rintro D c pre m' Hl _ h _
    exact h.elim
theorem sq_R25_1 {G : Prop} (h : G := by (repeat (first | (refine sp ?_; (repeat intro zzc)) | (refine iF 78 rfl ?_; refine w_callG Try.func78 ?_ (hs := text_any _ _ (by assumption) (by omega) _ _ _)))); exact WQ.q1 rfl) : G := h
theorem st_R25_1 {G G' : Prop} (next : G') (h : Bx G' → G := by intro zzn; (first | ((refine st ?_; (repeat intro zzc)); (try ((first | (refine iF 78 rfl ?_; refine w_callG Try.func78 ?_ (hs := text_any _ _ (by assumption) (by omega) _ _ _)) | ((refine iDraw ?_; (first | refine WC.drawAll rfl (by decide +kernel) ?_ | refine WC.draw 1 rfl (by decide +kernel) ?_ | refine WC.draw 2 rfl (by decide +kernel) ?_ | refine WC.draw 3 rfl (by decide +kernel) ?_ | refine WC.draw 4 rfl (by decide +kernel) ?_ | refine WC.draw 5 rfl (by decide +kernel) ?_ | refine WC.draw 6 rfl (by decide +kernel) ?_ | refine WC.draw 7 rfl (by decide +kernel) ?_ | refine WC.draw 8 rfl (by decide +kernel) ?_ | refine WC.draw 9 rfl (by decide +kernel) ?_ | refine WC.draw 10 rfl (by decide +kernel) ?_ | refine WC.draw 11 rfl (by decide +kernel) ?_ | refine WC.draw 12 rfl (by decide +kernel) ?_ | refine WC.draw 13 rfl (by decide +kernel) ?_ | refine WC.draw 14 rfl (by decide +kernel) ?_ | refine WC.draw 15 rfl (by decide +kernel) ?_ | refine WC.draw 16 rfl (by decide +kernel) ?_ | refine WC.draw 17 rfl (by decide +kernel) ?_ | refine WC.draw 18 rfl (by decide +kernel) ?_ | refine WC.draw 19 rfl (by decide +kernel) ?_ | refine WC.draw 20 rfl (by decide +kernel) ?_ | refine WC.draw 21 rfl (by decide +kernel) ?_ | refine WC.draw 22 rfl (by decide +kernel) ?_ | refine WC.draw 23 rfl (by decide +kernel) ?_ | refine WC.draw 24 rfl (by decide +kernel) ?_)); (repeat (refine WD.cons rfl (fun c h => by cases h) sq_R25_1 ?_)); refine WD.nil ?_)); (try (refine st ?_; (repeat intro zzc)))))) | ((first | (refine iF 78 rfl ?_; refine w_callG Try.func78 ?_ (hs := text_any _ _ (by assumption) (by omega) _ _ _)) | ((refine iDraw ?_; (first | refine WC.drawAll rfl (by decide +kernel) ?_ | refine WC.draw 1 rfl (by decide +kernel) ?_ | refine WC.draw 2 rfl (by decide +kernel) ?_ | refine WC.draw 3 rfl (by decide +kernel) ?_ | refine WC.draw 4 rfl (by decide +kernel) ?_ | refine WC.draw 5 rfl (by decide +kernel) ?_ | refine WC.draw 6 rfl (by decide +kernel) ?_ | refine WC.draw 7 rfl (by decide +kernel) ?_ | refine WC.draw 8 rfl (by decide +kernel) ?_ | refine WC.draw 9 rfl (by decide +kernel) ?_ | refine WC.draw 10 rfl (by decide +kernel) ?_ | refine WC.draw 11 rfl (by decide +kernel) ?_ | refine WC.draw 12 rfl (by decide +kernel) ?_ | refine WC.draw 13 rfl (by decide +kernel) ?_ | refine WC.draw 14 rfl (by decide +kernel) ?_ | refine WC.draw 15 rfl (by decide +kernel) ?_ | refine WC.draw 16 rfl (by decide +kernel) ?_ | refine WC.draw 17 rfl (by decide +kernel) ?_ | refine WC.draw 18 rfl (by decide +kernel) ?_ | refine WC.draw 19 rfl (by decide +kernel) ?_ | refine WC.draw 20 rfl (by decide +kernel) ?_ | refine WC.draw 21 rfl (by decide +kernel) ?_ | refine WC.draw 22 rfl (by decide +kernel) ?_ | refine WC.draw 23 rfl (by decide +kernel) ?_ | refine WC.draw 24 rfl (by decide +kernel) ?_)); (repeat (refine WD.cons rfl (fun c h => by cases h) sq_R25_1 ?_)); refine WD.nil ?_)); (try (refine st ?_; (repeat intro zzc))))); (repeat ((first | (refine iF 78 rfl ?_; refine w_callG Try.func78 ?_ (hs := text_any _ _ (by assumption) (by omega) _ _ _)) | ((refine iDraw ?_; (first | refine WC.drawAll rfl (by decide +kernel) ?_ | refine WC.draw 1 rfl (by decide +kernel) ?_ | refine WC.draw 2 rfl (by decide +kernel) ?_ | refine WC.draw 3 rfl (by decide +kernel) ?_ | refine WC.draw 4 rfl (by decide +kernel) ?_ | refine WC.draw 5 rfl (by decide +kernel) ?_ | refine WC.draw 6 rfl (by decide +kernel) ?_ | refine WC.draw 7 rfl (by decide +kernel) ?_ | refine WC.draw 8 rfl (by decide +kernel) ?_ | refine WC.draw 9 rfl (by decide +kernel) ?_ | refine WC.draw 10 rfl (by decide +kernel) ?_ | refine WC.draw 11 rfl (by decide +kernel) ?_ | refine WC.draw 12 rfl (by decide +kernel) ?_ | refine WC.draw 13 rfl (by decide +kernel) ?_ | refine WC.draw 14 rfl (by decide +kernel) ?_ | refine WC.draw 15 rfl (by decide +kernel) ?_ | refine WC.draw 16 rfl (by decide +kernel) ?_ | refine WC.draw 17 rfl (by decide +kernel) ?_ | refine WC.draw 18 rfl (by decide +kernel) ?_ | refine WC.draw 19 rfl (by decide +kernel) ?_ | refine WC.draw 20 rfl (by decide +kernel) ?_ | refine WC.draw 21 rfl (by decide +kernel) ?_ | refine WC.draw 22 rfl (by decide +kernel) ?_ | refine WC.draw 23 rfl (by decide +kernel) ?_ | refine WC.draw 24 rfl (by decide +kernel) ?_)); (repeat (refine WD.cons rfl (fun c h => by cases h) sq_R25_1 ?_)); refine WD.nil ?_)); (try (refine st ?_; (repeat intro zzc))))); (repeat revert zzc); exact zzn.out) : G := h ⟨next⟩
theorem refMend_any (l w : List UInt8) (hl : l.length ≤ 1048576) (hw : w.length ≤ 64) (w0 : World) (m : Mem) (H : SHeap) :
    Does Try.prog 52 #[str l, str w] w0 m H (Gives (str (mendOf l w (pieces l))) m H) := by
  refine Does.of_body (args := [str l, str w]) Try.func52 rfl Try.ntmps52 rfl ?_
  have hpl := pieces_length l
  have hpm : ((pieces l).map Pc.cs).length = (pieces l).length := by simp
  (try (refine st_R25_1 ?_; intros))
  refine w_callF Try.func19 ?_ (hs := refPieces_any _ (by omega) _ _ _)
  rintro _ m _ ⟨a, cap, rfl, rfl, rfl⟩
  (try (refine st_R25_1 ?_; intros))
  refine WC.newRow (T := 5) (sz := 1) ?_
  refine WC.loopH [(11, .int .i64 ((0) : Int)), (10, .int .i64 (((pieces l).map Pc.cs).length : Int)), (9, .slice a ((pieces l).map Pc.cs).length cap), (5, .slice (none) (0) (0)), (0, str l), (1, str w)] ?_ ?_ (fun j r ds m' H' => ∃ i b cb k S, j = (pieces l).length - i ∧ r = [(11, .int .i64 (i : Int)), (10, .int .i64 (((pieces l).map Pc.cs).length : Int)), (9, .slice a ((pieces l).map Pc.cs).length cap), (5, .slice b k cb), (0, str l), (1, str w)] ∧ ds = [] ∧ m = m' ∧ H' = .row b cb 5 1 (S.map bV) :: .row a cap 24 4 ((pieces l).map Pc.cs) :: H ∧ (i ≤ (pieces l).length) ∧ (k = (S.map bV).length) ∧ (S = mendOf l w ((pieces l).take i))) ((pieces l).length - (0)) ⟨0, none, 0, 0, [], rfl, rfl, rfl, rfl, rfl, by omega, rfl, rfl⟩ ?_
  · (repeat (first | exact Env.Sub.nil | refine Env.Sub.cons rfl ?_))
  · exact (fun w h => Pick.sat (by iterate 60 (try (first | exact Pick.all | (apply Pick.take; (· (repeat (first | exact Out.here | apply Out.there)))) | apply Pick.drop))) h)
  rintro j r ds m' H' ⟨i, b, cb, k, S, rfl, rfl, rfl, rfl, rfl, hi, rfl, hS⟩
  have hml : (S.map bV).length = S.length := by simp
  have hln := mendOf_len (l := l) hw ((pieces l).take i) (fun p hp => (mem_w (l := l) (List.mem_of_mem_take hp)).2.2.1)
  have htl : ((pieces l).take i).length ≤ i := by simp; omega
  rw [← hS] at hln
  by_cases hlt : i < (pieces l).length
  · obtain ⟨x, hx, hget, htk, hmem, hdr⟩ := at_idx (f := Pc.cs) hlt
    have hmw := mem_w hmem
    have htx := txt_len l x
    have hsn := mendOf_snoc l w ((pieces l).take i) x
    rw [← htk, ← hS] at hsn
    refine WC.rowSome (a := a) (by (repeat (first | exact List.Mem.head _ | apply List.Mem.tail))) (by omega) ?_
    rintro a0 rfl
    cases hb : x.b with
    | true =>
      rw [hb, if_pos rfl] at hsn
      (refine st_R25_1 ?_; intros; rename_i b2 cb2)
      rw [← bV_append]
      refine WQ.next ((pieces l).length - (i + 1)) ⟨i + 1, b2, cb2, _, S ++ w, rfl, rfl, rfl, rfl, rfl, ?_, ?_, ?_⟩ (by omega) (by (repeat (first | exact Env.Sub.nil | refine Env.Sub.cons rfl ?_))) (fun w h => Pick.sat (by iterate 60 (try (first | exact Pick.all | (apply Pick.take; (· (repeat (first | exact Out.here | apply Out.there)))) | apply Pick.drop))) h)
      · omega
      · simp
      · exact hsn.symm
    | false =>
      rw [hb] at hsn
      simp only [Bool.false_eq_true, if_false] at hsn
      (refine st_R25_1 ?_; intros; rename_i b2 cb2)
      rw [← bV_append]
      refine WQ.next ((pieces l).length - (i + 1)) ⟨i + 1, b2, cb2, _, S ++ txt l x, rfl, rfl, rfl, rfl, rfl, ?_, ?_, ?_⟩ (by omega) (by (repeat (first | exact Env.Sub.nil | refine Env.Sub.cons rfl ?_))) (fun w h => Pick.sat (by iterate 60 (try (first | exact Pick.all | (apply Pick.take; (· (repeat (first | exact Out.here | apply Out.there)))) | apply Pick.drop))) h)
      · omega
      · simp
      · exact hsn.symm
  · obtain rfl : i = (pieces l).length := by omega
    rw [List.take_length] at hS
    subst hS
    (try (refine st_R25_1 ?_; intros))
    refine WL.rowStr (s := mendOf l w (pieces l)) rfl hml (by (repeat (first | exact List.Mem.head _ | apply List.Mem.tail))) rfl rfl rfl rfl rfl ?_
    (try (refine st_R25_1 ?_; intros))
    (refine q_fin0 ?_)
    exact Gives.mk rfl
theorem reverse_any (l : List UInt8) (hl : l.length ≤ 1048576) (w0 : World) (m : Mem) (H : SHeap) :
    Does Try.prog 53 #[str l] w0 m H (Gives (str (textsOf l (pieces l).reverse)) m H) := by
  refine Does.of_body (args := [str l]) Try.func53 rfl Try.ntmps53 rfl ?_
  have hpl := pieces_length l
  (refine st_R25_1 ?_; intros; rename_i b1 b3)
  refine w_callF Try.func39 ?_ (hs := back_any _ _ _ _)
  rintro _ m0 H0 ⟨b, rfl, rfl, rfl⟩
  (try (refine st_R25_1 ?_; intros))
  refine WC.newRow (T := 5) (sz := 1) ?_
  refine WC.persist (by (repeat (first | exact Out.here | apply Out.there))) ?_
  intro mp hle hb
  refine WC.rangeFunc (encs := fun p : Pc => [p.v]) (xs := (pieces l).reverse) (Cap := TextAt b l) (lb := [.pointer (some ⟨b, 0, none⟩)]) (ps := [7]) (J := fun pre m' Hl => ∃ a cap, Hl = [.row a cap 5 1 ((textsOf l pre).map bV), .blk b3 (.cells [.slice a (textsOf l pre).length cap].toArray 90 (0, 0)), .blk b1 (.cells [str l].toArray 9 (0, 0))]) (Jx := fun c pre m' Hl => False) rfl Try.func75 rfl rfl (back_seq l (by omega) b) hb (fun _ => rfl) rfl (.cons (.cons (.cons .nil))) ?_ ?_ ?_ ?_
  · exact ⟨none, 0, rfl⟩
  · rintro lp pre x post hxs m1 Hl ⟨a, cap, rfl⟩ hm1 Hfr hfr
    have hin : ∀ p ∈ pre ++ [x], p ∈ pieces l := fun p hp => by
      have : p ∈ (pieces l).reverse := by rw [hxs]; rcases List.mem_append.1 hp with h | h; exact List.mem_append_left _ h; rw [List.mem_singleton.1 h]; simp
      exact List.mem_reverse.1 this
    have hpre : pre.length ≤ (pieces l).length := by have := congrArg List.length hxs; simp at this; omega
    have hmw := mem_w (l := l) (p := x) (hin x (by simp))
    have hln := textsOf_len (l := l) pre (fun p hp => (mem_w (l := l) (hin p (List.mem_append_left _ hp))).2.2.1)
    have hml : ((textsOf l pre).map bV).length = (textsOf l pre).length := by simp
    have hsn := textsOf_snoc l pre x
    have htx := txt_len l x
    have htd : txt l x = (l.take (x.at_ + x.w)).drop x.at_ := rfl
    have htl : ((l.take (x.at_ + x.w)).drop x.at_).length ≤ x.w := htx
    (try (refine st_R25_1 ?_; intros))
    refine WQ.assigned (.cons (.cons (.cons (.cons .nil)))) (Mem.le.refl _) ?_
    intro Hfr2
    (refine st_R25_1 ?_; intros; rename_i a2 c2)
    refine WQ.roundOn (Hl := [.row a2 c2 5 1 _, .blk b3 _, .blk b1 _]) (fun w h => Pick.sat (by iterate 60 (try (first | exact Pick.all | (apply Pick.take; (· (repeat (first | exact Out.here | apply Out.there)))) | apply Pick.drop))) h) (Mem.le.refl _) ⟨a2, c2, ?_⟩
    rw [hsn, bV_append, htd]; simp
  · rintro D m' Hl ⟨a, cap, rfl⟩ hm1
    (try (refine st_R25_1 ?_; intros))
    refine WL.rowStr (s := textsOf l (pieces l).reverse) rfl rfl (by (repeat (first | exact List.Mem.head _ | apply List.Mem.tail))) rfl rfl rfl rfl rfl ?_
    (try (refine st_R25_1 ?_; intros))
    refine WQ.mark (List.perm_middle (l₁ := [_, _, _])) ?_
    refine q_fin1 (H0 := H) (hle.trans hm1) (Gives.mk rfl) (hd := (fun w h => Pick.sat (by iterate 60 (try (first | exact Pick.all | (apply Pick.take; (· (repeat (first | exact Out.here | apply Out.there)))) | apply Pick.drop))) h))
  · rintro D c pre m' Hl _ h _
    exact h.elim
def sV (l : List UInt8) : List Value := [str l]
theorem refTexts_any (l : List UInt8) (hl : l.length ≤ 1048576) (w0 : World) (m : Mem) (H : SHeap) :
    Does Try.prog 79 #[str l] w0 m H (MakesRow 9 1 ((pieces l).map fun p => sV (txt l p)) m H) := by
  refine Does.of_body (args := [str l]) Try.func79 rfl Try.ntmps79 rfl ?_
  have hpl := pieces_length l
  have hpm : ((pieces l).map Pc.cs).length = (pieces l).length := by simp
  (try (refine st_R25_1 ?_; intros))
  refine w_callF Try.func19 ?_ (hs := refPieces_any _ (by omega) _ _ _)
  rintro _ m _ ⟨a, cap, rfl, rfl, rfl⟩
  (try (refine st_R25_1 ?_; intros))
  refine WC.newRow (T := 9) (sz := 1) ?_
  refine WC.loopH [(9, .int .i64 ((0) : Int)), (8, .int .i64 (((pieces l).map Pc.cs).length : Int)), (7, .slice a ((pieces l).map Pc.cs).length cap), (3, .slice (none) (0) (0)), (0, str l)] ?_ ?_ (fun j r ds m' H' => ∃ i b cb k es, j = (pieces l).length - i ∧ r = [(9, .int .i64 (i : Int)), (8, .int .i64 (((pieces l).map Pc.cs).length : Int)), (7, .slice a ((pieces l).map Pc.cs).length cap), (3, .slice b k cb), (0, str l)] ∧ ds = [] ∧ m = m' ∧ H' = .row b cb 9 1 es :: .row a cap 24 4 ((pieces l).map Pc.cs) :: H ∧ (i ≤ (pieces l).length) ∧ (k = es.length) ∧ (es = ((pieces l).take i).map fun p => sV (txt l p))) ((pieces l).length - (0)) ⟨0, none, 0, 0, [], rfl, rfl, rfl, rfl, rfl, by omega, rfl, rfl⟩ ?_
  · (repeat (first | exact Env.Sub.nil | refine Env.Sub.cons rfl ?_))
  · exact (fun w h => Pick.sat (by iterate 60 (try (first | exact Pick.all | (apply Pick.take; (· (repeat (first | exact Out.here | apply Out.there)))) | apply Pick.drop))) h)
  rintro j r ds m' H' ⟨i, b, cb, k, es, rfl, rfl, rfl, rfl, rfl, hi, rfl, hes⟩
  have hel : es.length ≤ i := by simp [hes]; omega
  by_cases hlt : i < (pieces l).length
  · obtain ⟨x, hx, hget, htk, hmem, hdr⟩ := at_idx (f := Pc.cs) hlt
    have hmw := mem_w hmem
    refine WC.rowSome (a := a) (by (repeat (first | exact List.Mem.head _ | apply List.Mem.tail))) (by omega) ?_
    rintro a0 rfl
    (refine st_R25_1 ?_; intros; rename_i b2 cb2)
    refine WQ.next ((pieces l).length - (i + 1)) ⟨i + 1, b2, cb2, _, _, rfl, rfl, rfl, rfl, rfl, ?_, ?_, ?_⟩ (by omega) (by (repeat (first | exact Env.Sub.nil | refine Env.Sub.cons rfl ?_))) (fun w h => Pick.sat (by iterate 60 (try (first | exact Pick.all | (apply Pick.take; (· (repeat (first | exact Out.here | apply Out.there)))) | apply Pick.drop))) h)
    · omega
    · simp
    · rw [htk, hes]; simp [sV]
  · obtain rfl : i = (pieces l).length := by omega
    rw [List.take_length] at hes
    (try (refine st_R25_1 ?_; intros))
    refine q_fin0 (H0 := .row b cb 9 1 _ :: H) ⟨b, cb, ?_, rfl, ?_⟩ (hd := (fun w h => Pick.sat (by iterate 60 (try (first | exact Pick.all | (apply Pick.take; (· (repeat (first | exact Out.here | apply Out.there)))) | apply Pick.drop))) h))
    · rw [← hes]
    · rw [← hes]
theorem texts_back (l : List UInt8) (ps : List Pc) : textsOf l ps = ps.flatMap (txt l) := rfl
theorem refReverse_any (l : List UInt8) (hl : l.length ≤ 1048576) (w0 : World) (m : Mem) (H : SHeap) :
    Does Try.prog 54 #[str l] w0 m H (Gives (str (textsOf l (pieces l).reverse)) m H) := by
  refine Does.of_body (args := [str l]) Try.func54 rfl Try.ntmps54 rfl ?_
  have hpl := pieces_length l
  have hpm : ((pieces l).map fun p => sV (txt l p)).length = (pieces l).length := by simp
  (try (refine st_R25_1 ?_; intros))
  refine w_callF Try.func79 ?_ (hs := refTexts_any _ (by omega) _ _ _)
  rintro _ m _ ⟨a, cap, rfl, rfl, rfl⟩
  (try (refine st_R25_1 ?_; intros))
  refine WC.newRow (T := 5) (sz := 1) ?_
  refine WC.loopH [(5, .int .i64 (((((pieces l).map fun p => sV (txt l p)).length : Int) - 1))), (4, .slice a ((pieces l).map fun p => sV (txt l p)).length cap), (3, .slice (none) (0) (0))] ?_ ?_ (fun j r ds m' H' => ∃ (q : Nat) (z : Int) (b : _) (cb : _) (k : _) (S : _), j = 2 * q ∧ r = [(5, .int .i64 z), (4, .slice a ((pieces l).map fun p => sV (txt l p)).length cap), (3, .slice b k cb)] ∧ ds = [] ∧ m = m' ∧ H' = .row b cb 5 1 (S.map bV) :: .row a cap 9 1 ((pieces l).map fun p => sV (txt l p)) :: H ∧ (q ≤ (pieces l).length) ∧ (z = (q : Int) - 1) ∧ (k = (S.map bV).length) ∧ (S = textsOf l ((pieces l).drop q).reverse)) (2 * ((pieces l).length)) ⟨(pieces l).length, ((((pieces l).map fun p => sV (txt l p)).length : Int) - 1), none, 0, 0, [], rfl, rfl, rfl, rfl, rfl, by omega, by rw [hpm], rfl, by rw [List.drop_length]; rfl⟩ ?_
  · (repeat (first | exact Env.Sub.nil | refine Env.Sub.cons rfl ?_))
  · exact (fun w h => Pick.sat (by iterate 60 (try (first | exact Pick.all | (apply Pick.take; (· (repeat (first | exact Out.here | apply Out.there)))) | apply Pick.drop))) h)
  rintro j r ds m' H' ⟨q, z, b, cb, k, S, rfl, rfl, rfl, rfl, rfl, hj, hz, rfl, hS⟩
  have hml : (S.map bV).length = S.length := by simp
  have hln := textsOf_len (l := l) ((pieces l).drop q).reverse (fun p hp => (mem_w (l := l) (List.mem_of_mem_drop (List.mem_reverse.1 hp))).2.2.1)
  rw [← hS] at hln
  simp only [List.length_reverse, List.length_drop] at hln
  by_cases h0 : 0 < q
  · obtain ⟨i, rfl⟩ : ∃ i, q = i + 1 := ⟨q - 1, by omega⟩
    obtain ⟨x, hx, hget, htk, hmem, hdr⟩ := at_idx (xs := pieces l) (f := fun p => sV (txt l p)) (i := i) (by omega)
    have hmw := mem_w hmem
    have htx := txt_len l x
    have hzi : z = (i : Int) := by omega
    subst hzi
    refine WC.rowSome (a := a) (by (repeat (first | exact List.Mem.head _ | apply List.Mem.tail))) (by omega) ?_
    rintro a0 rfl
    (refine st_R25_1 ?_; intros; rename_i b2 cb2)
    rw [← bV_append]
    refine WQ.next (2 * (i)) ⟨i, _, b2, cb2, _, S ++ txt l x, rfl, rfl, rfl, rfl, rfl, ?_, ?_, ?_, ?_⟩ (by omega) (by (repeat (first | exact Env.Sub.nil | refine Env.Sub.cons rfl ?_))) (fun w h => Pick.sat (by iterate 60 (try (first | exact Pick.all | (apply Pick.take; (· (repeat (first | exact Out.here | apply Out.there)))) | apply Pick.drop))) h)
    · omega
    · rfl
    · simp
    · rw [hdr, List.reverse_cons, textsOf_snoc, ← hS]
  · obtain rfl : q = 0 := by omega
    rw [List.drop_zero] at hS
    subst hS
    (try (refine st_R25_1 ?_; intros))
    refine WL.rowStr (s := textsOf l (pieces l).reverse) rfl hml (by (repeat (first | exact List.Mem.head _ | apply List.Mem.tail))) rfl rfl rfl rfl rfl ?_
    (try (refine st_R25_1 ?_; intros))
    (refine q_fin0 ?_)
    exact Gives.mk rfl
end Go.Proofs.Ytdmdabjaboigcaa

/-
  The walk of runes.Nth. No condition.
-/
namespace Go.Proofs.Ytdmdabjaboigcaa
open Go Go.Eng
set_option maxRecDepth 100000
set_option maxHeartbeats 4000000
set_option linter.all false
attribute [local irreducible] WL WC WQ QFun QLoop Does Q1 QRound QAssign Go.Addr.add
def nthV (l : List UInt8) (n : Int) : Value := if h : 0 ≤ n ∧ n.toNat < (pieces l).length then .tuple #[((pieces l)[n.toNat]'h.2).v, .bool true] else .tuple #[zeroP, .bool false]
theorem nth_any (l : List UInt8) (n : Int) (hl : l.length ≤ 1048576) (hn : -4611686018427387904 ≤ n ∧ n ≤ 9223372036854775807) (w0 : World) (m : Mem) (H : SHeap) :
    Does Try.prog 40 #[str l, .int .i64 n] w0 m H (Gives (nthV l n) m H) := by
  refine Does.of_body (args := [str l, .int .i64 n]) Try.func40 rfl Try.ntmps40 rfl ?_
  have hpl := pieces_length l
  (refine st ?_; intros; rename_i b3 b4 b5)
  refine w_callF Try.func38 ?_ (hs := pieces_any _ _ _ _)
  rintro _ m0 H0 ⟨b, rfl, rfl, rfl⟩
  (try (refine st ?_; intros))
  skip
  refine WC.persist (by (repeat (first | exact Out.here | apply Out.there))) ?_
  intro mp hle hb
  refine WC.rangeFunc (encs := fun p : Pc => [p.v]) (xs := pieces l) (Cap := TextAt b l) (lb := [.pointer (some ⟨b, 0, none⟩)]) (ps := [9]) (J := fun pre m' Hl => Hl = [.blk b5 (.cells [.bool false].toArray 4 (0, 0)), .blk b4 (.cells [.int .i64 0, .int .i64 0, .int .i32 0, .bool false].toArray 24 (0, 0)), .blk b3 (.cells [.int .i64 (n - (pre.length : Int))].toArray 3 (0, 0))] ∧ (0 ≤ n → (pre.length : Int) ≤ n)) (Jx := fun c pre m' Hl => c = .ret ∧ ∃ p0, ∃ x : Pc, pre = p0 ++ [x] ∧ n = (p0.length : Int) ∧ Hl = [.blk b5 (.cells [.bool true].toArray 4 (0, 0)), .blk b4 (.cells x.cs.toArray 24 (0, 0)), .blk b3 (.cells [.int .i64 0].toArray 3 (0, 0))]) rfl Try.func74 rfl rfl (pieces_seq l (by omega) b) hb (fun _ => rfl) rfl (.cons (.cons (.cons .nil))) ?_ ?_ ?_ ?_
  · exact ⟨by simp, fun h => by simpa using h⟩
  · rintro lp pre x post hxs m1 Hl ⟨rfl, hle0⟩ hm1 Hfr hfr
    have hpre : pre.length ≤ (pieces l).length := by rw [hxs]; simp
    (try (refine st ?_; intros))
    refine WQ.assigned (.cons (.cons (.cons (.cons .nil)))) (Mem.le.refl _) ?_
    intro Hfr2
    by_cases h0 : n = (pre.length : Int)
    · (try (refine st ?_; intros))
      refine WQ.roundRet (Hl := [.blk b5 _, .blk b4 _, .blk b3 _]) (fun w h => Pick.sat (by iterate 60 (try (first | exact Pick.all | (apply Pick.take; (· (repeat (first | exact Out.here | apply Out.there)))) | apply Pick.drop))) h) (Mem.le.refl _) ⟨rfl, pre, x, rfl, h0, ?_⟩
      rw [h0]; simp [Pc.cs]
    · (try (refine st ?_; intros))
      refine WQ.roundOn (Hl := [.blk b5 _, .blk b4 _, .blk b3 _]) (fun w h => Pick.sat (by iterate 60 (try (first | exact Pick.all | (apply Pick.take; (· (repeat (first | exact Out.here | apply Out.there)))) | apply Pick.drop))) h) (Mem.le.refl _) ⟨?_, ?_⟩
      · simp; omega
      · intro h; simp; omega
  · rintro D m' Hl ⟨rfl, hle0⟩ hm1
    have hv : nthV l n = .tuple #[zeroP, .bool false] := by
      unfold nthV; rw [dif_neg]; rintro ⟨h1, h2⟩; have := hle0 h1; omega
    rw [hv]
    simp only [List.cons_append, List.nil_append]
    (try (refine st ?_; intros))
    refine WQ.mark (List.perm_middle (l₁ := [_, _, _])) ?_
    refine q_fin1 (H0 := H) (hle.trans hm1) (Gives.mk rfl) (hd := (fun w h => Pick.sat (by iterate 60 (try (first | exact Pick.all | (apply Pick.take; (· (repeat (first | exact Out.here | apply Out.there)))) | apply Pick.drop))) h))
  · rintro D c pre m' Hl hpre ⟨rfl, p0, x, rfl, hx, rfl⟩ hm1
    obtain ⟨post, hpost⟩ := hpre
    have hv : nthV l n = .tuple #[x.v, .bool true] := by
      unfold nthV
      have hln := congrArg List.length hpost
      simp at hln
      rw [dif_pos ⟨by omega, by omega⟩]
      have e : (pieces l)[n.toNat]? = some x := by
        rw [← hpost, show n.toNat = p0.length by omega, List.append_assoc, List.getElem?_append_right (Nat.le_refl _)]; simp
      obtain ⟨_, e2⟩ := List.getElem?_eq_some_iff.1 e
      rw [e2]
    rw [hv]
    simp only [List.cons_append, List.nil_append]
    (try (refine st ?_; intros))
    refine WQ.mark (List.perm_middle (l₁ := [_, _, _])) ?_
    refine q_fin1 (H0 := H) (hle.trans hm1) (Gives.mk rfl) (hd := (fun w h => Pick.sat (by iterate 60 (try (first | exact Pick.all | (apply Pick.take; (· (repeat (first | exact Out.here | apply Out.there)))) | apply Pick.drop))) h))
theorem nth_low (l : List UInt8) (n : Int) (hl : l.length ≤ 1048576) (hn : -9223372036854775808 ≤ n ∧ n < -4611686018427387904) (w0 : World) (m : Mem) (H : SHeap) :
    Does Try.prog 40 #[str l, .int .i64 n] w0 m H (Gives (nthV l n) m H) := by
  refine Does.of_body (args := [str l, .int .i64 n]) Try.func40 rfl Try.ntmps40 rfl ?_
  have hpl := pieces_length l
  have hv : nthV l n = .tuple #[zeroP, .bool false] := by
    unfold nthV; rw [dif_neg]; rintro ⟨h1, h2⟩; omega
  rw [hv]
  (refine st ?_; intros; rename_i b3 b4 b5)
  refine w_callF Try.func38 ?_ (hs := pieces_any _ _ _ _)
  rintro _ m0 H0 ⟨b, rfl, rfl, rfl⟩
  (try (refine st ?_; intros))
  refine WC.persist (by (repeat (first | exact Out.here | apply Out.there))) ?_
  intro mp hle hb
  refine WC.rangeFunc (encs := fun p : Pc => [p.v]) (xs := pieces l) (Cap := TextAt b l) (lb := [.pointer (some ⟨b, 0, none⟩)]) (ps := [9]) (J := fun pre m' Hl => ∃ z : Int, Hl = [.blk b5 (.cells [.bool false].toArray 4 (0, 0)), .blk b4 (.cells [.int .i64 0, .int .i64 0, .int .i32 0, .bool false].toArray 24 (0, 0)), .blk b3 (.cells [.int .i64 z].toArray 3 (0, 0))] ∧ (z = n - (pre.length : Int) ∧ -9223372036854775808 ≤ z ∨ z = n - (pre.length : Int) + 18446744073709551616 ∧ n - (pre.length : Int) < -9223372036854775808)) (Jx := fun c pre m' Hl => False) rfl Try.func74 rfl rfl (pieces_seq l (by omega) b) hb (fun _ => rfl) rfl (.cons (.cons (.cons .nil))) ?_ ?_ ?_ ?_
  · exact ⟨n, rfl, by simp; omega⟩
  · rintro lp pre x post hxs m1 Hl ⟨z, rfl, hz⟩ hm1 Hfr hfr
    have hpre : pre.length ≤ (pieces l).length := by rw [hxs]; simp
    have hz0 : ¬ z = 0 := by omega
    (try (refine st ?_; intros))
    refine WQ.assigned (.cons (.cons (.cons (.cons .nil)))) (Mem.le.refl _) ?_
    intro Hfr2
    by_cases h0 : z = -9223372036854775808
    · (try (refine st ?_; intros))
      refine WL.sub rfl rfl rfl ?_
      refine WL.rename 14 (u := .int .i64 9223372036854775807) rfl (vi (by rw [h0]; decide)) ?_
      (try (refine st ?_; intros))
      refine WQ.roundOn (Hl := [.blk b5 _, .blk b4 _, .blk b3 _]) (fun w h => Pick.sat (by iterate 60 (try (first | exact Pick.all | (apply Pick.take; (· (repeat (first | exact Out.here | apply Out.there)))) | apply Pick.drop))) h) (Mem.le.refl _) ⟨_, rfl, ?_⟩
      simp; omega
    · (try (refine st ?_; intros))
      refine WQ.roundOn (Hl := [.blk b5 _, .blk b4 _, .blk b3 _]) (fun w h => Pick.sat (by iterate 60 (try (first | exact Pick.all | (apply Pick.take; (· (repeat (first | exact Out.here | apply Out.there)))) | apply Pick.drop))) h) (Mem.le.refl _) ⟨_, rfl, ?_⟩
      simp; omega
  · rintro D m' Hl ⟨z, rfl, hz⟩ hm1
    simp only [List.cons_append, List.nil_append]
    (try (refine st ?_; intros))
    refine WQ.mark (List.perm_middle (l₁ := [_, _, _])) ?_
    refine q_fin1 (H0 := H) (hle.trans hm1) (Gives.mk rfl) (hd := (fun w h => Pick.sat (by iterate 60 (try (first | exact Pick.all | (apply Pick.take; (· (repeat (first | exact Out.here | apply Out.there)))) | apply Pick.drop))) h))
  · rintro D c pre m' Hl hpre h hm1
    exact h.elim
theorem nth_all (l : List UInt8) (n : Int) (hl : l.length ≤ 1048576) (hn : -9223372036854775808 ≤ n ∧ n ≤ 9223372036854775807) (w0 : World) (m : Mem) (H : SHeap) :
    Does Try.prog 40 #[str l, .int .i64 n] w0 m H (Gives (nthV l n) m H) := by
  by_cases h : n < -4611686018427387904
  · exact nth_low l n hl ⟨hn.1, h⟩ w0 m H
  · exact nth_any l n hl ⟨by omega, hn.2⟩ w0 m H
end Go.Proofs.Ytdmdabjaboigcaa

/-
  The walk of the law RunesCuts. No condition.
-/
namespace Go.Eng
open Go Go.RowKit
section
variable {P : Program} {ro : Option Nat} {n : Nat} {w0 : World} {Q : Exit → Act → World → Prop} {r : Env} {ds : List Nat} {m : Mem} {H : SHeap} {ops : Array Oper} {l : List Oper} {d : Nat} {t : TypeId} {ty : TypeId} {pos : String} {after : Array Edge}
theorem WL.indexA {ki : IntKind} {x y : Operand} {vs : List Value} {z : Int} {i len sz : Nat} {e : TypeId} {v : Value} (hx : r.ev x = some (.agg vs.toArray)) (hy : r.ev y = some (.int ki z)) (hz : z = (i : Int)) (hu : P.underlying t = some (.array len e)) (hsz : sizeB P e = some sz)
    (hv : partB P e vs (i * sz) = some v) (hi : i < len) (hd : Nat.blt d n = true) (h : WL P ro n w0 ops Q l ((d, v) :: r) ds m H) : WL P ro n w0 ops Q (⟨some d, .index t x y, ty, pos, after, none⟩ :: l) r ds m H :=
  .val hd (fun _ h => by cases h) (fun tmps w ho _ => by
    subst hz
    have h0 : (0 : Int) ≤ (i : Int) ∧ (i : Int) < (len : Int) := by omega
    have h1 := run_part (P := P) (xs := vs.toArray) hv w
    simp only [execOp, Instr.index, asIntOf, Sem.run_bind, Sem.run_pure, run_underlying hu, Result.andThen_ok, ho.ev hx, ho.ev hy, h0, and_self, if_true, Int.toNat_natCast, run_size hsz, h1]) h
end
end Go.Eng
namespace Go.Proofs.Ytdmdabjaboigcaa
open Go Go.Eng
set_option maxRecDepth 100000
set_option maxHeartbeats 4000000
set_option linter.all false
attribute [local irreducible] WL WC WQ QFun QLoop Does Q1 QRound QAssign Go.Addr.add
theorem sq_R26_1 {G : Prop} (h : G := by (repeat (first | (refine sp ?_; (repeat intro zzc)) | (refine iF 15 rfl ?_; refine w_callG Try.func15 ?_ (hs := wakes_any _ _ _)) | (refine iF 50 rfl ?_; refine w_callG Try.func50 ?_ (hs := cut_any _ _ (by omega) (by assumption) _ _ _)) | (refine iF 51 rfl ?_; refine w_callG Try.func51 ?_ (hs := refCut_any _ _ (by omega) (by assumption) _ _ _)) | (refine iF 49 rfl ?_; refine w_callG Try.func49 ?_ (hs := mend_any _ _ (by first | omega | (simp; omega)) (by first | omega | (simp; omega)) _ _ _)) | (refine iF 52 rfl ?_; refine w_callG Try.func52 ?_ (hs := refMend_any _ _ (by first | omega | (simp; omega)) (by first | omega | (simp; omega)) _ _ _)) | (refine iF 53 rfl ?_; refine w_callG Try.func53 ?_ (hs := reverse_any _ (by first | omega | (simp; omega)) _ _ _)) | (refine iF 54 rfl ?_; refine w_callG Try.func54 ?_ (hs := refReverse_any _ (by first | omega | (simp; omega)) _ _ _)))); exact WQ.q1 rfl) : G := h
theorem st_R26_1 {G G' : Prop} (next : G') (h : Bx G' → G := by intro zzn; (first | ((refine st ?_; (repeat intro zzc)); (try ((first | (refine iF 15 rfl ?_; refine w_callG Try.func15 ?_ (hs := wakes_any _ _ _)) | (refine iF 50 rfl ?_; refine w_callG Try.func50 ?_ (hs := cut_any _ _ (by omega) (by assumption) _ _ _)) | (refine iF 51 rfl ?_; refine w_callG Try.func51 ?_ (hs := refCut_any _ _ (by omega) (by assumption) _ _ _)) | (refine iF 49 rfl ?_; refine w_callG Try.func49 ?_ (hs := mend_any _ _ (by first | omega | (simp; omega)) (by first | omega | (simp; omega)) _ _ _)) | (refine iF 52 rfl ?_; refine w_callG Try.func52 ?_ (hs := refMend_any _ _ (by first | omega | (simp; omega)) (by first | omega | (simp; omega)) _ _ _)) | (refine iF 53 rfl ?_; refine w_callG Try.func53 ?_ (hs := reverse_any _ (by first | omega | (simp; omega)) _ _ _)) | (refine iF 54 rfl ?_; refine w_callG Try.func54 ?_ (hs := refReverse_any _ (by first | omega | (simp; omega)) _ _ _)) | ((refine iDraw ?_; (first | refine WC.drawAll rfl (by decide +kernel) ?_ | refine WC.draw 1 rfl (by decide +kernel) ?_ | refine WC.draw 2 rfl (by decide +kernel) ?_ | refine WC.draw 3 rfl (by decide +kernel) ?_ | refine WC.draw 4 rfl (by decide +kernel) ?_ | refine WC.draw 5 rfl (by decide +kernel) ?_ | refine WC.draw 6 rfl (by decide +kernel) ?_ | refine WC.draw 7 rfl (by decide +kernel) ?_ | refine WC.draw 8 rfl (by decide +kernel) ?_ | refine WC.draw 9 rfl (by decide +kernel) ?_ | refine WC.draw 10 rfl (by decide +kernel) ?_ | refine WC.draw 11 rfl (by decide +kernel) ?_ | refine WC.draw 12 rfl (by decide +kernel) ?_ | refine WC.draw 13 rfl (by decide +kernel) ?_ | refine WC.draw 14 rfl (by decide +kernel) ?_ | refine WC.draw 15 rfl (by decide +kernel) ?_ | refine WC.draw 16 rfl (by decide +kernel) ?_ | refine WC.draw 17 rfl (by decide +kernel) ?_ | refine WC.draw 18 rfl (by decide +kernel) ?_ | refine WC.draw 19 rfl (by decide +kernel) ?_ | refine WC.draw 20 rfl (by decide +kernel) ?_ | refine WC.draw 21 rfl (by decide +kernel) ?_ | refine WC.draw 22 rfl (by decide +kernel) ?_ | refine WC.draw 23 rfl (by decide +kernel) ?_ | refine WC.draw 24 rfl (by decide +kernel) ?_)); (repeat (refine WD.cons rfl (fun c h => by cases h) sq_R26_1 ?_)); refine WD.nil ?_)); (try (refine st ?_; (repeat intro zzc)))))) | ((first | (refine iF 15 rfl ?_; refine w_callG Try.func15 ?_ (hs := wakes_any _ _ _)) | (refine iF 50 rfl ?_; refine w_callG Try.func50 ?_ (hs := cut_any _ _ (by omega) (by assumption) _ _ _)) | (refine iF 51 rfl ?_; refine w_callG Try.func51 ?_ (hs := refCut_any _ _ (by omega) (by assumption) _ _ _)) | (refine iF 49 rfl ?_; refine w_callG Try.func49 ?_ (hs := mend_any _ _ (by first | omega | (simp; omega)) (by first | omega | (simp; omega)) _ _ _)) | (refine iF 52 rfl ?_; refine w_callG Try.func52 ?_ (hs := refMend_any _ _ (by first | omega | (simp; omega)) (by first | omega | (simp; omega)) _ _ _)) | (refine iF 53 rfl ?_; refine w_callG Try.func53 ?_ (hs := reverse_any _ (by first | omega | (simp; omega)) _ _ _)) | (refine iF 54 rfl ?_; refine w_callG Try.func54 ?_ (hs := refReverse_any _ (by first | omega | (simp; omega)) _ _ _)) | ((refine iDraw ?_; (first | refine WC.drawAll rfl (by decide +kernel) ?_ | refine WC.draw 1 rfl (by decide +kernel) ?_ | refine WC.draw 2 rfl (by decide +kernel) ?_ | refine WC.draw 3 rfl (by decide +kernel) ?_ | refine WC.draw 4 rfl (by decide +kernel) ?_ | refine WC.draw 5 rfl (by decide +kernel) ?_ | refine WC.draw 6 rfl (by decide +kernel) ?_ | refine WC.draw 7 rfl (by decide +kernel) ?_ | refine WC.draw 8 rfl (by decide +kernel) ?_ | refine WC.draw 9 rfl (by decide +kernel) ?_ | refine WC.draw 10 rfl (by decide +kernel) ?_ | refine WC.draw 11 rfl (by decide +kernel) ?_ | refine WC.draw 12 rfl (by decide +kernel) ?_ | refine WC.draw 13 rfl (by decide +kernel) ?_ | refine WC.draw 14 rfl (by decide +kernel) ?_ | refine WC.draw 15 rfl (by decide +kernel) ?_ | refine WC.draw 16 rfl (by decide +kernel) ?_ | refine WC.draw 17 rfl (by decide +kernel) ?_ | refine WC.draw 18 rfl (by decide +kernel) ?_ | refine WC.draw 19 rfl (by decide +kernel) ?_ | refine WC.draw 20 rfl (by decide +kernel) ?_ | refine WC.draw 21 rfl (by decide +kernel) ?_ | refine WC.draw 22 rfl (by decide +kernel) ?_ | refine WC.draw 23 rfl (by decide +kernel) ?_ | refine WC.draw 24 rfl (by decide +kernel) ?_)); (repeat (refine WD.cons rfl (fun c h => by cases h) sq_R26_1 ?_)); refine WD.nil ?_)); (try (refine st ?_; (repeat intro zzc))))); (repeat ((first | (refine iF 15 rfl ?_; refine w_callG Try.func15 ?_ (hs := wakes_any _ _ _)) | (refine iF 50 rfl ?_; refine w_callG Try.func50 ?_ (hs := cut_any _ _ (by omega) (by assumption) _ _ _)) | (refine iF 51 rfl ?_; refine w_callG Try.func51 ?_ (hs := refCut_any _ _ (by omega) (by assumption) _ _ _)) | (refine iF 49 rfl ?_; refine w_callG Try.func49 ?_ (hs := mend_any _ _ (by first | omega | (simp; omega)) (by first | omega | (simp; omega)) _ _ _)) | (refine iF 52 rfl ?_; refine w_callG Try.func52 ?_ (hs := refMend_any _ _ (by first | omega | (simp; omega)) (by first | omega | (simp; omega)) _ _ _)) | (refine iF 53 rfl ?_; refine w_callG Try.func53 ?_ (hs := reverse_any _ (by first | omega | (simp; omega)) _ _ _)) | (refine iF 54 rfl ?_; refine w_callG Try.func54 ?_ (hs := refReverse_any _ (by first | omega | (simp; omega)) _ _ _)) | ((refine iDraw ?_; (first | refine WC.drawAll rfl (by decide +kernel) ?_ | refine WC.draw 1 rfl (by decide +kernel) ?_ | refine WC.draw 2 rfl (by decide +kernel) ?_ | refine WC.draw 3 rfl (by decide +kernel) ?_ | refine WC.draw 4 rfl (by decide +kernel) ?_ | refine WC.draw 5 rfl (by decide +kernel) ?_ | refine WC.draw 6 rfl (by decide +kernel) ?_ | refine WC.draw 7 rfl (by decide +kernel) ?_ | refine WC.draw 8 rfl (by decide +kernel) ?_ | refine WC.draw 9 rfl (by decide +kernel) ?_ | refine WC.draw 10 rfl (by decide +kernel) ?_ | refine WC.draw 11 rfl (by decide +kernel) ?_ | refine WC.draw 12 rfl (by decide +kernel) ?_ | refine WC.draw 13 rfl (by decide +kernel) ?_ | refine WC.draw 14 rfl (by decide +kernel) ?_ | refine WC.draw 15 rfl (by decide +kernel) ?_ | refine WC.draw 16 rfl (by decide +kernel) ?_ | refine WC.draw 17 rfl (by decide +kernel) ?_ | refine WC.draw 18 rfl (by decide +kernel) ?_ | refine WC.draw 19 rfl (by decide +kernel) ?_ | refine WC.draw 20 rfl (by decide +kernel) ?_ | refine WC.draw 21 rfl (by decide +kernel) ?_ | refine WC.draw 22 rfl (by decide +kernel) ?_ | refine WC.draw 23 rfl (by decide +kernel) ?_ | refine WC.draw 24 rfl (by decide +kernel) ?_)); (repeat (refine WD.cons rfl (fun c h => by cases h) sq_R26_1 ?_)); refine WD.nil ?_)); (try (refine st ?_; (repeat intro zzc))))); (repeat revert zzc); exact zzn.out) : G := h ⟨next⟩
theorem runesCuts_any (l w : List UInt8) (n : Int) (hl : l.length ≤ 1048576) (hwl : w.length ≤ 1048576) (hn : -9223372036854775808 ≤ n ∧ n ≤ 9223372036854775807) (w0 : World) (m : Mem) (H : SHeap) :
    Does Try.prog 11 #[str l, str w, .int .i64 n] w0 m H (fun v m' _ => v = .bool true ∧ m.le m') := by
  refine Does.of_body (args := [str l, str w, .int .i64 n]) Try.func11 rfl Try.ntmps11 rfl ?_
  have h1 : 0 ≤ (n % 18446744073709551616) % ((l.length : Int) + 2) := Int.emod_nonneg _ (by omega)
  have h2 : (n % 18446744073709551616) % ((l.length : Int) + 2) < (l.length : Int) + 2 := Int.emod_lt_of_pos _ (by omega)
  generalize hq : (n % 18446744073709551616) % ((l.length : Int) + 2) = q at h1 h2
  obtain ⟨k3, hk3, hb3⟩ : ∃ k3, IntKind.i64.wrap (-n) = k3 ∧ (-9223372036854775808 ≤ k3 ∧ k3 ≤ 9223372036854775807) := ⟨_, rfl, by rw [IntKind.wrap_i64]; omega⟩
  have hb2 : -9223372036854775808 ≤ q ∧ q ≤ 9223372036854775807 := by omega
  (try (refine st_R26_1 ?_; intros))
  refine WL.neg rfl rfl ?_
  refine WL.rename 25 (u := .int .i64 k3) rfl (vi hk3) ?_
  refine WL.rename 23 (u := .int .i64 q) rfl (vi hq) ?_
  (try (refine st_R26_1 ?_; intros))
  refine WC.loopH [(27, .int .i64 ((0) : Int)), (26, .agg [.int .i64 n, .int .i64 q, .int .i64 k3].toArray), (0, str l), (1, str w)] ?_ ?_ (fun j r ds m' H' => ∃ i, j = 3 - i ∧ r = [(27, .int .i64 (i : Int)), (26, .agg [.int .i64 n, .int .i64 q, .int .i64 k3].toArray), (0, str l), (1, str w)] ∧ ds = [] ∧ m = m' ∧ H' = H ∧ (i ≤ 3)) (3 - (0)) ⟨0, rfl, rfl, rfl, rfl, rfl, by omega⟩ ?_
  · (repeat (first | exact Env.Sub.nil | refine Env.Sub.cons rfl ?_))
  · exact (fun w h => Pick.sat (by iterate 60 (try (first | exact Pick.all | (apply Pick.take; (· (repeat (first | exact Out.here | apply Out.there)))) | apply Pick.drop))) h)
  rintro j r ds m' H' ⟨i, rfl, rfl, rfl, rfl, rfl, hi⟩
  rcases (show i = 0 ∨ i = 1 ∨ i = 2 ∨ i = 3 by omega) with rfl | rfl | rfl | rfl
  · (try (refine st_R26_1 ?_; intros))
    refine WL.indexA (i := 0) (v := .int .i64 n) rfl rfl rfl rfl rfl rfl (by omega) rfl ?_
    (try (refine st_R26_1 ?_; intros))
    refine WQ.next (3 - (1)) ⟨1, rfl, rfl, rfl, rfl, rfl, ?_⟩ (by omega) (by (repeat (first | exact Env.Sub.nil | refine Env.Sub.cons rfl ?_))) (fun w h => Pick.sat (by iterate 60 (try (first | exact Pick.all | (apply Pick.take; (· (repeat (first | exact Out.here | apply Out.there)))) | apply Pick.drop))) h)
    omega
  · (try (refine st_R26_1 ?_; intros))
    refine WL.indexA (i := 1) (v := .int .i64 q) rfl rfl rfl rfl rfl rfl (by omega) rfl ?_
    (try (refine st_R26_1 ?_; intros))
    refine WQ.next (3 - (2)) ⟨2, rfl, rfl, rfl, rfl, rfl, ?_⟩ (by omega) (by (repeat (first | exact Env.Sub.nil | refine Env.Sub.cons rfl ?_))) (fun w h => Pick.sat (by iterate 60 (try (first | exact Pick.all | (apply Pick.take; (· (repeat (first | exact Out.here | apply Out.there)))) | apply Pick.drop))) h)
    omega
  · (try (refine st_R26_1 ?_; intros))
    refine WL.indexA (i := 2) (v := .int .i64 k3) rfl rfl rfl rfl rfl rfl (by omega) rfl ?_
    (try (refine st_R26_1 ?_; intros))
    refine WQ.next (3 - (3)) ⟨3, rfl, rfl, rfl, rfl, rfl, ?_⟩ (by omega) (by (repeat (first | exact Env.Sub.nil | refine Env.Sub.cons rfl ?_))) (fun w h => Pick.sat (by iterate 60 (try (first | exact Pick.all | (apply Pick.take; (· (repeat (first | exact Out.here | apply Out.there)))) | apply Pick.drop))) h)
    omega
  · by_cases g1 : 64 < w.length
    · by_cases g2 : 65536 < l.length
      · (try (refine st_R26_1 ?_; intros))
        (refine q_fin0 ?_)
        exact ⟨rfl, Mem.le.refl _⟩
      · (try (refine st_R26_1 ?_; intros))
        (refine q_fin0 ?_)
        exact ⟨rfl, Mem.le.refl _⟩
    · by_cases g2 : 65536 < l.length
      · (try (refine st_R26_1 ?_; intros))
        (refine q_fin0 ?_)
        exact ⟨rfl, Mem.le.refl _⟩
      · (try (refine st_R26_1 ?_; intros))
        (refine q_fin0 ?_)
        exact ⟨rfl, Mem.le.refl _⟩
end Go.Proofs.Ytdmdabjaboigcaa

/-
  The walk of the law RunesPieces. No condition.
-/
namespace Go.Eng
open Go Go.RowKit
section
variable {P : Program} {ro : Option Nat} {n : Nat} {w0 : World} {Q : Exit → Act → World → Prop} {r : Env} {ds : List Nat} {m : Mem} {H : SHeap}
def dfr (D : Nat) : Item := .blk D (.deferred (some []))
/-- a loop over a function that is left at once -/
theorem WC.rangeBreak {α : Type} {id k : Nat} {g : Operand} {gf : FuncId} {fn : Func} {cb : Code} {lb : List Value} {encs : α → List Value} {xs : List α} {Cap : Mem → Prop} {ps : List Nat}
    (hseq : SeqC P gf lb encs xs Cap) (hcap : Cap m) (hne : Nat.beq id k = false) (hg : r.ev g = some (.func (.func gf) #[] lb.toArray)) (hf : P.funcs[gf]? = some fn) (hname : (fn.name == "runtime.NumGoroutine") = false) (hb : fn.body = some cb)
    (hps : ∀ x, (encs x).length = ps.length) (hpn : ps.all (fun p => Nat.blt p n) = true)
    (h : ∀ D m', m.le m' → WQ n w0 Q .normal r (D :: ds) m' (.blk D (.deferred (some [])) :: H)) :
    WC P none n w0 (.rangeFunc g ps.toArray .skip (.block k (.exit id))) (Exit.inBlock id Q) r ds m H := by
  refine WC.rangeFunc (Hl0 := []) (Hc := H) hg hf hname hb hseq hcap hps hpn (fun _ _ Hl => Hl = []) (fun c _ _ Hl => c = .exit id ∧ Hl = []) .nil rfl ?_ ?_ ?_
  · rintro lp pre x post _ m1 Hl rfl hm1 Hfr _
    refine WC.skip (WQ.assigned (Hl := []) .nil (Mem.le.refl _) ?_)
    intro Hfr2
    exact WC.block (WC.exit (WQ.blockOther hne (WQ.roundExit (Hl := []) (fun _ h => h) (Mem.le.refl _) ⟨rfl, rfl⟩)))
  · rintro D m' Hl rfl hm'
    exact WQ.blockNorm (h D m' hm')
  · rintro D c pre m' Hl _ ⟨rfl, rfl⟩ hm'
    exact WC.exit (WQ.blockSame (h D m' hm'))
end
end Go.Eng
namespace Go.Proofs.Ytdmdabjaboigcaa
open Go Go.Eng
set_option maxRecDepth 100000
set_option maxHeartbeats 4000000
set_option linter.all false
attribute [local irreducible] WL WC WQ QFun QLoop Does Q1 QRound QAssign Go.Addr.add
theorem nthV_yes {l : List UInt8} {i : Nat} {p : Pc} (h : (pieces l)[i]? = some p) : nthV l (i : Int) = .tuple #[p.v, .bool true] := by
  obtain ⟨h1, h2⟩ := List.getElem?_eq_some_iff.1 h
  unfold nthV
  rw [dif_pos ⟨by omega, by simpa using h1⟩]
  simp [h2]
theorem nthV_no {l : List UInt8} {n : Int} (h : ¬ (0 ≤ n ∧ n < (pieces l).length)) : nthV l n = .tuple #[.agg #[.int .i64 0, .int .i64 0, .int .i32 0, .bool false], .bool false] := by
  unfold nthV
  rw [dif_neg]
  · rfl
  rintro ⟨h1, h2⟩
  exact h ⟨h1, by omega⟩
theorem nth_is {l : List UInt8} {z : Int} {v : Value} (hl : l.length ≤ 1048576) (hz : -9223372036854775808 ≤ z ∧ z ≤ 9223372036854775807) (h : nthV l z = v) (w0 : World) (m : Mem) (H : SHeap) :
    Does Try.prog 40 #[str l, .int .i64 z] w0 m H (Gives v m H) := by subst h; exact nth_all l z hl hz w0 m H
theorem eq_zero_same : eqB Try.prog 8 24 (.agg #[.int .i64 0, .int .i64 0, .int .i32 0, .bool false]) (.agg #[.int .i64 0, .int .i64 0, .int .i32 0, .bool false]) = some true := (eq_piece _ _ _ _ _ _ _ _).trans (by rw [dcd_true ⟨rfl, rfl, rfl, rfl⟩])
theorem sq_R29_1 {G : Prop} (h : G := by (repeat (first | (refine sp ?_; (repeat intro zzc)) | (refine iB_eql rfl ?_; refine w_eqlV ?_ (he := eq_zero_same)) | (refine iB_neq rfl ?_; refine w_neqV ?_ (he := eq_zero_same)) | (refine iB_eql rfl ?_; refine w_eqlV ?_ (he := eq_piece_same _)) | (refine iB_neq rfl ?_; refine w_neqV ?_ (he := eq_piece_same _)) | (refine iF 15 rfl ?_; refine w_callG Try.func15 ?_ (hs := wakes_any _ _ _)) | (refine iF 40 rfl ?_; refine w_callG Try.func40 ?_ (hs := nth_is (by assumption) (by assumption) (by assumption) _ _ _)))); exact WQ.q1 rfl) : G := h
theorem st_R29_1 {G G' : Prop} (next : G') (h : Bx G' → G := by intro zzn; (first | ((refine st ?_; (repeat intro zzc)); (try ((first | (refine iB_eql rfl ?_; refine w_eqlV ?_ (he := eq_zero_same)) | (refine iB_neq rfl ?_; refine w_neqV ?_ (he := eq_zero_same)) | (refine iB_eql rfl ?_; refine w_eqlV ?_ (he := eq_piece_same _)) | (refine iB_neq rfl ?_; refine w_neqV ?_ (he := eq_piece_same _)) | (refine iF 15 rfl ?_; refine w_callG Try.func15 ?_ (hs := wakes_any _ _ _)) | (refine iF 40 rfl ?_; refine w_callG Try.func40 ?_ (hs := nth_is (by assumption) (by assumption) (by assumption) _ _ _)) | ((refine iDraw ?_; (first | refine WC.drawAll rfl (by decide +kernel) ?_ | refine WC.draw 1 rfl (by decide +kernel) ?_ | refine WC.draw 2 rfl (by decide +kernel) ?_ | refine WC.draw 3 rfl (by decide +kernel) ?_ | refine WC.draw 4 rfl (by decide +kernel) ?_ | refine WC.draw 5 rfl (by decide +kernel) ?_ | refine WC.draw 6 rfl (by decide +kernel) ?_ | refine WC.draw 7 rfl (by decide +kernel) ?_ | refine WC.draw 8 rfl (by decide +kernel) ?_ | refine WC.draw 9 rfl (by decide +kernel) ?_ | refine WC.draw 10 rfl (by decide +kernel) ?_ | refine WC.draw 11 rfl (by decide +kernel) ?_ | refine WC.draw 12 rfl (by decide +kernel) ?_ | refine WC.draw 13 rfl (by decide +kernel) ?_ | refine WC.draw 14 rfl (by decide +kernel) ?_ | refine WC.draw 15 rfl (by decide +kernel) ?_ | refine WC.draw 16 rfl (by decide +kernel) ?_ | refine WC.draw 17 rfl (by decide +kernel) ?_ | refine WC.draw 18 rfl (by decide +kernel) ?_ | refine WC.draw 19 rfl (by decide +kernel) ?_ | refine WC.draw 20 rfl (by decide +kernel) ?_ | refine WC.draw 21 rfl (by decide +kernel) ?_ | refine WC.draw 22 rfl (by decide +kernel) ?_ | refine WC.draw 23 rfl (by decide +kernel) ?_ | refine WC.draw 24 rfl (by decide +kernel) ?_)); (repeat (refine WD.cons rfl (fun c h => by cases h) sq_R29_1 ?_)); refine WD.nil ?_)); (try (refine st ?_; (repeat intro zzc)))))) | ((first | (refine iB_eql rfl ?_; refine w_eqlV ?_ (he := eq_zero_same)) | (refine iB_neq rfl ?_; refine w_neqV ?_ (he := eq_zero_same)) | (refine iB_eql rfl ?_; refine w_eqlV ?_ (he := eq_piece_same _)) | (refine iB_neq rfl ?_; refine w_neqV ?_ (he := eq_piece_same _)) | (refine iF 15 rfl ?_; refine w_callG Try.func15 ?_ (hs := wakes_any _ _ _)) | (refine iF 40 rfl ?_; refine w_callG Try.func40 ?_ (hs := nth_is (by assumption) (by assumption) (by assumption) _ _ _)) | ((refine iDraw ?_; (first | refine WC.drawAll rfl (by decide +kernel) ?_ | refine WC.draw 1 rfl (by decide +kernel) ?_ | refine WC.draw 2 rfl (by decide +kernel) ?_ | refine WC.draw 3 rfl (by decide +kernel) ?_ | refine WC.draw 4 rfl (by decide +kernel) ?_ | refine WC.draw 5 rfl (by decide +kernel) ?_ | refine WC.draw 6 rfl (by decide +kernel) ?_ | refine WC.draw 7 rfl (by decide +kernel) ?_ | refine WC.draw 8 rfl (by decide +kernel) ?_ | refine WC.draw 9 rfl (by decide +kernel) ?_ | refine WC.draw 10 rfl (by decide +kernel) ?_ | refine WC.draw 11 rfl (by decide +kernel) ?_ | refine WC.draw 12 rfl (by decide +kernel) ?_ | refine WC.draw 13 rfl (by decide +kernel) ?_ | refine WC.draw 14 rfl (by decide +kernel) ?_ | refine WC.draw 15 rfl (by decide +kernel) ?_ | refine WC.draw 16 rfl (by decide +kernel) ?_ | refine WC.draw 17 rfl (by decide +kernel) ?_ | refine WC.draw 18 rfl (by decide +kernel) ?_ | refine WC.draw 19 rfl (by decide +kernel) ?_ | refine WC.draw 20 rfl (by decide +kernel) ?_ | refine WC.draw 21 rfl (by decide +kernel) ?_ | refine WC.draw 22 rfl (by decide +kernel) ?_ | refine WC.draw 23 rfl (by decide +kernel) ?_ | refine WC.draw 24 rfl (by decide +kernel) ?_)); (repeat (refine WD.cons rfl (fun c h => by cases h) sq_R29_1 ?_)); refine WD.nil ?_)); (try (refine st ?_; (repeat intro zzc))))); (repeat ((first | (refine iB_eql rfl ?_; refine w_eqlV ?_ (he := eq_zero_same)) | (refine iB_neq rfl ?_; refine w_neqV ?_ (he := eq_zero_same)) | (refine iB_eql rfl ?_; refine w_eqlV ?_ (he := eq_piece_same _)) | (refine iB_neq rfl ?_; refine w_neqV ?_ (he := eq_piece_same _)) | (refine iF 15 rfl ?_; refine w_callG Try.func15 ?_ (hs := wakes_any _ _ _)) | (refine iF 40 rfl ?_; refine w_callG Try.func40 ?_ (hs := nth_is (by assumption) (by assumption) (by assumption) _ _ _)) | ((refine iDraw ?_; (first | refine WC.drawAll rfl (by decide +kernel) ?_ | refine WC.draw 1 rfl (by decide +kernel) ?_ | refine WC.draw 2 rfl (by decide +kernel) ?_ | refine WC.draw 3 rfl (by decide +kernel) ?_ | refine WC.draw 4 rfl (by decide +kernel) ?_ | refine WC.draw 5 rfl (by decide +kernel) ?_ | refine WC.draw 6 rfl (by decide +kernel) ?_ | refine WC.draw 7 rfl (by decide +kernel) ?_ | refine WC.draw 8 rfl (by decide +kernel) ?_ | refine WC.draw 9 rfl (by decide +kernel) ?_ | refine WC.draw 10 rfl (by decide +kernel) ?_ | refine WC.draw 11 rfl (by decide +kernel) ?_ | refine WC.draw 12 rfl (by decide +kernel) ?_ | refine WC.draw 13 rfl (by decide +kernel) ?_ | refine WC.draw 14 rfl (by decide +kernel) ?_ | refine WC.draw 15 rfl (by decide +kernel) ?_ | refine WC.draw 16 rfl (by decide +kernel) ?_ | refine WC.draw 17 rfl (by decide +kernel) ?_ | refine WC.draw 18 rfl (by decide +kernel) ?_ | refine WC.draw 19 rfl (by decide +kernel) ?_ | refine WC.draw 20 rfl (by decide +kernel) ?_ | refine WC.draw 21 rfl (by decide +kernel) ?_ | refine WC.draw 22 rfl (by decide +kernel) ?_ | refine WC.draw 23 rfl (by decide +kernel) ?_ | refine WC.draw 24 rfl (by decide +kernel) ?_)); (repeat (refine WD.cons rfl (fun c h => by cases h) sq_R29_1 ?_)); refine WD.nil ?_)); (try (refine st ?_; (repeat intro zzc))))); (repeat revert zzc); exact zzn.out) : G := h ⟨next⟩
theorem runesPieces_any (l : List UInt8) (n : Int) (hl : l.length ≤ 1048576) (hn : -9223372036854775808 ≤ n ∧ n ≤ 9223372036854775807) (w0 : World) (m : Mem) (H : SHeap) :
    Does Try.prog 7 #[str l, .int .i64 n] w0 m H (fun v m' _ => v = .bool true ∧ m.le m') := by
  refine Does.of_body (args := [str l, .int .i64 n]) Try.func7 rfl Try.ntmps7 rfl ?_
  have hpl := pieces_length l
  have hml : ((pieces l).map Pc.cs).length = (pieces l).length := by simp
  (refine st_R29_1 ?_; intros; rename_i b4)
  refine w_callF Try.func19 ?_ (hs := refPieces_any _ (by omega) _ _ _)
  rintro _ _ _ ⟨a, cap, rfl, rfl, rfl⟩
  rw [hml]
  (refine st_R29_1 ?_; intros; rename_i b5)
  refine w_callF Try.func38 ?_ (hs := pieces_any _ _ _ _)
  rintro _ _ _ ⟨bp, rfl, rfl, rfl⟩
  (try (refine st_R29_1 ?_; intros))
  refine w_callF Try.func39 ?_ (hs := back_any _ _ _ _)
  rintro _ _ _ ⟨bb, rfl, rfl, rfl⟩
  refine WL.persist (b := bp) (by (repeat (first | exact Out.here | apply Out.there))) ?_
  intro m1 hle1 hbp
  refine WL.persist (b := bb) (by (repeat (first | exact Out.here | apply Out.there))) ?_
  intro m2 hle2 hbb
  have hbp2 := hle2 _ _ hbp
  (refine st_R29_1 ?_; intros; rename_i b7)
  refine WC.loopH [(8, .int .i64 ((0) : Int)), (0, str l), (1, .int .i64 n), (4, .pointer (some ⟨b4, 0, none⟩)), (5, .pointer (some ⟨b5, 0, none⟩)), (6, .func (.func 74) #[] #[.pointer (some ⟨bp, 0, none⟩)]), (7, .pointer (some ⟨b7, 0, none⟩))] ?_ ?_ (fun j r ds m' H' => ∃ (k : _) (Ds : List Nat) (mm : _), j = 2 * (2 - k) ∧ r = [(8, .int .i64 (k : Int)), (0, str l), (1, .int .i64 n), (4, .pointer (some ⟨b4, 0, none⟩)), (5, .pointer (some ⟨b5, 0, none⟩)), (6, .func (.func 74) #[] #[.pointer (some ⟨bp, 0, none⟩)]), (7, .pointer (some ⟨b7, 0, none⟩))] ∧ ds = Ds ∧ mm = m' ∧ H' = .row a cap 24 4 ((pieces l).map Pc.cs) :: .blk b7 (.cells [.func (.func 75) #[] #[.pointer (some ⟨bb, 0, none⟩)]].toArray 54 (0, 0)) :: .blk b5 (.cells [.slice a (pieces l).length cap].toArray 29 (0, 0)) :: .blk b4 (.cells [.bool false].toArray 4 (0, 0)) :: (List.map dfr Ds ++ H) ∧ (m2.le mm)) (2 * (2 - (0))) ⟨0, [], m2, rfl, rfl, rfl, rfl, rfl, Mem.le.refl _⟩ ?_
  · (repeat (first | exact Env.Sub.nil | refine Env.Sub.cons rfl ?_))
  · exact (fun w h => Pick.sat (by iterate 60 (try (first | exact Pick.all | (apply Pick.take; (· (repeat (first | exact Out.here | apply Out.there)))) | apply Pick.drop))) h)
  rintro j r ds m' H' ⟨k, Ds, mm, rfl, rfl, rfl, rfl, rfl, hmm⟩
  generalize ds = Ds
  by_cases hk : k < 2
  · (refine st_R29_1 ?_; intros; rename_i b9)
    refine WC.rangeFunc (encs := fun p : Pc => [p.v]) (xs := pieces l) (Cap := TextAt bp l) (lb := [.pointer (some ⟨bp, 0, none⟩)]) (ps := [38]) (J := fun pre m' Hl => Hl = [.blk b9 (.cells [.int .i64 (pre.length : Int)].toArray 3 (0, 0)), .row a cap 24 4 ((pieces l).map Pc.cs), .blk b7 (.cells [.func (.func 75) #[] #[.pointer (some ⟨bb, 0, none⟩)]].toArray 54 (0, 0)), .blk b5 (.cells [.slice a (pieces l).length cap].toArray 29 (0, 0)), .blk b4 (.cells [.bool false].toArray 4 (0, 0))]) (Jx := fun _ _ _ _ => False)
      rfl Try.func74 rfl rfl (pieces_seq l (by omega) bp) (hmm _ _ hbp2) (fun _ => rfl) rfl (.cons (.cons (.cons (.cons (.cons .nil))))) ?_ ?_ ?_ ?_
    · rfl
    · rintro lp pre x post hxs mx Hl rfl hmx Hfr hfr
      have hpre : (pieces l).length = pre.length + post.length + 1 := by rw [hxs]; simp; omega
      have hget : ((pieces l).map Pc.cs)[pre.length]? = some x.cs := by rw [hxs]; simp
      (refine st_R29_1 ?_; intros; rename_i b10)
      refine WQ.assignedIn (.cons (.cons (.cons (.cons (.cons (.cons .nil)))))) (Mem.le.refl _) ?_
      intro Hfr2 hfr2
      refine WC.rowSome (a := a) (by (repeat (first | exact List.Mem.head _ | apply List.Mem.tail))) (by omega) ?_
      rintro a0 rfl
      by_cases h2 : pre.length + 1 = 2
      · (refine st_R29_1 ?_; intros; rename_i b11)
        refine WC.rangeFuncIn (lo := lp) (Hc := Hfr2) hfr2 (encs := fun p : Pc => [p.v]) (xs := (pieces l).reverse) (Cap := TextAt bb l) (lb := [.pointer (some ⟨bb, 0, none⟩)]) (ps := [58])
          (J := fun pre2 m' Hl => Hl = [.blk b11 (.cells [.int .i64 (((pieces l).length : Int) - (pre2.length : Int))].toArray 3 (0, 0)), .blk b10 (.cells x.cs.toArray 24 (0, 0)), .blk b9 (.cells [.int .i64 ((pre.length : Int) + 1)].toArray 3 (0, 0)), .row (some a0) cap 24 4 ((pieces l).map Pc.cs), .blk b7 (.cells [.func (.func 75) #[] #[.pointer (some ⟨bb, 0, none⟩)]].toArray 54 (0, 0)), .blk b5 (.cells [.slice (some a0) (pieces l).length cap].toArray 29 (0, 0)), .blk b4 (.cells [.bool false].toArray 4 (0, 0))])
          (Jx := fun c pre2 m' Hl => c = .exit 4 ∧ ∃ z : Int, Hl = [.blk b11 (.cells [.int .i64 z].toArray 3 (0, 0)), .blk b10 (.cells x.cs.toArray 24 (0, 0)), .blk b9 (.cells [.int .i64 ((pre.length : Int) + 1)].toArray 3 (0, 0)), .row (some a0) cap 24 4 ((pieces l).map Pc.cs), .blk b7 (.cells [.func (.func 75) #[] #[.pointer (some ⟨bb, 0, none⟩)]].toArray 54 (0, 0)), .blk b5 (.cells [.slice (some a0) (pieces l).length cap].toArray 29 (0, 0)), .blk b4 (.cells [.bool false].toArray 4 (0, 0))])
          rfl Try.func75 rfl rfl (back_seq l (by omega) bb) ((hmm.trans hmx) _ _ hbb) (fun _ => rfl) rfl (.cons (.cons (.cons (.cons (.cons (.cons (.cons .nil))))))) ?_ ?_ ?_ ?_
        · simp [Pc.cs]
        · rintro lp2 pre2 y post2 hys my Hl rfl hmy Hfr3 hfr3
          have hlen2 : (pieces l).length = pre2.length + post2.length + 1 := by have := congrArg List.length hys; simp at this; omega
          have hget2 : ((pieces l).map Pc.cs)[(((pieces l).length : Int) - (pre2.length : Int) - 1).toNat]? = some y.cs := by
            have e : pieces l = post2.reverse ++ y :: pre2.reverse := by have := congrArg List.reverse hys; simpa using this
            rw [show (((pieces l).length : Int) - (pre2.length : Int) - 1).toNat = post2.length by omega, e, List.getElem?_map]
            rw [List.getElem?_append_right (by simp)]
            simp
          (refine st_R29_1 ?_; intros; rename_i b12)
          refine WQ.assigned (.cons (.cons (.cons (.cons (.cons (.cons (.cons (.cons .nil)))))))) (Mem.le.refl _) ?_
          intro Hfr4
          by_cases h3 : ((pieces l).length : Int) - (pre2.length : Int) - 1 < ((pieces l).length : Int) - 2
          · (try (refine st_R29_1 ?_; intros))
            refine WQ.roundExit (Hl := [.blk b11 _, .blk b10 _, .blk b9 _, .row (some a0) cap 24 4 _, .blk b7 _, .blk b5 _, .blk b4 _]) (fun w h => Pick.sat (by iterate 60 (try (first | exact Pick.all | (apply Pick.take; (· (repeat (first | exact Out.here | apply Out.there)))) | apply Pick.drop))) h) (Mem.le.refl _) ⟨rfl, _, rfl⟩
          · (try (refine st_R29_1 ?_; intros))
            refine WQ.roundOn (Hl := [.blk b11 _, .blk b10 _, .blk b9 _, .row (some a0) cap 24 4 _, .blk b7 _, .blk b5 _, .blk b4 _]) (fun w h => Pick.sat (by iterate 60 (try (first | exact Pick.all | (apply Pick.take; (· (repeat (first | exact Out.here | apply Out.there)))) | apply Pick.drop))) h) (Mem.le.refl _) ?_
            simp; omega
        · rintro my Hl rfl hmy
          simp only [List.cons_append, List.nil_append]
          (try (refine st_R29_1 ?_; intros))
          refine WQ.roundOn (Hl := [.blk b9 _, .row (some a0) cap 24 4 _, .blk b7 _, .blk b5 _, .blk b4 _]) (fun w h => Pick.sat (by iterate 60 (try (first | exact Pick.all | (apply Pick.take; (· (repeat (first | exact Out.here | apply Out.there)))) | apply Pick.drop))) h) hmy ?_
          simp
        · rintro c pre2 my Hl _ ⟨rfl, z, rfl⟩ hmy
          simp only [List.cons_append, List.nil_append]
          (try (refine st_R29_1 ?_; intros))
          refine WQ.roundOn (Hl := [.blk b9 _, .row (some a0) cap 24 4 _, .blk b7 _, .blk b5 _, .blk b4 _]) (fun w h => Pick.sat (by iterate 60 (try (first | exact Pick.all | (apply Pick.take; (· (repeat (first | exact Out.here | apply Out.there)))) | apply Pick.drop))) h) hmy ?_
          simp
      · (try (refine st_R29_1 ?_; intros))
        refine WQ.roundOn (Hl := [.blk b9 _, .row (some a0) cap 24 4 _, .blk b7 _, .blk b5 _, .blk b4 _]) (fun w h => Pick.sat (by iterate 60 (try (first | exact Pick.all | (apply Pick.take; (· (repeat (first | exact Out.here | apply Out.there)))) | apply Pick.drop))) h) (Mem.le.refl _) ?_
        simp
    · rintro D mx Hl rfl hmx
      simp only [List.cons_append, List.nil_append]
      have hmx2 := hmm.trans hmx
      (refine st_R29_1 ?_; intros; rename_i b13)
      refine WC.rangeFunc (encs := fun p : Pc => [p.v]) (xs := (pieces l).reverse) (Cap := TextAt bb l) (lb := [.pointer (some ⟨bb, 0, none⟩)]) (ps := [81])
        (J := fun pre m' Hl => Hl = [.blk b13 (.cells [.int .i64 (((pieces l).length : Int) - (pre.length : Int))].toArray 3 (0, 0)), .blk b9 (.cells [.int .i64 ((pieces l).length : Int)].toArray 3 (0, 0)), .row a cap 24 4 ((pieces l).map Pc.cs), .blk b7 (.cells [.func (.func 75) #[] #[.pointer (some ⟨bb, 0, none⟩)]].toArray 54 (0, 0)), .blk b5 (.cells [.slice a (pieces l).length cap].toArray 29 (0, 0)), .blk b4 (.cells [.bool false].toArray 4 (0, 0))]) (Jx := fun _ _ _ _ => False)
        rfl Try.func75 rfl rfl (back_seq l (by omega) bb) (hmx2 _ _ hbb) (fun _ => rfl) rfl (.cons (.cons (.cons (.cons (.cons (.cons .nil)))))) ?_ ?_ ?_ ?_
      · simp
      · rintro lp2 pre2 y post2 hys my Hl rfl hmy Hfr3 hfr3
        have hlen2 : (pieces l).length = pre2.length + post2.length + 1 := by have := congrArg List.length hys; simp at this; omega
        have hget2 : ((pieces l).map Pc.cs)[(((pieces l).length : Int) - (pre2.length : Int) - 1).toNat]? = some y.cs := by
          have e : pieces l = post2.reverse ++ y :: pre2.reverse := by have := congrArg List.reverse hys; simpa using this
          rw [show (((pieces l).length : Int) - (pre2.length : Int) - 1).toNat = post2.length by omega, e, List.getElem?_map]
          rw [List.getElem?_append_right (by simp)]
          simp
        (try (refine st_R29_1 ?_; intros))
        refine WQ.assigned (.cons (.cons (.cons (.cons (.cons (.cons (.cons .nil))))))) (Mem.le.refl _) ?_
        intro Hfr4
        refine WC.rowSome (a := a) (by (repeat (first | exact List.Mem.head _ | apply List.Mem.tail))) (by omega) ?_
        rintro a0 rfl
        (try (refine st_R29_1 ?_; intros))
        refine WQ.roundOn (Hl := [.blk b13 _, .blk b9 _, .row (some a0) cap 24 4 _, .blk b7 _, .blk b5 _, .blk b4 _]) (fun w h => Pick.sat (by iterate 60 (try (first | exact Pick.all | (apply Pick.take; (· (repeat (first | exact Out.here | apply Out.there)))) | apply Pick.drop))) h) (Mem.le.refl _) ?_
        simp; omega
      · rintro D2 my Hl rfl hmy
        simp only [List.cons_append, List.nil_append]
        have hmy2 := hmx2.trans hmy
        have hzr : ((pieces l).length : Int) - ((pieces l).reverse.length : Int) = 0 := by simp
        (try (refine st_R29_1 ?_; intros))
        refine WC.rangeBreak (pieces_seq l (by omega) bp) (hmy2 _ _ hbp2) rfl rfl Try.func74 rfl rfl (fun _ => rfl) rfl ?_
        intro D3 mz hmz
        have hmz2 := hmy2.trans hmz
        (try (refine st_R29_1 ?_; intros))
        refine WC.rangeBreak (back_seq l (by omega) bb) (hmz2 _ _ hbb) rfl rfl Try.func75 rfl rfl (fun _ => rfl) rfl ?_
        intro D4 mu hmu
        (try (refine st_R29_1 ?_; intros))
        refine WQ.next (2 * (2 - (k + 1))) ⟨k + 1, D4 :: D3 :: D2 :: D :: Ds, mu, rfl, rfl, rfl, rfl, rfl, hmz2.trans hmu⟩ (by omega) (by (repeat (first | exact Env.Sub.nil | refine Env.Sub.cons rfl ?_))) (fun w h => Pick.sat (by iterate 60 (try (first | exact Pick.all | (apply Pick.take; (· (repeat (first | exact Out.here | apply Out.there)))) | apply Pick.drop))) h)
      · rintro D c pre m' Hl _ h _
        exact h.elim
    · rintro D c pre m' Hl _ h _
      exact h.elim
  · have h1 : 0 ≤ (n % 18446744073709551616) % (((pieces l).length : Int) + 1) := Int.emod_nonneg _ (by omega)
    have h2 : (n % 18446744073709551616) % (((pieces l).length : Int) + 1) < ((pieces l).length : Int) + 1 := Int.emod_lt_of_pos _ (by omega)
    generalize hq : (n % 18446744073709551616) % (((pieces l).length : Int) + 1) = q at h1 h2
    (try (refine st_R29_1 ?_; intros))
    refine WC.rename 120 (u := .agg [.int .i64 n, .int .i64 (((pieces l).length : Int) - 1), .int .i64 ((pieces l).length : Int), .int .i64 q].toArray) rfl (by rw [hq]) ?_
    (try (refine st_R29_1 ?_; intros))
    refine WC.loopH [(121, .int .i64 ((0) : Int)), (120, .agg [.int .i64 n, .int .i64 (((pieces l).length : Int) - 1), .int .i64 ((pieces l).length : Int), .int .i64 q].toArray), (0, str l), (1, .int .i64 n), (4, .pointer (some ⟨b4, 0, none⟩)), (5, .pointer (some ⟨b5, 0, none⟩)), (6, .func (.func 74) #[] #[.pointer (some ⟨bp, 0, none⟩)]), (7, .pointer (some ⟨b7, 0, none⟩))] ?_ ?_ (fun j r ds m' H' => ∃ i, j = 4 - i ∧ r = [(121, .int .i64 (i : Int)), (120, .agg [.int .i64 n, .int .i64 (((pieces l).length : Int) - 1), .int .i64 ((pieces l).length : Int), .int .i64 q].toArray), (0, str l), (1, .int .i64 n), (4, .pointer (some ⟨b4, 0, none⟩)), (5, .pointer (some ⟨b5, 0, none⟩)), (6, .func (.func 74) #[] #[.pointer (some ⟨bp, 0, none⟩)]), (7, .pointer (some ⟨b7, 0, none⟩))] ∧ ds = Ds ∧ mm = m' ∧ H' = .row a cap 24 4 ((pieces l).map Pc.cs) :: .blk b7 (.cells [.func (.func 75) #[] #[.pointer (some ⟨bb, 0, none⟩)]].toArray 54 (0, 0)) :: .blk b5 (.cells [.slice a (pieces l).length cap].toArray 29 (0, 0)) :: .blk b4 (.cells [.bool false].toArray 4 (0, 0)) :: (List.map dfr Ds ++ H) ∧ (i ≤ 4)) (4 - (0)) ⟨0, rfl, rfl, rfl, rfl, rfl, by omega⟩ ?_
    · (repeat (first | exact Env.Sub.nil | refine Env.Sub.cons rfl ?_))
    · exact (fun w h => Pick.sat (by iterate 60 (try (first | exact Pick.all | (apply Pick.take; (· (repeat (first | exact Out.here | apply Out.there)))) | apply Pick.drop))) h)
    rintro j r ds m' H' ⟨i, rfl, rfl, rfl, rfl, rfl, hi⟩
    by_cases hi4 : i < 4
    · obtain ⟨z, hz, hzb⟩ : ∃ z, partB Try.prog 3 [.int .i64 n, .int .i64 (((pieces l).length : Int) - 1), .int .i64 ((pieces l).length : Int), .int .i64 q] (i * 1) = some (.int .i64 z) ∧ (-9223372036854775808 ≤ z ∧ z ≤ 9223372036854775807) := by
        rcases (show i = 0 ∨ i = 1 ∨ i = 2 ∨ i = 3 by omega) with rfl | rfl | rfl | rfl
        · exact ⟨_, rfl, hn⟩
        · exact ⟨_, rfl, by omega⟩
        · exact ⟨_, rfl, by omega⟩
        · exact ⟨_, rfl, by omega⟩
      (try (refine st_R29_1 ?_; intros))
      refine WL.indexA (i := i) (v := .int .i64 z) rfl rfl rfl rfl rfl hz (by omega) rfl ?_
      by_cases hin : 0 ≤ z ∧ z < ((pieces l).length : Int)
      · obtain ⟨k2, rfl⟩ : ∃ k2 : Nat, z = (k2 : Int) := ⟨z.toNat, by omega⟩
        obtain ⟨p, hp, hget, htk, hmem, hdr⟩ := at_idx (xs := pieces l) (f := Pc.cs) (i := k2) (by omega)
        have hv := nthV_yes hp
        (refine st_R29_1 ?_; intros; rename_i b17)
        refine WC.rowSome (a := a) (by (repeat (first | exact List.Mem.head _ | apply List.Mem.tail))) (by omega) ?_
        rintro a0 rfl
        (try (refine st_R29_1 ?_; intros))
        refine WQ.next (4 - (i + 1)) ⟨i + 1, rfl, rfl, rfl, rfl, rfl, ?_⟩ (by omega) (by (repeat (first | exact Env.Sub.nil | refine Env.Sub.cons rfl ?_))) (fun w h => Pick.sat (by iterate 60 (try (first | exact Pick.all | (apply Pick.take; (· (repeat (first | exact Out.here | apply Out.there)))) | apply Pick.drop))) h)
        omega
      · have hv := nthV_no hin
        by_cases hz0 : 0 ≤ z
        · (refine st_R29_1 ?_; intros; rename_i b17)
          refine WQ.next (4 - (i + 1)) ⟨i + 1, rfl, rfl, rfl, rfl, rfl, ?_⟩ (by omega) (by (repeat (first | exact Env.Sub.nil | refine Env.Sub.cons rfl ?_))) (fun w h => Pick.sat (by iterate 60 (try (first | exact Pick.all | (apply Pick.take; (· (repeat (first | exact Out.here | apply Out.there)))) | apply Pick.drop))) h)
          omega
        · (refine st_R29_1 ?_; intros; rename_i b17)
          refine WQ.next (4 - (i + 1)) ⟨i + 1, rfl, rfl, rfl, rfl, rfl, ?_⟩ (by omega) (by (repeat (first | exact Env.Sub.nil | refine Env.Sub.cons rfl ?_))) (fun w h => Pick.sat (by iterate 60 (try (first | exact Pick.all | (apply Pick.take; (· (repeat (first | exact Out.here | apply Out.there)))) | apply Pick.drop))) h)
          omega
    · (try (refine st_R29_1 ?_; intros))
      refine WQ.marks (H1 := [_, _, _, _] ++ H) (List.perm_append_comm_assoc [_, _, _, _] (List.map dfr _) H) ?_
      refine q_fin1 (H0 := H) (hle1.trans (hle2.trans hmm)) ⟨rfl, Mem.le.refl _⟩ (hd := (fun w h => Pick.sat (by iterate 60 (try (first | exact Pick.all | (apply Pick.take; (· (repeat (first | exact Out.here | apply Out.there)))) | apply Pick.drop))) h))
end Go.Proofs.Ytdmdabjaboigcaa

/-
  A walk's engine, sixteenth part: how a law's arguments are read, ahead of the call and behind it. No condition.
-/
set_option linter.all false
namespace Go.Eng
open Go Go.RowKit Go.ChangeShapes Go.WideShapes Go.ChangeMaps
section
variable {H : Type} {enc : TypeId × Value → H} {P : Program}
theorem same_below {W W' : World} (hb : Below W.heap.size W W') {p : MemPlace} (hp : p.block < W.heap.size) : W.sameAt W' p := by
  cases p with
  | cell b off =>
    have h := hb.block b hp
    show W'.cell? ⟨b, off, none⟩ = W.cell? ⟨b, off, none⟩
    simp only [World.cell?, h]
  | map b => exact hb.block b hp
theorem trod_again {W W' : World} {sp : Nat → Bool} {t : TypeId} {v : Value} {d : DataW H} {p : List MemPlace} (hl : laidOutB P = true) (ht : t < P.types.size) (hr : P.readableRec t = true)
    (h : DataW.Trod enc P W 0 (fun _ => true) true t v d p) (hlt : ∀ q ∈ p, q.block < W.heap.size) (hb : Below W.heap.size W W') (hs : ∀ q ∈ p, sp q.block = true) : DataW.Trod enc P W' 0 sp true t v d p := by
  obtain ⟨n, hn⟩ := h
  have h1 := DataW.trod_carry (w' := W') n _ _ _ hn (fun q hq => same_below hb (hlt q hq))
  exact ⟨n, DataW.trod_respare (kids_book hl hr) (fun t e hT hu => book_sized hr hT hu) n _ _ _ ⟨ht, book_self t⟩ h1 hs⟩
theorem args_again {W W' : World} {sp : Nat → Bool} (hl : laidOutB P = true) (hb : Below W.heap.size W W') : ∀ {ts : List TypeId} {vs : List Value} {ds : List (DataW H)} {p : List MemPlace},
    (∀ t ∈ ts, t < P.types.size ∧ P.readableRec t = true) → DataW.TrodAll enc P W 0 (fun _ => true) true ts vs ds p → (∀ q ∈ p, sp q.block = true) → DataW.TrodAll enc P W' 0 sp true ts vs ds p
  | [], [], [], _, _, h, _ => h
  | t :: ts, v :: vs, d :: ds, p, hts, h, hs => by
    have hlt := DataW.TrodAll.lt h
    obtain ⟨a, b, h1, h2, e⟩ := h
    subst e
    obtain ⟨g1, g2⟩ := hts t List.mem_cons_self
    exact ⟨a, b, trod_again hl g1 g2 h1 (fun q hq => hlt q (List.mem_append_left _ hq)) hb (fun q hq => hs q (List.mem_append_left _ hq)),
      args_again hl hb (fun t ht => hts t (List.mem_cons_of_mem _ ht)) h2 (fun q hq => hs q (List.mem_append_right _ hq)), rfl⟩
/-- a law that says true, and leaves all that it was handed -/
theorem post_true {f : Func} {s : ChangeSpec} {apart fresh handsOn again : Bool} {W W' : World} {args : Array Value} {ds gs : List (DataW H)} {before : List MemPlace} {tb : TypeId}
    (hW : DataW.Whole enc P f.params.toList s.vars apart W args.toList ds gs before) (hvars : s.vars = []) (hfn : s.fn H (ds ++ gs) = { results := [.lit (.bool true)], args := ds })
    (hres : f.resultTypes = #[tb]) (htb : P.underlying tb = some .bool) (hl : laidOutB P = true) (hts : (f.params.toList.all fun t => decide (t < P.types.size) && P.readableRec t) = true) (hb : Below W.heap.size W W') :
    s.post enc P f apart fresh handsOn again W args (.bool true) W' := by
  have hW2 := hW
  obtain ⟨p, q, hA, hV, e, _, _⟩ := hW
  rw [hvars] at hV
  obtain ⟨rfl, rfl⟩ := trodVars_none hV
  rw [List.append_nil] at e
  subst e
  have hts' : ∀ t ∈ f.params.toList, t < P.types.size ∧ P.readableRec t = true := fun t ht => by simpa using List.all_eq_true.1 hts t ht
  refine post_below (pa := before) (pv := []) hW2 (fun _ _ _ => ?_) (fun sp hs => ?_) (fun _ _ => ?_) (by simp) hb ?_
  · rw [hfn, hres]; exact trodAll_cons_mk (shut_bool htb _) trodAll_mk0
  · rw [hfn]; exact args_again hl hb hts' hA hs
  · rw [hfn, hvars]; rfl
  · intro j t r h1 h2
    rw [hres] at h1 h2
    match j, h1 with
    | 0, h1 =>
      simp at h1; subst h1
      simp [Value.resultList] at h2
      subst h2
      exact okWide_bool_mk htb _
/-- a slice that came in, of elements of one cell -/
theorem RowR.came {w0 W : World} {Hp : SHeap} {sz : Nat} {a : Option Addr} {es : List (List Value)} (h1 : ∀ e ∈ es, e.length = sz)
    (h2 : match a with | .none => es = [] | .some b => ∀ j v, es.flatten[j]? = .some v → W.cell? (b.add j) = .some v) : RowR w0 (memOf W) Hp sz a es := by
  intro w hs
  refine ⟨h1, ?_⟩
  cases a with
  | none => exact h2
  | some b =>
    intro j v hj
    have hc := h2 j v hj
    generalize b.add j = c at hc ⊢
    obtain ⟨b, o, s⟩ := c
    cases hh : W.heap[b]? with
    | none => cases s <;> simp [World.cell?, hh] at hc
    | some ob =>
      have := hs.pers b ob hh
      cases s <;> simpa [World.cell?, this, hh] using hc
theorem at_map {α : Type} {f : α → Value} {l : List α} {j : Nat} {v : Value} (h : (l.map fun x => [f x]).flatten[j]? = .some v) : ∃ x, l[j]? = .some x ∧ v = f x := by
  rw [flatten_single, List.getElem?_map] at h
  obtain ⟨x, h1, h2⟩ := Option.map_eq_some_iff.1 h
  exact ⟨x, h1, h2.symm⟩
/-- slices of elements of one cell -/
theorem open_ones {α : Type} [Inhabited α] (val : α → Value) (lit : α → Lit) {W : World} {r : Go.Reach} {b0 : Nat} {t e : TypeId} {v : Value} {d : DataW H} {ps : List MemPlace} (ht : P.underlying t = some (.slice e)) (hc : P.cellsOf e = 1)
    (hone : ∀ (n : Nat) (u : Value) (y : DataW H × List MemPlace), DataW.trod enc P W 0 (fun _ => true) true n e [u] = some y → ∃ x, u = val x ∧ y.1 = .lit (lit x) ∧ (lit x).wf = true)
    (hval : Value.okWide P W r b0 t v) (h : DataW.Trod enc P W 0 (fun _ => true) true t v d ps) : ∃ (a : Option Addr) (cap : Nat) (ns : List α) (spare : List (DataW H)), v = .slice a ns.length cap ∧ ns.length ≤ cap ∧ (∀ x ∈ ns, (lit x).wf = true) ∧
      (d = .nil ∧ ns = [] ∨ d = .slice (ns.map fun x => .lit (lit x)) spare) ∧ (ns ≠ [] ∨ cap = 0 ∨ True) ∧ ∀ w0 Hp, RowR w0 (memOf W) Hp 1 a (ns.map fun x => [val x]) := by
  obtain ⟨a, len, cap, rfl⟩ := okWide_slice ht hval
  obtain ⟨n, hn⟩ := h
  rcases Deep.open_slice1 ht hc hn with ⟨h1, h2⟩ | ⟨a', len', cap', m, n', V, D, Pl, h1, _, hle, _, hm, h2, hx⟩
  · simp [Value.cells] at h1
    obtain ⟨rfl, rfl, rfl⟩ := h1
    exact ⟨none, 0, [], [], rfl, Nat.le_refl _, (by simp), .inl ⟨congrArg Prod.fst h2, rfl⟩, .inr (.inr trivial), fun _ _ => RowR.nil⟩
  · simp [Value.cells] at h1
    obtain ⟨rfl, rfl, rfl⟩ := h1
    simp only [if_true] at hm
    subst hm
    obtain ⟨X, hX⟩ := Deep.choose_lt (α := α) (n := m) (p := fun i x => V i = val x ∧ D i = .lit (lit x) ∧ (lit x).wf = true) (fun i hi => by
      obtain ⟨_, g⟩ := hx i hi
      exact hone _ _ _ g)
    refine ⟨some a', m, (List.range len).map X, (List.range (m - len)).map fun j => D (len + j), by simp, by simpa using hle, ?_, .inr ?_, .inr (.inr trivial), fun w0 Hp => ?_⟩
    · intro x hxm
      obtain ⟨i, hi, rfl⟩ := List.mem_map.1 hxm
      exact (hX i (by have := List.mem_range.1 hi; omega)).2.2
    · have := congrArg Prod.fst h2
      simp only at this
      rw [this, List.map_map]
      congr 1
      exact List.map_congr_left fun i hi => (hX i (by have := List.mem_range.1 hi; omega)).2.1
    · refine RowR.came (by simp) ?_
      intro j v hj
      obtain ⟨x, hx1, rfl⟩ := at_map hj
      rw [List.getElem?_map] at hx1
      obtain ⟨i, hi, rfl⟩ := Option.map_eq_some_iff.1 hx1
      obtain ⟨hjl, rfl⟩ := List.getElem?_eq_some_iff.1 hi
      rw [List.getElem_range]
      have hjl' : j < len := by simpa using hjl
      rw [← (hX j (by omega)).1]
      exact (hx j (by omega)).1
theorem open_nums {W : World} {r : Go.Reach} {b0 : Nat} {t e : TypeId} {k : IntKind} {v : Value} {d : DataW H} {ps : List MemPlace} (ht : P.underlying t = some (.slice e)) (he : P.underlying e = some (.int k)) (hc : P.cellsOf e = 1)
    (hval : Value.okWide P W r b0 t v) (h : DataW.Trod enc P W 0 (fun _ => true) true t v d ps) : ∃ (a : Option Addr) (cap : Nat) (ns : List Int) (spare : List (DataW H)), v = .slice a ns.length cap ∧ ns.length ≤ cap ∧ (∀ x ∈ ns, (Lit.int k x).wf = true) ∧
      (d = .nil ∧ ns = [] ∨ d = .slice (ns.map fun x => .lit (.int k x)) spare) ∧ ∀ w0 Hp, RowR w0 (memOf W) Hp 1 a (ns.map fun x => [Value.int k x]) := by
  obtain ⟨a, cap, ns, sp, h1, h2, h3, h4, _, h5⟩ := open_ones (Value.int k) (Lit.int k) ht hc (fun n u y hy => by
    obtain ⟨x, hx, hy', hw⟩ := DataW.trod_int he hy
    simp at hx
    exact ⟨x, hx, congrArg Prod.fst hy', hw⟩) hval h
  exact ⟨a, cap, ns, sp, h1, h2, h3, h4, h5⟩
theorem open_texts {W : World} {r : Go.Reach} {b0 : Nat} {t e : TypeId} {v : Value} {d : DataW H} {ps : List MemPlace} (ht : P.underlying t = some (.slice e)) (he : P.underlying e = some .string) (hc : P.cellsOf e = 1)
    (hval : Value.okWide P W r b0 t v) (h : DataW.Trod enc P W 0 (fun _ => true) true t v d ps) : ∃ (a : Option Addr) (cap : Nat) (ns : List (List UInt8)) (spare : List (DataW H)), v = .slice a ns.length cap ∧ ns.length ≤ cap ∧
      (d = .nil ∧ ns = [] ∨ d = .slice (ns.map fun x => .lit (.string x)) spare) ∧ ∀ w0 Hp, RowR w0 (memOf W) Hp 1 a (ns.map fun x => [str x]) := by
  obtain ⟨a, cap, ns, sp, h1, h2, h3, h4, _, h5⟩ := open_ones (α := List UInt8) str Lit.string ht hc (fun n u y hy => by
    obtain ⟨x, hx, hy', hw⟩ := DataW.trod_string he hy
    simp at hx
    refine ⟨x.data.toList, by rw [hx], congrArg Prod.fst hy', ?_⟩
    simpa [Lit.wf] using hw) hval h
  exact ⟨a, cap, ns, sp, h1, h2, h4, h5⟩
end
end Go.Eng

