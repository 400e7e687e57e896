/-
  The walks of package runes and of its reference, fifth part: the pieces of a text, the last of them, their number. No condition.
-/
import Derived.Test.YtdmdabjaboigcaaR4
import Derived.Test.YtdmdabjaboigcaaRT2
namespace Go.Proofs.Ytdmdabjaboigcaa
open Go Go.Eng
set_option maxRecDepth 100000
set_option maxHeartbeats 4000000
set_option linter.all false
attribute [local irreducible] WL WC WQ QFun QLoop Does Q1 QRound QAssign Go.Addr.add
theorem sq_R5_1 {G : Prop} (h : G := by (repeat (first | (refine sp ?_; (repeat intro zzc)) | (refine iF 67 rfl ?_; refine w_callG Try.func67 ?_ (hs := read_z _ (by (first | with_reducible exact natz _ | with_reducible exact natz0 | with_reducible exact natz1 | with_reducible exact natz2 | with_reducible exact natz3 | with_reducible exact natz4 | with_reducible exact natz8 | (apply natz_add; (· first | with_reducible exact natz _ | with_reducible exact natz0 | with_reducible exact natz1 | with_reducible exact natz2 | with_reducible exact natz3 | with_reducible exact natz4 | with_reducible exact natz8); (· first | with_reducible exact natz _ | with_reducible exact natz0 | with_reducible exact natz1 | with_reducible exact natz2 | with_reducible exact natz3 | with_reducible exact natz4 | with_reducible exact natz8)) | (apply natz_sub; (· first | with_reducible exact natz _ | with_reducible exact natz0 | with_reducible exact natz1 | with_reducible exact natz2 | with_reducible exact natz3 | with_reducible exact natz4 | with_reducible exact natz8); (· first | with_reducible exact natz _ | with_reducible exact natz0 | with_reducible exact natz1 | with_reducible exact natz2 | with_reducible exact natz3 | with_reducible exact natz4 | with_reducible exact natz8); (· omega)) | exact (Int.toNat_of_nonneg (by omega)).symm)) (by omega) (by omega) _ _ _)) | (refine iF 68 rfl ?_; refine w_callG Try.func68 ?_ (hs := form_any _ _ (by omega) (by omega) _ _ _)))); exact WQ.q1 rfl) : G := h
theorem st_R5_1 {G G' : Prop} (next : G') (h : Bx G' → G := by intro zzn; (first | ((refine st ?_; (repeat intro zzc)); (try ((first | (refine iF 67 rfl ?_; refine w_callG Try.func67 ?_ (hs := read_z _ (by (first | with_reducible exact natz _ | with_reducible exact natz0 | with_reducible exact natz1 | with_reducible exact natz2 | with_reducible exact natz3 | with_reducible exact natz4 | with_reducible exact natz8 | (apply natz_add; (· first | with_reducible exact natz _ | with_reducible exact natz0 | with_reducible exact natz1 | with_reducible exact natz2 | with_reducible exact natz3 | with_reducible exact natz4 | with_reducible exact natz8); (· first | with_reducible exact natz _ | with_reducible exact natz0 | with_reducible exact natz1 | with_reducible exact natz2 | with_reducible exact natz3 | with_reducible exact natz4 | with_reducible exact natz8)) | (apply natz_sub; (· first | with_reducible exact natz _ | with_reducible exact natz0 | with_reducible exact natz1 | with_reducible exact natz2 | with_reducible exact natz3 | with_reducible exact natz4 | with_reducible exact natz8); (· first | with_reducible exact natz _ | with_reducible exact natz0 | with_reducible exact natz1 | with_reducible exact natz2 | with_reducible exact natz3 | with_reducible exact natz4 | with_reducible exact natz8); (· omega)) | exact (Int.toNat_of_nonneg (by omega)).symm)) (by omega) (by omega) _ _ _)) | (refine iF 68 rfl ?_; refine w_callG Try.func68 ?_ (hs := form_any _ _ (by omega) (by omega) _ _ _)) | (refine WC.drawAll rfl (by kernel_rfl) ?_; (repeat (refine WD.cons rfl (fun c h => by cases h) sq_R5_1 ?_)); refine WD.nil ?_)); (try (refine st ?_; (repeat intro zzc)))))) | ((first | (refine iF 67 rfl ?_; refine w_callG Try.func67 ?_ (hs := read_z _ (by (first | with_reducible exact natz _ | with_reducible exact natz0 | with_reducible exact natz1 | with_reducible exact natz2 | with_reducible exact natz3 | with_reducible exact natz4 | with_reducible exact natz8 | (apply natz_add; (· first | with_reducible exact natz _ | with_reducible exact natz0 | with_reducible exact natz1 | with_reducible exact natz2 | with_reducible exact natz3 | with_reducible exact natz4 | with_reducible exact natz8); (· first | with_reducible exact natz _ | with_reducible exact natz0 | with_reducible exact natz1 | with_reducible exact natz2 | with_reducible exact natz3 | with_reducible exact natz4 | with_reducible exact natz8)) | (apply natz_sub; (· first | with_reducible exact natz _ | with_reducible exact natz0 | with_reducible exact natz1 | with_reducible exact natz2 | with_reducible exact natz3 | with_reducible exact natz4 | with_reducible exact natz8); (· first | with_reducible exact natz _ | with_reducible exact natz0 | with_reducible exact natz1 | with_reducible exact natz2 | with_reducible exact natz3 | with_reducible exact natz4 | with_reducible exact natz8); (· omega)) | exact (Int.toNat_of_nonneg (by omega)).symm)) (by omega) (by omega) _ _ _)) | (refine iF 68 rfl ?_; refine w_callG Try.func68 ?_ (hs := form_any _ _ (by omega) (by omega) _ _ _)) | (refine WC.drawAll rfl (by kernel_rfl) ?_; (repeat (refine WD.cons rfl (fun c h => by cases h) sq_R5_1 ?_)); refine WD.nil ?_)); (try (refine st ?_; (repeat intro zzc))))); (repeat ((first | (refine iF 67 rfl ?_; refine w_callG Try.func67 ?_ (hs := read_z _ (by (first | with_reducible exact natz _ | with_reducible exact natz0 | with_reducible exact natz1 | with_reducible exact natz2 | with_reducible exact natz3 | with_reducible exact natz4 | with_reducible exact natz8 | (apply natz_add; (· first | with_reducible exact natz _ | with_reducible exact natz0 | with_reducible exact natz1 | with_reducible exact natz2 | with_reducible exact natz3 | with_reducible exact natz4 | with_reducible exact natz8); (· first | with_reducible exact natz _ | with_reducible exact natz0 | with_reducible exact natz1 | with_reducible exact natz2 | with_reducible exact natz3 | with_reducible exact natz4 | with_reducible exact natz8)) | (apply natz_sub; (· first | with_reducible exact natz _ | with_reducible exact natz0 | with_reducible exact natz1 | with_reducible exact natz2 | with_reducible exact natz3 | with_reducible exact natz4 | with_reducible exact natz8); (· first | with_reducible exact natz _ | with_reducible exact natz0 | with_reducible exact natz1 | with_reducible exact natz2 | with_reducible exact natz3 | with_reducible exact natz4 | with_reducible exact natz8); (· omega)) | exact (Int.toNat_of_nonneg (by omega)).symm)) (by omega) (by omega) _ _ _)) | (refine iF 68 rfl ?_; refine w_callG Try.func68 ?_ (hs := form_any _ _ (by omega) (by omega) _ _ _)) | (refine WC.drawAll rfl (by kernel_rfl) ?_; (repeat (refine WD.cons rfl (fun c h => by cases h) sq_R5_1 ?_)); refine WD.nil ?_)); (try (refine st ?_; (repeat intro zzc))))); (repeat revert zzc); exact zzn.out) : G := h ⟨next⟩
theorem read_z (l : List UInt8) {z : Int} {k : Nat} (hz : z = (k : Int)) (hl : l.length ≤ 9223372036854775804) (hk : k < l.length) (w0 : World) (m : Mem) (H : SHeap) :
    Does Try.prog 67 #[str l, .int .i64 z] w0 m H (Gives (readP l k).v m H) := by subst hz; exact read_any l k hl hk w0 m H
theorem refAt_any (l : List UInt8) (k : Nat) (hl : l.length ≤ 9223372036854775804) (hk : k < l.length) (w0 : World) (m : Mem) (H : SHeap) :
    Does Try.prog 17 #[str l, .int .i64 (k : Int)] w0 m H (Gives (readP l k).v m H) := by
  refine Does.of_body (args := [str l, .int .i64 (k : Int)]) Try.func17 rfl Try.ntmps17 rfl ?_
  have hc := dl_cases (l.drop k) (by simp; omega)
  by_cases hA : dl (l.drop k) = (65533, 1)
  · have h1 : formN (l.drop k) = (0, 0) := by rw [formN, if_pos hA]
    have h2 : readP l k = ⟨k, 1, 65533, true⟩ := by unfold readP; rw [if_pos hA]
    rw [h2]
    (try (refine st_R5_1 ?_; intros))
    rw [h1]
    (try (refine st_R5_1 ?_; intros))
    (refine q_fin0 ?_)
    exact Gives.mk rfl
  · have h1 : formN (l.drop k) = dl (l.drop k) := by rw [formN, if_neg hA]
    have h2 : readP l k = ⟨k, (dl (l.drop k)).2, (dl (l.drop k)).1, false⟩ := by unfold readP; rw [if_neg hA]
    have hw := readP_w hk
    rw [readP_w_eq] at hw
    rw [h2]
    (try (refine st_R5_1 ?_; intros))
    rw [h1]
    (try (refine st_R5_1 ?_; intros))
    (refine q_fin0 ?_)
    exact Gives.mk rfl
theorem last_any (l : List UInt8) (hl : l.length ≤ 9223372036854775804) (h0 : 0 < l.length) (w0 : World) (m : Mem) (H : SHeap) :
    Does Try.prog 69 #[str l] w0 m H (Gives (lastP l).v m H) := by
  refine Does.of_body (args := [str l]) Try.func69 rfl Try.ntmps69 rfl ?_
  (refine st_R5_1 ?_; intros; rename_i bk)
  refine WC.loopW [(4, .int .i64 2), (3, .int .i64 (l.length : Int)), (0, str l), (2, .pointer (some ⟨bk, 0, none⟩))] ?_ (fun j r ds m' H' => ∃ w : Nat, j = 5 - w ∧ 2 ≤ w ∧ w ≤ 5 ∧ r = [(4, .int .i64 (w : Int)), (3, .int .i64 (l.length : Int)), (0, str l), (2, .pointer (some ⟨bk, 0, none⟩))] ∧ ds = [] ∧ m' = m ∧ H' = .blk bk (.cells [.int .i64 0, .int .i64 0, .int .i32 0, .bool false].toArray 24 (0, 0)) :: H ∧
      ∀ v, 2 ≤ v → v < w → v ≤ l.length → ¬ ((readP l (l.length - v)).b = false ∧ (readP l (l.length - v)).w = v)) 3 ⟨2, rfl, by omega, by omega, rfl, rfl, rfl, rfl, fun v h1 h2 => by omega⟩ ?_
  · (repeat (first | exact Env.Sub.nil | refine Env.Sub.cons rfl ?_))
  rintro j r ds m' H' ⟨w, rfl, h1, h2, rfl, rfl, rfl, rfl, hno⟩
  (try (refine st_R5_1 ?_; intros))
  (first | refine c_ways (fun h3 => ?_) (fun h3 => ?_) | refine c_nways (fun h3 => ?_) (fun h3 => ?_) | refine w_gways (fun h3 => ?_) (fun h3 => ?_) | refine w_gnways (fun h3 => ?_) (fun h3 => ?_))
  · (try (refine st_R5_1 ?_; intros))
    (first | refine c_ways (fun h4 => ?_) (fun h4 => ?_) | refine c_nways (fun h4 => ?_) (fun h4 => ?_) | refine w_gways (fun h4 => ?_) (fun h4 => ?_) | refine w_gnways (fun h4 => ?_) (fun h4 => ?_))
    · cases hb : (readP l (l.length - w)).b with
      | true =>
        (try (refine st_R5_1 ?_; intros))
        refine WL.rename 25 (u := .bool false) rfl (by rw [hb]; rfl) ?_
        (try (refine st_R5_1 ?_; intros))
        exact WQ.next (5 - (w + 1)) ⟨w + 1, rfl, by omega, by omega, rfl, rfl, rfl, rfl, fun v g1 g2 g3 => by
          rcases Nat.lt_or_ge v w with g | g
          · exact hno v g1 g g3
          · obtain rfl : v = w := by omega
            exact fun h => by rw [hb] at h; exact absurd h.1 (by simp)⟩ (by omega) (by (repeat (first | exact Env.Sub.nil | refine Env.Sub.cons rfl ?_))) (fun w h => h.drop)
      | false =>
        (try (refine st_R5_1 ?_; intros))
        refine WL.rename 25 (u := .bool true) rfl (by rw [hb]; rfl) ?_
        (try (refine st_R5_1 ?_; intros))
        (first | refine c_ways (fun h5 => ?_) (fun h5 => ?_) | refine c_nways (fun h5 => ?_) (fun h5 => ?_) | refine w_gways (fun h5 => ?_) (fun h5 => ?_) | refine w_gnways (fun h5 => ?_) (fun h5 => ?_))
        · (try (refine st_R5_1 ?_; intros))
          (refine q_fin0 ?_)
          rw [lastP_whole (w := w) (by omega) (by omega) hb (by omega)]
          exact Gives.mk rfl
        · (try (refine st_R5_1 ?_; intros))
          exact WQ.next (5 - (w + 1)) ⟨w + 1, rfl, by omega, by omega, rfl, rfl, rfl, rfl, fun v g1 g2 g3 => by
          rcases Nat.lt_or_ge v w with g | g
          · exact hno v g1 g g3
          · obtain rfl : v = w := by omega
            exact fun h => h5 (by rw [h.2])⟩ (by omega) (by (repeat (first | exact Env.Sub.nil | refine Env.Sub.cons rfl ?_))) (fun w h => h.drop)
    · (try (refine st_R5_1 ?_; intros))
      (refine q_fin0 ?_)
      rw [← lastP_one h0 (fun v g1 g2 g3 => hno v g1 (by omega) g3)]
      exact Gives.mk rfl
  · (try (refine st_R5_1 ?_; intros))
    (refine q_fin0 ?_)
    rw [← lastP_one h0 (fun v g1 g2 g3 => hno v g1 (by omega) g3)]
    exact Gives.mk rfl
theorem last_z {v : Value} {l : List UInt8} (hv : v = str l) (hl : l.length ≤ 9223372036854775804) (h0 : 0 < l.length) (w0 : World) (m : Mem) (H : SHeap) :
    Does Try.prog 69 #[v] w0 m H (Gives (lastP l).v m H) := by subst hv; exact last_any l hl h0 w0 m H
theorem sq_R5_2 {G : Prop} (h : G := by (repeat (first | (refine sp ?_; (repeat intro zzc)) | (refine iF 67 rfl ?_; refine w_callG Try.func67 ?_ (hs := read_z _ (by (first | with_reducible exact natz _ | with_reducible exact natz0 | with_reducible exact natz1 | with_reducible exact natz2 | with_reducible exact natz3 | with_reducible exact natz4 | with_reducible exact natz8 | (apply natz_add; (· first | with_reducible exact natz _ | with_reducible exact natz0 | with_reducible exact natz1 | with_reducible exact natz2 | with_reducible exact natz3 | with_reducible exact natz4 | with_reducible exact natz8); (· first | with_reducible exact natz _ | with_reducible exact natz0 | with_reducible exact natz1 | with_reducible exact natz2 | with_reducible exact natz3 | with_reducible exact natz4 | with_reducible exact natz8)) | (apply natz_sub; (· first | with_reducible exact natz _ | with_reducible exact natz0 | with_reducible exact natz1 | with_reducible exact natz2 | with_reducible exact natz3 | with_reducible exact natz4 | with_reducible exact natz8); (· first | with_reducible exact natz _ | with_reducible exact natz0 | with_reducible exact natz1 | with_reducible exact natz2 | with_reducible exact natz3 | with_reducible exact natz4 | with_reducible exact natz8); (· omega)) | exact (Int.toNat_of_nonneg (by omega)).symm)) (by omega) (by omega) _ _ _)) | (refine iF 68 rfl ?_; refine w_callG Try.func68 ?_ (hs := form_any _ _ (by omega) (by omega) _ _ _)) | (refine iF 69 rfl ?_; refine w_callG Try.func69 ?_ (hs := last_any _ (by simp; omega) (by simp; omega) _ _ _)))); exact WQ.q1 rfl) : G := h
theorem st_R5_2 {G G' : Prop} (next : G') (h : Bx G' → G := by intro zzn; (first | ((refine st ?_; (repeat intro zzc)); (try ((first | (refine iF 67 rfl ?_; refine w_callG Try.func67 ?_ (hs := read_z _ (by (first | with_reducible exact natz _ | with_reducible exact natz0 | with_reducible exact natz1 | with_reducible exact natz2 | with_reducible exact natz3 | with_reducible exact natz4 | with_reducible exact natz8 | (apply natz_add; (· first | with_reducible exact natz _ | with_reducible exact natz0 | with_reducible exact natz1 | with_reducible exact natz2 | with_reducible exact natz3 | with_reducible exact natz4 | with_reducible exact natz8); (· first | with_reducible exact natz _ | with_reducible exact natz0 | with_reducible exact natz1 | with_reducible exact natz2 | with_reducible exact natz3 | with_reducible exact natz4 | with_reducible exact natz8)) | (apply natz_sub; (· first | with_reducible exact natz _ | with_reducible exact natz0 | with_reducible exact natz1 | with_reducible exact natz2 | with_reducible exact natz3 | with_reducible exact natz4 | with_reducible exact natz8); (· first | with_reducible exact natz _ | with_reducible exact natz0 | with_reducible exact natz1 | with_reducible exact natz2 | with_reducible exact natz3 | with_reducible exact natz4 | with_reducible exact natz8); (· omega)) | exact (Int.toNat_of_nonneg (by omega)).symm)) (by omega) (by omega) _ _ _)) | (refine iF 68 rfl ?_; refine w_callG Try.func68 ?_ (hs := form_any _ _ (by omega) (by omega) _ _ _)) | (refine iF 69 rfl ?_; refine w_callG Try.func69 ?_ (hs := last_any _ (by simp; omega) (by simp; omega) _ _ _)) | (refine WC.drawAll rfl (by kernel_rfl) ?_; (repeat (refine WD.cons rfl (fun c h => by cases h) sq_R5_2 ?_)); refine WD.nil ?_)); (try (refine st ?_; (repeat intro zzc)))))) | ((first | (refine iF 67 rfl ?_; refine w_callG Try.func67 ?_ (hs := read_z _ (by (first | with_reducible exact natz _ | with_reducible exact natz0 | with_reducible exact natz1 | with_reducible exact natz2 | with_reducible exact natz3 | with_reducible exact natz4 | with_reducible exact natz8 | (apply natz_add; (· first | with_reducible exact natz _ | with_reducible exact natz0 | with_reducible exact natz1 | with_reducible exact natz2 | with_reducible exact natz3 | with_reducible exact natz4 | with_reducible exact natz8); (· first | with_reducible exact natz _ | with_reducible exact natz0 | with_reducible exact natz1 | with_reducible exact natz2 | with_reducible exact natz3 | with_reducible exact natz4 | with_reducible exact natz8)) | (apply natz_sub; (· first | with_reducible exact natz _ | with_reducible exact natz0 | with_reducible exact natz1 | with_reducible exact natz2 | with_reducible exact natz3 | with_reducible exact natz4 | with_reducible exact natz8); (· first | with_reducible exact natz _ | with_reducible exact natz0 | with_reducible exact natz1 | with_reducible exact natz2 | with_reducible exact natz3 | with_reducible exact natz4 | with_reducible exact natz8); (· omega)) | exact (Int.toNat_of_nonneg (by omega)).symm)) (by omega) (by omega) _ _ _)) | (refine iF 68 rfl ?_; refine w_callG Try.func68 ?_ (hs := form_any _ _ (by omega) (by omega) _ _ _)) | (refine iF 69 rfl ?_; refine w_callG Try.func69 ?_ (hs := last_any _ (by simp; omega) (by simp; omega) _ _ _)) | (refine WC.drawAll rfl (by kernel_rfl) ?_; (repeat (refine WD.cons rfl (fun c h => by cases h) sq_R5_2 ?_)); refine WD.nil ?_)); (try (refine st ?_; (repeat intro zzc))))); (repeat ((first | (refine iF 67 rfl ?_; refine w_callG Try.func67 ?_ (hs := read_z _ (by (first | with_reducible exact natz _ | with_reducible exact natz0 | with_reducible exact natz1 | with_reducible exact natz2 | with_reducible exact natz3 | with_reducible exact natz4 | with_reducible exact natz8 | (apply natz_add; (· first | with_reducible exact natz _ | with_reducible exact natz0 | with_reducible exact natz1 | with_reducible exact natz2 | with_reducible exact natz3 | with_reducible exact natz4 | with_reducible exact natz8); (· first | with_reducible exact natz _ | with_reducible exact natz0 | with_reducible exact natz1 | with_reducible exact natz2 | with_reducible exact natz3 | with_reducible exact natz4 | with_reducible exact natz8)) | (apply natz_sub; (· first | with_reducible exact natz _ | with_reducible exact natz0 | with_reducible exact natz1 | with_reducible exact natz2 | with_reducible exact natz3 | with_reducible exact natz4 | with_reducible exact natz8); (· first | with_reducible exact natz _ | with_reducible exact natz0 | with_reducible exact natz1 | with_reducible exact natz2 | with_reducible exact natz3 | with_reducible exact natz4 | with_reducible exact natz8); (· omega)) | exact (Int.toNat_of_nonneg (by omega)).symm)) (by omega) (by omega) _ _ _)) | (refine iF 68 rfl ?_; refine w_callG Try.func68 ?_ (hs := form_any _ _ (by omega) (by omega) _ _ _)) | (refine iF 69 rfl ?_; refine w_callG Try.func69 ?_ (hs := last_any _ (by simp; omega) (by simp; omega) _ _ _)) | (refine WC.drawAll rfl (by kernel_rfl) ?_; (repeat (refine WD.cons rfl (fun c h => by cases h) sq_R5_2 ?_)); refine WD.nil ?_)); (try (refine st ?_; (repeat intro zzc))))); (repeat revert zzc); exact zzn.out) : G := h ⟨next⟩
theorem before_in (l : List UInt8) (k : Nat) (hl : l.length ≤ 9223372036854775804) (h1 : 1 ≤ k) (hk : k ≤ l.length) (w0 : World) (m : Mem) (H : SHeap) :
    Does Try.prog 18 #[str l, .int .i64 (k : Int)] w0 m H (Gives (.tuple #[(lastP (l.take k)).v, .int .i64 0]) m H) := by
  refine Does.of_body (args := [str l, .int .i64 (k : Int)]) Try.func18 rfl Try.ntmps18 rfl ?_
  (try (refine st_R5_2 ?_; intros))
  (refine q_fin0 ?_)
  exact Gives.mk rfl
theorem before_out (l : List UInt8) (k : Int) (hk : k < 1 ∨ (l.length : Int) < k) (w0 : World) (m : Mem) (H : SHeap) :
    Does Try.prog 18 #[str l, .int .i64 k] w0 m H (Gives (.tuple #[zeroP, .int .i64 5]) m H) := by
  refine Does.of_body (args := [str l, .int .i64 k]) Try.func18 rfl Try.ntmps18 rfl ?_
  (repeat' (first | (refine st_R5_2 ?_; intros) | (first | refine c_ways (fun h1 => ?_) (fun h1 => ?_) | refine c_nways (fun h1 => ?_) (fun h1 => ?_) | refine w_gways (fun h1 => ?_) (fun h1 => ?_) | refine w_gnways (fun h1 => ?_) (fun h1 => ?_))))
  all_goals ((refine q_fin0 ?_); exact Gives.mk rfl)
end Go.Proofs.Ytdmdabjaboigcaa
