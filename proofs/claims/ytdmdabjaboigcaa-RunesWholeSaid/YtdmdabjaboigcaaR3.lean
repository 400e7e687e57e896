/-
  The walks of package runes and of its reference, third part: the reference's numbers and forms. No condition.
-/
import Derived.Test.YtdmdabjaboigcaaEngJ
import Derived.Test.YtdmdabjaboigcaaR2
namespace Go.Proofs.Ytdmdabjaboigcaa
open Go Go.Eng
set_option maxRecDepth 100000
set_option maxHeartbeats 4000000
set_option linter.all false
attribute [local irreducible] WL WC WQ QFun QLoop Does Q1 QRound QAssign Go.Addr.add
theorem valid_split (r : Int) : Utf8.valid r = true ↔ (0 ≤ r ∧ r ≤ 1114111) ∧ ¬ (55296 ≤ r ∧ r ≤ 57343) := by
  rw [valid_iff]; unfold okr; omega
theorem none_any (r : Int) (w0 : World) (m : Mem) (H : SHeap) : Does Try.prog 72 #[.int .i32 r] w0 m H (Gives (.bool (dcd (Utf8.valid r = false))) m H) := by
  have hv := valid_split r
  have hf : (Utf8.valid r = false) ↔ ¬ ((0 ≤ r ∧ r ≤ 1114111) ∧ ¬ (55296 ≤ r ∧ r ≤ 57343)) := by rw [← hv]; simp
  refine Does.of_body (args := [.int .i32 r]) Try.func72 rfl Try.ntmps72 rfl ?_
  (repeat' (first | (refine st ?_; intros) | (first | refine c_ways (fun h1 => ?_) (fun h1 => ?_) | refine c_nways (fun h1 => ?_) (fun h1 => ?_) | refine w_gways (fun h1 => ?_) (fun h1 => ?_) | refine w_gnways (fun h1 => ?_) (fun h1 => ?_))))
  all_goals ((refine q_fin0 ?_); refine Gives.mk ?_; first | exact vb_t (hf.2 (by omega)) | exact vb_f (fun h => absurd (hf.1 h) (by omega)) | exact vb_iff (by rw [hf]; omega))
/-- the reference's Width -/
def rwd (r : Int) : Nat := if Utf8.valid r = false then 0 else wd r.toNat
theorem rwidth_any (r : Int) (w0 : World) (m : Mem) (H : SHeap) : Does Try.prog 35 #[.int .i32 r] w0 m H (Gives (.int .i64 (rwd r : Int)) m H) := by
  have hv := valid_split r
  refine Does.of_body (args := [.int .i32 r]) Try.func35 rfl Try.ntmps35 rfl ?_
  (try (refine st ?_; intros))
  refine w_callF Try.func72 ?_ (hs := none_any _ _ _ _)
  rintro _ _ _ ⟨rfl, rfl, rfl⟩
  (repeat' (first | (refine st ?_; intros) | (first | refine c_ways (fun h1 => ?_) (fun h1 => ?_) | refine c_nways (fun h1 => ?_) (fun h1 => ?_) | refine w_gways (fun h1 => ?_) (fun h1 => ?_) | refine w_gnways (fun h1 => ?_) (fun h1 => ?_))))
  all_goals ((refine q_fin0 ?_); refine Gives.mk ?_; unfold rwd wd)
  · rw [if_pos h1]; rfl
  all_goals (have := hv.1 (by simpa using ‹¬ Utf8.valid r = false›); rw [if_neg ‹¬ Utf8.valid r = false›]; refine vi ?_; repeat' split)
  all_goals omega
theorem rwd_okr {c : Nat} (h : okr c) : rwd (c : Int) = wd c := by
  unfold rwd; rw [if_neg (by rw [(valid_nat c).2 h]; simp), Int.toNat_natCast]
/-- the code point that stands for a number -/
theorem rn_cases (r : Int) : (Utf8.valid r = false ∧ rn r = 65533) ∨ (Utf8.valid r = true ∧ r = (rn r : Int)) := by
  unfold rn
  cases h : Utf8.valid r with
  | false => exact .inl ⟨rfl, rfl⟩
  | true => have := ((valid_iff r).1 h).1; exact .inr ⟨rfl, by simp; omega⟩
def byV (x : Nat) : List Value := [.int .u8 (x : Int)]
theorem bytes_fm {c : Nat} (hc : c ≤ 1114111) : ((fmb c).map fun b => [Value.int .u8 (b.toNat : Int)]) = (fm c).map byV := by
  unfold fmb
  rw [List.map_map]
  apply List.map_congr_left
  intro x hx
  have : x < 256 := by
    unfold fm at hx
    split at hx
    · simp at hx; omega
    · split at hx
      · simp at hx; omega
      · split at hx
        · simp at hx; omega
        · simp at hx; omega
  simp [byV]; omega
theorem fm_get {c i : Nat} (h1 : 1 ≤ i) (h2 : i < wd c) : (fm c).drop i = (128 + c / 64 ^ (wd c - 1 - i) % 64) :: (fm c).drop (i + 1) := by
  unfold wd at h2 ⊢
  unfold fm
  split at h2 <;> rename_i h3
  · omega
  · rw [if_neg h3]
    split at h2 <;> rename_i h4
    · rw [if_pos h4, if_neg h3, if_pos h4]
      have : i = 1 := by omega
      subst this; simp
    · rw [if_neg h4]
      split at h2 <;> rename_i h5
      · rw [if_pos h5, if_neg h3, if_neg h4, if_pos h5]
        obtain rfl | rfl : i = 1 ∨ i = 2 := by omega
        · simp
        · simp
      · rw [if_neg h5, if_neg h3, if_neg h4, if_neg h5]
        obtain rfl | rfl | rfl : i = 1 ∨ i = 2 ∨ i = 3 := by omega
        · simp
        · simp
        · simp
theorem fm_head (c : Nat) (h : 2 ≤ wd c) : fm c = (256 - 2 ^ (8 - wd c) + c / 64 ^ (wd c - 1)) :: (fm c).drop 1 := by
  unfold wd at h ⊢
  unfold fm
  split at h <;> rename_i h3
  · omega
  · rw [if_neg h3]
    split at h <;> rename_i h4
    · rw [if_pos h4, if_neg h3, if_pos h4]; simp
    · rw [if_neg h4]
      split at h <;> rename_i h5
      · rw [if_pos h5, if_neg h3, if_neg h4, if_pos h5]; simp
      · rw [if_neg h5, if_neg h3, if_neg h4, if_neg h5]; simp
def encA (c i : Nat) : List (List Value) := List.replicate (i + 1) (byV 0) ++ ((fm c).drop (i + 1)).map byV
theorem encA_set {c i : Nat} (h1 : 1 ≤ i) (h2 : i < wd c) : (encA c i).set i (byV (128 + c / 64 ^ (wd c - 1 - i) % 64)) = encA c (i - 1) := by
  unfold encA
  rw [show i - 1 + 1 = i by omega, fm_get h1 h2, List.replicate_succ', List.append_assoc, List.set_append_right _ _ (by simp)]
  simp
theorem enc_head {c : Nat} (hc : c ≤ 1114111) (h : 2 ≤ wd c) : ∃ p, 2 ^ (8 - wd c) = p ∧ c / 64 ^ (wd c - 1) < p ∧ p ≤ 64 := by
  refine ⟨_, rfl, ?_⟩
  unfold wd at h ⊢
  split at h <;> rename_i h3
  · omega
  · rw [if_neg h3]
    split at h <;> rename_i h4
    · rw [if_pos h4]; simp; omega
    · rw [if_neg h4]
      split at h <;> rename_i h5
      · rw [if_pos h5]; simp; omega
      · rw [if_neg h5]; simp; omega
theorem encA_length (c i : Nat) (h : i < wd c) : (encA c i).length = wd c := by
  have := fm_length c
  simp [encA]; omega
theorem rencode_any (r : Int) (w0 : World) (m : Mem) (H : SHeap) : Does Try.prog 37 #[.int .i32 r] w0 m H (Gives (str (fmb (rn r))) m H) := by
  have hok := rn_ok r
  refine Does.of_body (args := [.int .i32 r]) Try.func37 rfl Try.ntmps37 rfl ?_
  (try (refine st ?_; intros))
  refine w_callF Try.func72 ?_ (hs := none_any _ _ _ _)
  rintro _ m H ⟨rfl, rfl, rfl⟩
  (try (refine st ?_; intros))
  refine WC.join (fun r' ds' m' H' => r' = [(0, .int .i32 (rn r : Int)), (2, str [])] ∧ ds' = [] ∧ m' = m ∧ H' = H) ?_ ?_
  · rcases rn_cases r with ⟨hf, hr⟩ | ⟨hf, hr⟩
    · refine WC.rename 7 (u := .bool true) rfl (by rw [dcd_true hf]) ?_
      (try (refine st ?_; intros))
      exact WQ.join ⟨rfl, rfl, rfl, rfl⟩ (Env.Sub.cons (by rw [hr]; rfl) (Env.Sub.cons rfl .nil)) (fun w h => h)
    · refine WC.rename 7 (u := .bool false) rfl (by rw [dcd_false (by rw [hf]; simp)]) ?_
      (try (refine st ?_; intros))
      exact WQ.join ⟨rfl, rfl, rfl, rfl⟩ (Env.Sub.cons (by rw [← hr]; rfl) (Env.Sub.cons rfl .nil)) (fun w h => h)
  rintro _ _ _ _ ⟨rfl, rfl, rfl, rfl⟩
  generalize rn r = c at hok ⊢
  have hc := okr_le hok
  have hw := wd_pos c
  (try (refine st ?_; intros))
  refine w_callF Try.func35 ?_ (hs := rwidth_any _ _ _ _)
  rw [rwd_okr hok]
  rintro _ m H ⟨rfl, rfl, rfl⟩
  (try (refine st ?_; intros))
  (first | refine c_ways (fun h1 => ?_) (fun h1 => ?_) | refine c_nways (fun h1 => ?_) (fun h1 => ?_) | refine w_gways (fun h1 => ?_) (fun h1 => ?_) | refine w_gnways (fun h1 => ?_) (fun h1 => ?_))
  · have h2 : c < 128 := by unfold wd at h1; split at h1 <;> (try split at h1) <;> (try split at h1) <;> omega
    (try (refine st ?_; intros))
    apply WL.blkStr (s := fmb c)
    · exact rfl
    · (repeat (first | exact List.Mem.head _ | apply List.Mem.tail))
    · rw [show fmb c = [UInt8.ofNat c] by unfold fmb fm; rw [if_pos h2]; rfl]
      simp; omega
    · rw [fmb_length]; omega
    · exact rfl
    · exact rfl
    · exact rfl
    · exact rfl
    · exact rfl
    (try (refine st ?_; intros))
    (refine q_fin0 ?_)
    exact Gives.mk rfl
  · have h2 : 128 ≤ c := by
      rcases Nat.lt_or_ge c 128 with h | h
      · exfalso; apply h1; unfold wd; rw [if_pos h]; rfl
      · exact h
    (refine st ?_; intros; rename_i bk)
    refine WC.loopW [(0, .int .i32 (c : Int)), (2, str []), (3, .int .i64 (wd c : Int)), (4, .slice (some ⟨bk, 0, none⟩) (wd c) (wd c)), (5, .int .i64 ((wd c : Int) - 1))] ?_
      (fun j r ds m' H' => r = [(0, .int .i32 (c / 64 ^ (wd c - 1 - j) : Nat)), (2, str []), (3, .int .i64 (wd c : Int)), (4, .slice (some ⟨bk, 0, none⟩) (wd c) (wd c)), (5, .int .i64 (j : Int))] ∧ ds = [] ∧ m' = m ∧ H' = .row (some ⟨bk, 0, none⟩) (wd c) 5 1 (encA c j) :: H ∧ j < wd c) (wd c - 1) ⟨?_, rfl, rfl, ?_, ?_⟩ ?_
    · (repeat (first | exact Env.Sub.nil | refine Env.Sub.cons rfl ?_))
    · simp; omega
    · rw [encA, show wd c - 1 + 1 = wd c by omega, List.drop_eq_nil_of_le (by rw [fm_length]; omega), List.map_nil, List.append_nil]; rfl
    · omega
    rintro j r ds m1 H1 ⟨rfl, rfl, rfl, rfl, hj⟩
    have hel := encA_length c j hj
    have hcc : c / 64 ^ (wd c - 1 - j) ≤ c := Nat.div_le_self _ _
    generalize hq : c / 64 ^ (wd c - 1 - j) = q at hcc ⊢
    by_cases hj1 : 1 ≤ j
    · have he : (encA c j).set j [Value.int .u8 (128 + (q : Int) % 64)] = encA c (j - 1) := by
        have := encA_set hj1 hj
        rw [hq] at this
        rw [← this]; simp [byV]
      have hn : c / 64 ^ (wd c - 1 - (j - 1)) = q / 64 := by rw [← hq, Nat.div_div_eq_div_mul, ← Nat.pow_succ, show wd c - 1 - (j - 1) = wd c - 1 - j + 1 by omega]
      (try (refine st ?_; intros))
      rw [he]
      refine WQ.next (j - 1) ⟨rfl, rfl, rfl, rfl, by omega⟩ (by omega) ?_ (fun w h => h)
      rw [hn, show ((j - 1 : Nat) : Int) = (j : Int) - 1 by omega]
      (repeat (first | exact Env.Sub.nil | refine Env.Sub.cons rfl ?_))
    · obtain rfl : j = 0 := by omega
      obtain ⟨p, hp, hqp, hp6⟩ := enc_head hc (by omega)
      rw [Nat.sub_zero] at hq
      rw [hq] at hqp
      have hfin : (encA c 0).set 0 [Value.int .u8 (256 - (p : Int) + q)] = (fmb c).map fun b => [Value.int .u8 (b.toNat : Int)] := by
        rw [bytes_fm hc, fm_head c (by omega), hq, hp]
        simp [encA, byV]
        omega
      (try (refine st ?_; intros))
      apply WL.shl (e := 8 - wd c)
      · exact rfl
      · exact rfl
      · omega
      · simp [IntKind.bits]; omega
      · exact rfl
      refine WL.rename 36 (u := .int .i64 (p : Int)) rfl (vi ?_) ?_
      · rw [IntKind.wrap_i64, show (1 * 2 ^ (8 - wd c) : Int) = (p : Int) by rw [← hp]; simp]; omega
      (try (refine st ?_; intros))
      rw [hfin]
      apply WL.rowStr (s := fmb c)
      · exact rfl
      · rw [fmb_length]
      · (repeat (first | exact List.Mem.head _ | apply List.Mem.tail))
      · exact rfl
      · exact rfl
      · exact rfl
      · exact rfl
      · exact rfl
      (try (refine st ?_; intros))
      (refine q_fin0 ?_)
      exact Gives.mk rfl
end Go.Proofs.Ytdmdabjaboigcaa
