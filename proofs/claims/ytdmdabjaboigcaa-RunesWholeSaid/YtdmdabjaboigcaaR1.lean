/-
  The walks of package runes and of its reference, first part: a rune's width, the piece that is read at a place. No condition.
-/
import Derived.Test.YtdmdabjaboigcaaEngM
import Derived.Test.YtdmdabjaboigcaaRT
import Derived.Test.YtdmdabjaboigcaaProg
namespace Go.Proofs.Ytdmdabjaboigcaa
open Go Go.Eng
set_option maxRecDepth 100000
set_option maxHeartbeats 4000000
set_option linter.all false
attribute [local irreducible] WL WC WQ QFun QLoop Does Q1 QRound QAssign Go.Addr.add
/-- runes.Width, of whatever number -/
def widthS (r : Int) : Int := if r ≠ 65533 ∧ fmb (rn r) = [239, 191, 189] then 0 else (wd (rn r) : Int)
theorem width_any (r : Int) (w0 : World) (m : Mem) (H : SHeap) : Does Try.prog 34 #[.int .i32 r] w0 m H (Gives (.int .i64 (widthS r)) m H) := by
  refine Does.of_body (args := [.int .i32 r]) Try.func34 rfl Try.ntmps34 rfl ?_
  (try (refine st ?_; intros))
  (first | refine c_ways (fun h1 => ?_) (fun h1 => ?_) | refine c_nways (fun h1 => ?_) (fun h1 => ?_) | refine w_gways (fun h1 => ?_) (fun h1 => ?_) | refine w_gnways (fun h1 => ?_) (fun h1 => ?_))
  · (try (refine st ?_; intros))
    (first | refine c_ways (fun h2 => ?_) (fun h2 => ?_) | refine c_nways (fun h2 => ?_) (fun h2 => ?_) | refine w_gways (fun h2 => ?_) (fun h2 => ?_) | refine w_gnways (fun h2 => ?_) (fun h2 => ?_))
    · (try (refine st ?_; intros))
      rw [encode_eq] at h2
      exact WQ.fin _ (res_tmp rfl rfl) (.mk (by rw [widthS, if_pos ⟨h1, h2⟩]))
    · (try (refine st ?_; intros))
      rw [encode_eq] at h2 ⊢
      exact WQ.fin _ (res_tmp rfl rfl) (.mk (by rw [widthS, if_neg (fun h => h2 h.2), fmb_length]))
  · (try (refine st ?_; intros))
    rw [encode_eq]
    exact WQ.fin _ (res_tmp rfl rfl) (.mk (by rw [widthS, if_neg (fun h => h.1 h1), fmb_length]))

theorem widthS_ok {c : Nat} (h : okr c) : widthS (c : Int) = (wd c : Int) := by
  unfold widthS
  rw [rn_nat h, if_neg]
  rintro ⟨h1, h2⟩
  apply h1
  have h3 : wd c = 3 := by rw [← fmb_length c, h2]; rfl
  have hc : ¬ c < 128 ∧ ¬ c < 2048 ∧ c < 65536 := by
    unfold wd at h3
    split at h3
    · cases h3
    · split at h3
      · cases h3
      · split at h3
        · omega
        · cases h3
  have h4 := nb_fmb c 0 (by omega) (by omega)
  have h5 := nb_fmb c 1 (by omega) (by omega)
  have h6 := nb_fmb c 2 (by omega) (by omega)
  rw [h2] at h4 h5 h6
  unfold fm at h4 h5 h6
  rw [if_neg hc.1, if_neg hc.2.1, if_pos hc.2.2] at h4 h5 h6
  simp [nb, gb] at h4 h5 h6
  omega
theorem fmb_lost : fmb 65533 = [239, 191, 189] := by decide
/-- what the text bears there is the form of U+FFFD just if it is decoded as one of three bytes -/
theorem lost_iff (l : List UInt8) (hl : 0 < l.length) (h : (dl l).1 = 65533) : (¬ l.length < 3 ∧ l.take 3 = [239, 191, 189]) ↔ ¬ dl l = (65533, 1) := by
  have hw : wd 65533 = 3 := by decide
  constructor
  · rintro ⟨h1, h2⟩ h3
    have := dl_of_begins (l := l) (c := 65533) (by right; decide) ((begins_iff l 65533 (by decide)).2 (by rw [hw, h2, fmb_lost]))
    rw [h3, hw] at this
    cases this
  · intro h3
    rcases dl_cases l hl with ⟨_, _, hb⟩ | ⟨he, _⟩
    · rw [h] at hb
      have := (begins_iff l 65533 (by decide)).1 hb
      rw [hw, fmb_lost] at this
      have hb1 := hb.1
      rw [hw] at hb1
      exact ⟨by omega, this⟩
    · exact absurd he h3
theorem readP_some {l : List UInt8} {k : Nat} (hk : k < l.length) (h : ¬ dl (l.drop k) = (65533, 1)) : okr (dl (l.drop k)).1 ∧ widthS ((dl (l.drop k)).1 : Int) = ((dl (l.drop k)).2 : Int) := by
  rcases dl_cases (l.drop k) (by simp; omega) with ⟨h1, h2, _⟩ | ⟨he, _⟩
  · exact ⟨h1, by rw [widthS_ok h1, h2]⟩
  · exact absurd he h

theorem take_drop_swap (l : List UInt8) (k j : Nat) : (l.take (k + j)).drop k = (l.drop k).take j := by
  rw [List.drop_take]; congr 1; omega
theorem read_any (l : List UInt8) (k : Nat) (hl : l.length ≤ 9223372036854775804) (hk : k < l.length) (w0 : World) (m : Mem) (H : SHeap) :
    Does Try.prog 67 #[str l, .int .i64 (k : Int)] w0 m H (Gives (readP l k).v m H) := by
  have hlen : (l.drop k).length = l.length - k := List.length_drop
  have hli := lost_iff (l.drop k) (by omega)
  have hso := fun h => (readP_some hk h).2
  rw [hlen] at hli
  refine Does.of_body (args := [str l, .int .i64 (k : Int)]) Try.func67 rfl Try.ntmps67 rfl ?_
  (try (refine st ?_; intros))
  apply WC.loop1
  (try (refine st ?_; intros))
  refine WL.rename 15 (u := .int .i32 ((dl (l.drop k)).1 : Int)) rfl rfl ?_
  refine WL.rename 6 (u := .int .i32 ((dl (l.drop k)).1 : Int)) rfl rfl ?_
  refine w_callF Try.func34 ?_ (hs := width_any _ _ _ _)
  rintro _ _ _ ⟨rfl, rfl, rfl⟩
  by_cases hA : dl (l.drop k) = (65533, 1)
  · have h1 : (dl (l.drop k)).1 = 65533 := by rw [hA]
    (try (refine st ?_; intros))
    (first | refine c_ways (fun h2 => ?_) (fun h2 => ?_) | refine c_nways (fun h2 => ?_) (fun h2 => ?_) | refine w_gways (fun h2 => ?_) (fun h2 => ?_) | refine w_gnways (fun h2 => ?_) (fun h2 => ?_))
    · (try (refine st ?_; intros))
      (refine q_fin0 ?_)
      refine Gives.mk ?_
      unfold readP; rw [if_pos hA]; rfl
    · (try (refine st ?_; intros))
      (first | refine c_ways (fun h3 => ?_) (fun h3 => ?_) | refine c_nways (fun h3 => ?_) (fun h3 => ?_) | refine w_gways (fun h3 => ?_) (fun h3 => ?_) | refine w_gnways (fun h3 => ?_) (fun h3 => ?_))
      · (try (refine st ?_; intros))
        (refine q_fin0 ?_)
        refine Gives.mk ?_
        unfold readP; rw [if_pos hA]; rfl
      · exfalso
        rw [take_drop_swap] at h3
        exact (hli h1).1 ⟨by omega, h3⟩ hA
  · have hw := hso hA
    (try (refine st ?_; intros))
    (first | refine c_ways (fun h2 => ?_) (fun h2 => ?_) | refine c_nways (fun h2 => ?_) (fun h2 => ?_) | refine w_gways (fun h2 => ?_) (fun h2 => ?_) | refine w_gnways (fun h2 => ?_) (fun h2 => ?_))
    · have h1 : (dl (l.drop k)).1 = 65533 := by omega
      obtain ⟨h4, h5⟩ := (hli h1).2 hA
      (try (refine st ?_; intros))
      (first | refine c_ways (fun h3 => ?_) (fun h3 => ?_) | refine c_nways (fun h3 => ?_) (fun h3 => ?_) | refine w_gways (fun h3 => ?_) (fun h3 => ?_) | refine w_gnways (fun h3 => ?_) (fun h3 => ?_))
      · exfalso
        rw [take_drop_swap] at h3
        exact h3 h5
      · (try (refine st ?_; intros))
        (refine q_fin0 ?_)
        refine Gives.mk ?_
        unfold readP; rw [if_neg hA, hw]; rfl
    · (try (refine st ?_; intros))
      (refine q_fin0 ?_)
      refine Gives.mk ?_
      unfold readP; rw [if_neg hA, hw]; rfl
end Go.Proofs.Ytdmdabjaboigcaa
