/-
  Plain facts on the pieces of a text, second part: pieces lie in step with the forms; the last piece. No condition.
-/
import Derived.Test.YtdmdabjaboigcaaRT
set_option linter.all false
namespace Go.Eng
open Go
set_option linter.all false
theorem fm_lead {c : Nat} (hc : c ≤ 1114111) : (fm c).getD 0 0 < 128 ∨ (192 ≤ (fm c).getD 0 0) := by
  unfold fm
  split
  · left; simpa
  · split
    · right; simp
    · split
      · right; simp; omega
      · right; simp; omega
theorem fm_cont {c i : Nat} (h1 : 1 ≤ i) (h2 : i < wd c) : 128 ≤ (fm c).getD i 0 ∧ (fm c).getD i 0 < 192 := by
  unfold fm
  unfold wd at h2
  split at h2
  · omega
  · rename_i h3
    rw [if_neg h3]
    split at h2
    · rename_i h4
      rw [if_pos h4]
      have : i = 1 := by omega
      subst this
      simp; omega
    · rename_i h4
      rw [if_neg h4]
      split at h2
      · rename_i h5
        rw [if_pos h5]
        obtain rfl | rfl : i = 1 ∨ i = 2 := by omega
        · simp; omega
        · simp; omega
      · rename_i h5
        rw [if_neg h5]
        obtain rfl | rfl | rfl : i = 1 ∨ i = 2 ∨ i = 3 := by omega
        · simp; omega
        · simp; omega
        · simp; omega
theorem head_lead {l : List UInt8} (hl : 0 < l.length) (h : ¬ dl l = (65533, 1)) : gb l 0 < 128 ∨ 192 ≤ gb l 0 := by
  rcases dl_cases l hl with ⟨h1, h2, h3⟩ | ⟨h1, _⟩
  · have := h3.2 0 (wd_pos _).1
    rw [show gb l 0 = nb l 0 from rfl, this]
    exact fm_lead (okr_le h1)
  · exact absurd h1 h
theorem tail_cont {l : List UInt8} (hl : 0 < l.length) {i : Nat} (h1 : 1 ≤ i) (h2 : i < (dl l).2) : 128 ≤ gb l i ∧ gb l i < 192 := by
  rcases dl_cases l hl with ⟨g1, g2, g3⟩ | ⟨g1, _⟩
  · rw [g2] at h2
    have := g3.2 i h2
    rw [show gb l i = nb l i from rfl, this]
    exact fm_cont h1 h2
  · rw [g1] at h2; simp at h2; omega
/-- a place where a piece begins -/
def Reach (l : List UInt8) (j : Nat) : Prop := ∃ pre, pieces l = pre ++ from_ l j
theorem Reach.zero (l : List UInt8) : Reach l 0 := ⟨[], rfl⟩
theorem Reach.step {l : List UInt8} {j : Nat} (h : Reach l j) (hj : j < l.length) : Reach l (j + (readP l j).w) := by
  obtain ⟨pre, h⟩ := h
  exact ⟨pre ++ [readP l j], by rw [h, from_cons hj]; simp⟩
theorem reach_lead {l : List UInt8} {j : Nat} (hj : j < l.length) (hlead : gb l j < 128 ∨ 192 ≤ gb l j) : ∀ d i, j - i ≤ d → i ≤ j → Reach l i → Reach l j
  | 0, i, hd, hi, h => by
    have : i = j := by omega
    subst this; exact h
  | d + 1, i, hd, hi, h => by
    by_cases e : i = j
    · subst e; exact h
    · have hil : i < l.length := by omega
      have hw := readP_w hil
      have h2 : i + (readP l i).w ≤ j := by
        rw [readP_w_eq]
        rcases Nat.lt_or_ge j (i + (dl (l.drop i)).2) with hlt | hge
        · exfalso
          have := tail_cont (l := l.drop i) (by simp; omega) (i := j - i) (by omega) (by omega)
          rw [show gb (l.drop i) (j - i) = gb l (i + (j - i)) from nb_drop l i (j - i), show i + (j - i) = j by omega] at this
          omega
        · exact hge
      exact reach_lead hj hlead d _ (by omega) h2 (h.step hil)
/-- what begins whole at a place begins a piece -/
theorem reach_whole {l : List UInt8} {j : Nat} (hj : j < l.length) (h : (readP l j).b = false) : Reach l j := by
  have h1 : ¬ dl (l.drop j) = (65533, 1) := by
    intro h2
    simp [readP, h2] at h
  have := head_lead (l := l.drop j) (by simp; omega) h1
  rw [show gb (l.drop j) 0 = gb l (j + 0) from nb_drop l j 0] at this
  exact reach_lead hj this j 0 (by omega) (by omega) (Reach.zero l)
theorem readP_b {l : List UInt8} {j : Nat} (h : (readP l j).b = true) : (readP l j).w = 1 := by
  unfold readP at h ⊢
  split
  · rfl
  · rename_i h2
    rw [if_neg h2] at h
    cases h
theorem exists_last (l : List UInt8) : ∀ d i, l.length - i ≤ d → i < l.length → Reach l i → ∃ j, Reach l j ∧ j < l.length ∧ j + (readP l j).w = l.length
  | 0, i, hd, hi, _ => by omega
  | d + 1, i, hd, hi, h => by
    have hw := readP_w hi
    by_cases e : i + (readP l i).w = l.length
    · exact ⟨i, h, hi, e⟩
    · exact exists_last l d _ (by omega) (by omega) (h.step hi)
def lastP (l : List UInt8) : Pc := (pieces l).getLastD ⟨0, 0, 0, false⟩
theorem lastP_of {l : List UInt8} {j : Nat} (h : Reach l j) (hj : j < l.length) (he : j + (readP l j).w = l.length) : lastP l = readP l j := by
  obtain ⟨pre, h⟩ := h
  rw [from_cons hj, he, from_nil (by omega)] at h
  simp [lastP, h]
theorem lastP_whole {l : List UInt8} {w : Nat} (hw : w ≤ l.length) (h1 : 1 ≤ w) (hb : (readP l (l.length - w)).b = false) (he : (readP l (l.length - w)).w = w) : lastP l = readP l (l.length - w) :=
  lastP_of (reach_whole (by omega) hb) (by omega) (by omega)
theorem lastP_one {l : List UInt8} (hl : 0 < l.length) (h : ∀ w, 2 ≤ w → w ≤ 4 → w ≤ l.length → ¬ ((readP l (l.length - w)).b = false ∧ (readP l (l.length - w)).w = w)) : lastP l = readP l (l.length - 1) := by
  obtain ⟨j, h1, h2, h3⟩ := exists_last l l.length 0 (by omega) hl (Reach.zero l)
  have hw := readP_w h2
  rw [lastP_of h1 h2 h3]
  by_cases e : (readP l j).w = 1
  · rw [show l.length - 1 = j by omega]
  · exfalso
    refine h (readP l j).w (by omega) (by omega) (by omega) ?_
    rw [show l.length - (readP l j).w = j by omega]
    refine ⟨?_, rfl⟩
    cases hb : (readP l j).b with
    | false => rfl
    | true => exact absurd (readP_b hb) e
end Go.Eng
