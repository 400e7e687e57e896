/-
  Plain facts: the pieces so far are the text's beginning; places within a form. No condition.
-/
import Derived.Test.YtdmdabjaboigcaaRT8
set_option linter.all false
namespace Go.Eng
open Go
theorem texts_from {l : List UInt8} {n : Nat} (hn : n ≤ l.length) : ∀ (pre : List Pc) (k : Nat), from_ l k = pre ++ from_ l n → k ≤ n → textsOf l pre = (l.take n).drop k
  | [], k, h, hk => by
    have e := from_take hn [] k h hk
    rcases Nat.lt_or_eq_of_le hk with hlt | rfl
    · rw [from_cons (by simp; omega)] at e; cases e
    · simp [textsOf]
  | p :: pre, k, h, hk => by
    have hkl : k < l.length := by
      rcases Nat.lt_or_ge k l.length with h1 | h1
      · exact h1
      · rw [from_nil (by omega)] at h; cases h
    have h0 := from_take hn (p :: pre) k h hk
    rw [from_cons hkl, List.cons_append] at h
    simp only [List.cons.injEq] at h
    obtain ⟨rfl, h⟩ := h
    have hw := readP_w hkl
    have hle : k + (readP l k).w ≤ n := by
      have hkn : k < (l.take n).length := by
        rcases Nat.lt_or_ge k (l.take n).length with g | g
        · exact g
        · rw [from_nil (by omega)] at h0; cases h0
      rw [from_cons hkn] at h0
      have h1 := readP_w hkn
      simp only [List.cons.injEq] at h0
      have h2 : (l.take n).length ≤ n := by simp; omega
      rw [h0.1] at h1
      omega
    have ih := texts_from hn pre _ h hle
    have e : textsOf l (readP l k :: pre) = txt l (readP l k) ++ textsOf l pre := by simp [textsOf]
    rw [e, ih, txt, readP_at]
    have h3 : (l.take n).drop k = ((l.take n).take (k + (readP l k).w)).drop k ++ (l.take n).drop (k + (readP l k).w) := by
      rw [← List.take_append_drop (k + (readP l k).w) (l.take n)]
      rw [List.drop_append_of_le_length (by simp; omega)]
      simp
    rw [h3, List.take_take, Nat.min_eq_left hle]
theorem texts_take {l : List UInt8} {n : Nat} {pre : List Pc} (hn : n ≤ l.length) (h : pieces l = pre ++ from_ l n) : textsOf l pre = l.take n := by
  have := texts_from hn pre 0 h (Nat.zero_le _)
  rwa [List.drop_zero] at this
theorem texts_all (l : List UInt8) : textsOf l (pieces l) = l := by
  have := texts_take (l := l) (pre := pieces l) (Nat.le_refl _) (by rw [from_nil (by omega), List.append_nil])
  rwa [List.take_length] at this
/-- a byte within a form begins no form -/
theorem within_broken {l : List UInt8} {k i : Nat} (hk : k < l.length) (h1 : k < i) (h2 : i < k + (readP l k).w) : readP l i = ⟨i, 1, 65533, true⟩ := by
  have hw := readP_w hk
  have hc : 128 ≤ gb (l.drop k) (i - k) ∧ gb (l.drop k) (i - k) < 192 := tail_cont (by simp; omega) (by omega) (by rw [← readP_w_eq]; omega)
  have hg : gb (l.drop k) (i - k) = gb (l.drop i) 0 := by
    simp only [gb, List.getD_eq_getElem?_getD, List.getElem?_drop]
    rw [show k + (i - k) = i by omega, Nat.add_zero]
  unfold readP
  by_cases hd : dl (l.drop i) = (65533, 1)
  · rw [if_pos hd]
  · exfalso
    have := head_lead (l := l.drop i) (by simp; omega) hd
    omega
end Go.Eng
