/-
  Plain facts on the pieces of a text, third part: which places are boundaries, and what stands around a place. No condition.
-/
import Derived.Test.YtdmdabjaboigcaaRT2
set_option linter.all false
namespace Go.Eng
open Go
set_option linter.all false
theorem from_split (l : List UInt8) : ∀ d k, l.length - k ≤ d → ∀ pre p post, from_ l k = pre ++ p :: post → k ≤ p.at_ ∧ p.at_ < l.length ∧ p = readP l p.at_ ∧ p :: post = from_ l p.at_ ∧ (∀ q ∈ pre, q.at_ < p.at_)
  | 0, k, hd, pre, p, post, h => by
    rw [from_nil (by omega)] at h; simp at h
  | d + 1, k, hd, pre, p, post, h => by
    by_cases hk : k < l.length
    · have hw := readP_w hk
      have h' := h
      rw [from_cons hk] at h
      cases pre with
      | nil =>
        simp only [List.nil_append, List.cons.injEq] at h
        obtain ⟨rfl, h2⟩ := h
        have ha := readP_at l k
        refine ⟨by omega, by omega, by rw [ha], by rw [ha, from_cons hk, h2], by simp⟩
      | cons q pre =>
        simp only [List.cons_append, List.cons.injEq] at h
        obtain ⟨rfl, h2⟩ := h
        obtain ⟨g1, g2, g3, g4, g5⟩ := from_split l d _ (by omega) pre p post h2
        refine ⟨by omega, g2, g3, g4, fun q hq => ?_⟩
        rcases List.mem_cons.1 hq with rfl | hq
        · rw [readP_at]; omega
        · exact g5 q hq
    · rw [from_nil hk] at h; simp at h
theorem pieces_split {l : List UInt8} {pre post : List Pc} {p : Pc} (h : pieces l = pre ++ p :: post) : p.at_ < l.length ∧ p = readP l p.at_ ∧ p :: post = from_ l p.at_ ∧ (∀ q ∈ pre, q.at_ < p.at_) :=
  (from_split l l.length 0 (by omega) pre p post h).2
theorem reach_of_mem {l : List UInt8} {p : Pc} (h : p ∈ pieces l) : Reach l p.at_ ∧ p.at_ < l.length ∧ p = readP l p.at_ := by
  obtain ⟨pre, post, e⟩ := List.append_of_mem h
  obtain ⟨h1, h2, h3, _⟩ := pieces_split e
  exact ⟨⟨pre, by rw [e, h3]⟩, h1, h2⟩
theorem reach_mem {l : List UInt8} {k : Nat} (h : Reach l k) (hk : k < l.length) : readP l k ∈ pieces l := by
  obtain ⟨pre, e⟩ := h
  rw [e, from_cons hk]; simp
/-- what lies ahead of a place where a piece begins, and what from it on -/
theorem reach_parts {l : List UInt8} {k : Nat} (h : Reach l k) : ∃ pre, pieces l = pre ++ from_ l k ∧ (∀ q ∈ pre, q.at_ < k ∨ l.length ≤ k) ∧ (∀ q ∈ from_ l k, k ≤ q.at_) := by
  obtain ⟨pre, e⟩ := h
  refine ⟨pre, e, fun q hq => ?_, fun q hq => ?_⟩
  · by_cases hk : k < l.length
    · rw [from_cons hk] at e
      have := (pieces_split e).2.2.2 q hq
      rw [readP_at] at this
      exact .inl this
    · exact .inr (by omega)
  · obtain ⟨a, b, e2⟩ := List.append_of_mem hq
    exact (from_split l l.length k (by omega) a q b e2).1
/-- within a piece no piece begins -/
theorem not_reach_within {l : List UInt8} {i j : Nat} (hi : i < l.length) (h : Reach l i) (h1 : i < j) (h2 : j < i + (readP l i).w) : ¬ Reach l j := by
  intro hj
  have hw := readP_w hi
  have hjl : j < l.length := by omega
  obtain ⟨pre, e, g1, g2⟩ := reach_parts h
  have hm := reach_mem hj hjl
  rw [e, List.mem_append] at hm
  rcases hm with hm | hm
  · rcases g1 _ hm with g | g
    · rw [readP_at] at g; omega
    · omega
  · rw [from_cons hi] at hm
    rcases List.mem_cons.1 hm with hm | hm
    · have := congrArg Pc.at_ hm
      rw [readP_at, readP_at] at this; omega
    · obtain ⟨a, b, e2⟩ := List.append_of_mem hm
      have := (from_split l l.length _ (by omega) a _ b e2).1
      rw [readP_at] at this; omega
theorem exists_around {l : List UInt8} {j : Nat} (hj : j < l.length) : ∀ d i, j - i ≤ d → i ≤ j → Reach l i → ∃ k, Reach l k ∧ k ≤ j ∧ j < k + (readP l k).w
  | 0, i, hd, hi, h => by
    have hw := readP_w (l := l) (k := i) (by omega)
    exact ⟨i, h, hi, by omega⟩
  | d + 1, i, hd, hi, h => by
    have hw := readP_w (l := l) (k := i) (by omega)
    by_cases e : j < i + (readP l i).w
    · exact ⟨i, h, hi, e⟩
    · exact exists_around hj d _ (by omega) (by omega) (h.step (by omega))
/-- a place within a form: where the form begins -/
def Within (l : List UInt8) (at_ i : Nat) : Prop := i < at_ ∧ at_ < i + (readP l i).w ∧ (readP l i).b = false
theorem within_reach {l : List UInt8} {at_ i : Nat} (ha : at_ ≤ l.length) (h : Within l at_ i) : Reach l i ∧ i < l.length ∧ at_ ≤ i + 3 ∧ at_ < l.length := by
  obtain ⟨h1, h2, h3⟩ := h
  have hi : i < l.length := by omega
  have hw := readP_w hi
  exact ⟨reach_whole hi h3, hi, by omega, by omega⟩
theorem within_unique {l : List UInt8} {at_ i j : Nat} (ha : at_ ≤ l.length) (h : Within l at_ i) (h' : Within l at_ j) : i = j := by
  obtain ⟨r1, i1, _⟩ := within_reach ha h
  obtain ⟨r2, j1, _⟩ := within_reach ha h'
  obtain ⟨a1, a2, a3⟩ := h
  obtain ⟨b1, b2, b3⟩ := h'
  rcases Nat.lt_trichotomy i j with g | g | g
  · exact absurd r2 (not_reach_within i1 r1 g (by omega))
  · exact g
  · exact absurd r1 (not_reach_within j1 r2 g (by omega))
theorem within_iff {l : List UInt8} {at_ : Nat} (ha : at_ ≤ l.length) : (∃ i, Within l at_ i) ↔ ¬ (at_ = l.length ∨ Reach l at_) := by
  constructor
  · rintro ⟨i, h⟩ hr
    obtain ⟨r1, i1, i2, i3⟩ := within_reach ha h
    rcases hr with hr | hr
    · omega
    · exact not_reach_within i1 r1 h.1 h.2.1 hr
  · intro hn
    have hlt : at_ < l.length := by
      rcases Nat.lt_or_ge at_ l.length with h | h
      · exact h
      · exact absurd (.inl (by omega)) hn
    obtain ⟨k, h1, h2, h3⟩ := exists_around hlt at_ 0 (by omega) (by omega) (Reach.zero l)
    refine ⟨k, ?_, h3, ?_⟩
    · rcases Nat.lt_or_ge k at_ with h | h
      · exact h
      · have : k = at_ := by omega
        subst this
        exact absurd (.inr h1) hn
    · cases hb : (readP l k).b with
      | false => rfl
      | true =>
        have := readP_b hb
        have : k = at_ := by omega
        subst this
        exact absurd (.inr h1) hn
end Go.Eng
