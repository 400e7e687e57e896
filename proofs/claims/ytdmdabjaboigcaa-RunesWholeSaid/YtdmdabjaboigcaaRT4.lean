/-
  Plain facts on the pieces of a text, fourth part: the boundaries as a row of numbers, and the ones next to a place. No condition.
-/
import Derived.Test.YtdmdabjaboigcaaRT3
set_option linter.all false
namespace Go.Eng
open Go
set_option linter.all false
/-- the boundaries of a text -/
def endsOf (l : List UInt8) : List Nat := (pieces l).map Pc.at_ ++ [l.length]
def leOf (k : Nat) : List Nat → Nat → Nat
  | [], a => a
  | x :: xs, a => leOf k xs (if x ≤ k then x else a)
def geOf (k : Nat) : List Nat → Nat → Nat
  | [], a => a
  | x :: xs, a => if k ≤ x then x else geOf k xs a
theorem leOf_append (k : Nat) : ∀ (xs ys : List Nat) (a : Nat), leOf k (xs ++ ys) a = leOf k ys (leOf k xs a)
  | [], ys, a => rfl
  | x :: xs, ys, a => leOf_append k xs ys _
theorem leOf_above (k : Nat) : ∀ (xs : List Nat) (a : Nat), (∀ x ∈ xs, k < x) → leOf k xs a = a
  | [], a, _ => rfl
  | x :: xs, a, h => by
    have := h x List.mem_cons_self
    rw [leOf, if_neg (by omega)]
    exact leOf_above k xs a fun y hy => h y (List.mem_cons_of_mem _ hy)
theorem geOf_append (k : Nat) : ∀ (xs ys : List Nat) (a : Nat), (∀ x ∈ xs, x < k) → geOf k (xs ++ ys) a = geOf k ys a
  | [], ys, a, _ => rfl
  | x :: xs, ys, a, h => by
    have := h x List.mem_cons_self
    rw [List.cons_append, geOf, if_neg (by omega)]
    exact geOf_append k xs ys a fun y hy => h y (List.mem_cons_of_mem _ hy)
theorem ends_parts {l : List UInt8} {k : Nat} (h : Reach l k) (hk : k < l.length) : ∃ A B, endsOf l = A ++ k :: (k + (readP l k).w) :: B ∧ (∀ x ∈ A, x < k) ∧ (∀ x ∈ B, k + (readP l k).w < x) := by
  obtain ⟨pre, e, g1, g2⟩ := reach_parts h
  have hw := readP_w hk
  by_cases he : k + (readP l k).w < l.length
  · refine ⟨pre.map Pc.at_, (from_ l (k + (readP l k).w + (readP l (k + (readP l k).w)).w)).map Pc.at_ ++ [l.length], ?_, ?_, ?_⟩
    · rw [endsOf, e, from_cons hk, from_cons he]
      simp [readP_at]
    · intro x hx
      obtain ⟨q, hq, rfl⟩ := List.mem_map.1 hx
      rcases g1 q hq with g | g
      · exact g
      · omega
    · intro x hx
      have hw2 := readP_w he
      rcases List.mem_append.1 hx with hx | hx
      · obtain ⟨q, hq, rfl⟩ := List.mem_map.1 hx
        obtain ⟨a, b, e2⟩ := List.append_of_mem hq
        have := (from_split l l.length _ (by omega) a q b e2).1
        omega
      · rw [List.mem_singleton.1 hx]; exact he
  · have he2 : k + (readP l k).w = l.length := by omega
    refine ⟨pre.map Pc.at_, [], ?_, ?_, by simp⟩
    · rw [endsOf, e, from_cons hk, from_nil he]
      simp [readP_at, he2]
    · intro x hx
      obtain ⟨q, hq, rfl⟩ := List.mem_map.1 hx
      rcases g1 q hq with g | g
      · exact g
      · omega
theorem around_within {l : List UInt8} {k i : Nat} (hk : k ≤ l.length) (h : Within l k i) : leOf k (endsOf l) 0 = i ∧ geOf k (endsOf l) 0 = i + (readP l i).w := by
  obtain ⟨hr, hi, _, _⟩ := within_reach hk h
  obtain ⟨h1, h2, _⟩ := h
  obtain ⟨A, B, e, hA, hB⟩ := ends_parts hr hi
  rw [e]
  constructor
  · rw [leOf_append, leOf, if_pos (by omega), leOf, if_neg (by omega)]
    exact leOf_above k B i fun x hx => by have := hB x hx; omega
  · rw [geOf_append k A _ _ (fun x hx => by have := hA x hx; omega), geOf, if_neg (by omega), geOf, if_pos (by omega)]
theorem around_bound {l : List UInt8} {k : Nat} (hk : k ≤ l.length) (h : ¬ ∃ i, Within l k i) : leOf k (endsOf l) 0 = k ∧ geOf k (endsOf l) 0 = k := by
  have h' : k = l.length ∨ Reach l k := Classical.byContradiction fun hn => h ((within_iff hk).2 hn)
  by_cases e : k = l.length
  · subst e
    constructor
    · rw [endsOf, leOf_append, leOf, if_pos (Nat.le_refl _)]; rfl
    · rw [endsOf, geOf_append _ _ _ _ (fun x hx => ?_), geOf, if_pos (Nat.le_refl _)]
      obtain ⟨q, hq, rfl⟩ := List.mem_map.1 hx
      exact (reach_of_mem hq).2.1
  · have hr : Reach l k := h'.resolve_left e
    have hw := readP_w (l := l) (k := k) (by omega)
    obtain ⟨A, B, e, hA, hB⟩ := ends_parts hr (by omega)
    rw [e]
    constructor
    · rw [leOf_append, leOf, if_pos (Nat.le_refl _), leOf, if_neg (by omega)]
      exact leOf_above k B k fun x hx => by have := hB x hx; omega
    · rw [geOf_append k A _ _ (fun x hx => hA x hx), geOf, if_pos (Nat.le_refl _)]
theorem mem_ends {l : List UInt8} {k : Nat} (hk : k ≤ l.length) : k ∈ endsOf l ↔ ¬ ∃ i, Within l k i := by
  rw [within_iff hk, Classical.not_not, endsOf, List.mem_append, List.mem_singleton]
  constructor
  · rintro (h | h)
    · obtain ⟨q, hq, rfl⟩ := List.mem_map.1 h
      exact .inr (reach_of_mem hq).1
    · exact .inl h
  · rintro (h | h)
    · exact .inr h
    · rcases Nat.lt_or_ge k l.length with g | g
      · exact .inl (List.mem_map.2 ⟨_, reach_mem h g, readP_at l k⟩)
      · exact .inr (by omega)
theorem ends_le {l : List UInt8} {x : Nat} (h : x ∈ endsOf l) : x ≤ l.length := by
  rw [endsOf, List.mem_append, List.mem_singleton] at h
  rcases h with h | h
  · obtain ⟨q, hq, rfl⟩ := List.mem_map.1 h
    exact Nat.le_of_lt (reach_of_mem hq).2.1
  · omega
end Go.Eng
