/-
  Plain facts: pieces of a text's beginning; a text's pieces as texts; from the end on. No condition.
-/
import Derived.Test.YtdmdabjaboigcaaRT7
import Derived.Test.YtdmdabjaboigcaaRT4
set_option linter.all false
namespace Go.Eng
open Go
theorem begins_take {l : List UInt8} {c n : Nat} (h : begins (l.take n) c) : begins l c := by
  obtain ⟨h1, h2⟩ := h
  simp only [List.length_take] at h1
  refine ⟨by omega, fun k hk => ?_⟩
  rw [← h2 k hk]
  simp only [nb, gb, List.getD_eq_getElem?_getD, List.length_take]
  rw [List.getElem?_take_of_lt (by omega)]
theorem begins_of_take {l : List UInt8} {c n : Nat} (h : begins l c) (hn : wd c ≤ n) : begins (l.take n) c := by
  obtain ⟨h1, h2⟩ := h
  refine ⟨by simp only [List.length_take]; omega, fun k hk => ?_⟩
  rw [← h2 k hk]
  simp only [nb, gb, List.getD_eq_getElem?_getD, List.length_take]
  rw [List.getElem?_take_of_lt (by omega)]
theorem read_take {l : List UInt8} {k n : Nat} (hk : k + (readP l k).w ≤ n) (hn : n ≤ l.length) (hkl : k < l.length) : readP (l.take n) k = readP l k := by
  have hw := readP_w hkl
  have hd : (l.take n).drop k = (l.drop k).take (n - k) := by rw [List.drop_take]
  have hlen : ((l.drop k).take (n - k)).length = n - k := by simp; omega
  have key : dl ((l.drop k).take (n - k)) = dl (l.drop k) := by
    rcases dl_cases (l.drop k) (by simp; omega) with ⟨h1, h2, h3⟩ | ⟨h1, h2⟩
    · have hwd : (readP l k).w = wd (dl (l.drop k)).1 := by rw [readP_w_eq, h2]
      rw [dl_of_begins h1 (begins_of_take h3 (by omega)), ← h2]
    · rw [h1]
      rcases dl_cases ((l.drop k).take (n - k)) (by omega) with ⟨g1, _, g3⟩ | ⟨g1, _⟩
      · exact absurd (begins_take g3) (h2 _ g1)
      · exact g1
  unfold readP
  rw [hd, key]
theorem from_take {l : List UInt8} {n : Nat} (hn : n ≤ l.length) : ∀ (pre : List Pc) (k : Nat), from_ l k = pre ++ from_ l n → k ≤ n → from_ (l.take n) k = pre
  | [], k, h, hk => by
    rcases Nat.lt_or_eq_of_le hk with hlt | rfl
    · exfalso
      simp only [List.nil_append] at h
      rw [from_cons (by omega)] at h
      by_cases hnl : n < l.length
      · rw [from_cons hnl] at h
        have := congrArg (fun x => (x.head?.map Pc.at_)) h
        simp only [List.head?_cons, Option.map_some, readP_at, Option.some.injEq] at this
        omega
      · rw [from_nil (k := n) hnl] at h; cases h
    · rw [from_nil (by simp; omega)]
  | p :: pre, k, h, hk => by
    have hkl : k < l.length := by
      rcases Nat.lt_or_ge k l.length with h1 | h1
      · exact h1
      · rw [from_nil (by omega)] at h; cases h
    rw [from_cons hkl, List.cons_append] at h
    simp only [List.cons.injEq] at h
    obtain ⟨rfl, h⟩ := h
    have hw := readP_w hkl
    have hle : k + (readP l k).w ≤ n := by
      rcases Nat.lt_or_ge n (k + (readP l k).w) with hlt | hge
      · exfalso
        -- no piece behind k begins at n
        rcases Nat.lt_or_eq_of_le hn with hnl | hnl
        · have hm : readP l n ∈ from_ l (k + (readP l k).w) := by rw [h, from_cons hnl]; exact List.mem_append_right _ List.mem_cons_self
          obtain ⟨A, B, e⟩ := List.append_of_mem hm
          have := (from_split l l.length _ (by omega) _ _ _ e).1
          rw [readP_at] at this; omega
        · omega
      · exact hge
    have hlt : k < (l.take n).length := by simp; omega
    rw [from_cons hlt, read_take hle hn hkl, from_take hn pre _ h hle]
theorem pieces_take {l : List UInt8} {n : Nat} {pre : List Pc} (hn : n ≤ l.length) (h : pieces l = pre ++ from_ l n) : pieces (l.take n) = pre := from_take hn pre 0 h (Nat.zero_le _)
/-- a piece's bytes -/
def txt (l : List UInt8) (p : Pc) : List UInt8 := (l.take (p.at_ + p.w)).drop p.at_
theorem txt_len (l : List UInt8) (p : Pc) : (txt l p).length ≤ p.w := by simp [txt]; omega
theorem mem_w {l : List UInt8} {p : Pc} (h : p ∈ pieces l) : p.at_ < l.length ∧ 1 ≤ p.w ∧ p.w ≤ 4 ∧ p.at_ + p.w ≤ l.length := by
  obtain ⟨_, h2, h3⟩ := reach_of_mem h
  have := readP_w h2
  rw [← h3] at this
  omega
def mendOf (l w : List UInt8) (ps : List Pc) : List UInt8 := ps.flatMap fun p => if p.b then w else txt l p
theorem mendOf_snoc (l w : List UInt8) (ps : List Pc) (p : Pc) : mendOf l w (ps ++ [p]) = mendOf l w ps ++ (if p.b then w else txt l p) := by simp [mendOf]
def textsOf (l : List UInt8) (ps : List Pc) : List UInt8 := ps.flatMap (txt l)
theorem textsOf_snoc (l : List UInt8) (ps : List Pc) (p : Pc) : textsOf l (ps ++ [p]) = textsOf l ps ++ txt l p := by simp [textsOf]
/-- where the first so many pieces end -/
def cutK (l : List UInt8) (n : Int) : Nat := if n ≤ 0 then 0 else (endsOf l).getD n.toNat l.length
end Go.Eng
