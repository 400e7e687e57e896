/-
  Plain facts: pieces that two texts have alike, their order; a rune's first piece. No condition.
-/
import Derived.Test.YtdmdabjaboigcaaRT3
set_option linter.all false
namespace Go.Eng
open Go
/-- a piece's place in the order of pieces -/
def wt (l : List UInt8) (p : Pc) : Nat := if p.b then 16777216 + gb l p.at_ else p.r
def cm : List Nat → List Nat → Nat
  | x :: X, y :: Y => if x = y then cm X Y + 1 else 0
  | _, _ => 0
def cmpL : List Nat → List Nat → Int
  | [], [] => 0
  | [], _ :: _ => -1
  | _ :: _, [] => 1
  | x :: X, y :: Y => if x = y then cmpL X Y else if x < y then -1 else 1
theorem cm_pre : ∀ (P X Y : List Nat), cm (P ++ X) (P ++ Y) = P.length + cm X Y
  | [], X, Y => by simp
  | p :: P, X, Y => by simp [cm, cm_pre P X Y]; omega
theorem cmpL_pre : ∀ (P X Y : List Nat), cmpL (P ++ X) (P ++ Y) = cmpL X Y
  | [], X, Y => rfl
  | p :: P, X, Y => by simp [cmpL, cmpL_pre P X Y]
/-- two rows that have nothing alike at their heads -/
def stop : List Nat → List Nat → Prop
  | x :: _, y :: _ => x ≠ y
  | _, _ => True
theorem cm_stop {X Y : List Nat} (h : stop X Y) : cm X Y = 0 := by
  cases X <;> cases Y <;> simp_all [cm, stop]
theorem cm_split : ∀ X Y : List Nat, ∃ P X' Y', X = P ++ X' ∧ Y = P ++ Y' ∧ cm X Y = P.length ∧ stop X' Y'
  | [], Y => ⟨[], [], Y, rfl, rfl, by simp [cm], trivial⟩
  | x :: X, [] => ⟨[], x :: X, [], rfl, rfl, by simp [cm], trivial⟩
  | x :: X, y :: Y => by
    by_cases h : x = y
    · subst h
      obtain ⟨P, X', Y', rfl, rfl, h1, h2⟩ := cm_split X Y
      exact ⟨x :: P, X', Y', rfl, rfl, by simp [cm, h1], h2⟩
    · exact ⟨[], x :: X, y :: Y, rfl, rfl, by simp [cm, h], h⟩
theorem readP_cases {l : List UInt8} {k : Nat} (hk : k < l.length) : ((readP l k).b = true ∧ (readP l k).w = 1 ∧ (readP l k).r = 65533) ∨ ((readP l k).b = false ∧ (readP l k).w = wd (readP l k).r ∧ (readP l k).r ≤ 1114111) := by
  unfold readP
  split
  · exact .inl ⟨rfl, rfl, rfl⟩
  · rename_i h
    rcases dl_cases (l.drop k) (by simp; omega) with ⟨h1, h2, _⟩ | ⟨h2, _⟩
    · exact .inr ⟨rfl, h2, okr_le h1⟩
    · exact absurd h2 h
theorem wt_read {l : List UInt8} {k : Nat} : wt l (readP l k) = if (readP l k).b then 16777216 + gb l k else (readP l k).r := by unfold wt; rw [readP_at]
/-- so far all is alike -/
def Sh (a b : List UInt8) (n k : Nat) : Prop := ∃ pa pb, pieces a = pa ++ from_ a k ∧ pieces b = pb ++ from_ b k ∧ pa.length = n ∧ pb.length = n ∧ pa.map (wt a) = pb.map (wt b) ∧ k ≤ a.length ∧ k ≤ b.length
theorem Sh.start (a b : List UInt8) : Sh a b 0 0 := ⟨[], [], rfl, rfl, rfl, rfl, rfl, by omega, by omega⟩
theorem wt_same {a b : List UInt8} {k : Nat} (ha : k < a.length) (hb : k < b.length) : wt a (readP a k) = wt b (readP b k) ↔ readP a k = readP b k ∧ ((readP a k).b = true → gb a k = gb b k) := by
  rw [wt_read, wt_read]
  have h1 := readP_at a k
  have h2 := readP_at b k
  have h3 := gb_lt a k
  have h4 := gb_lt b k
  have e1 := readP_cases ha
  have e2 := readP_cases hb
  generalize readP a k = p at *
  generalize readP b k = q at *
  obtain ⟨pa, pw, pr, pb⟩ := p
  obtain ⟨qa, qw, qr, qb⟩ := q
  simp only at *
  subst h1; subst h2
  simp only [Pc.mk.injEq]
  rcases e1 with ⟨rfl, rfl, rfl⟩ | ⟨rfl, rfl, h5⟩ <;> rcases e2 with ⟨rfl, rfl, rfl⟩ | ⟨rfl, rfl, h6⟩
  · simp
  · simp; omega
  · simp; omega
  · simp; intro h; rw [h]
theorem Sh.next {a b : List UInt8} {n k : Nat} (h : Sh a b n k) (ha : k < a.length) (hb : k < b.length) (hw : wt a (readP a k) = wt b (readP b k)) : Sh a b (n + 1) (k + (readP a k).w) := by
  obtain ⟨pa, pb, h1, h2, h3, h4, h5, h6, h7⟩ := h
  have he := ((wt_same ha hb).1 hw).1
  rw [from_cons ha] at h1
  rw [from_cons hb] at h2
  have w1 := readP_w ha
  have w2 := readP_w hb
  refine ⟨pa ++ [readP a k], pb ++ [readP b k], by simpa using h1, by rw [he]; simpa using h2, by simp [h3], by simp [h4], by simp [h5, hw], by omega, by rw [he]; omega⟩
theorem Sh.done {a b : List UInt8} {n k : Nat} (h : Sh a b n k) (hs : k = a.length ∨ k = b.length ∨ wt a (readP a k) ≠ wt b (readP b k)) :
    n = cm ((pieces a).map (wt a)) ((pieces b).map (wt b)) ∧ cmpL ((pieces a).map (wt a)) ((pieces b).map (wt b)) = if k = a.length ∧ k = b.length then 0 else if k = a.length then -1 else if k = b.length then 1 else if wt a (readP a k) < wt b (readP b k) then -1 else 1 := by
  obtain ⟨pa, pb, h1, h2, h3, h4, h5, h6, h7⟩ := h
  rw [h1, h2, List.map_append, List.map_append, ← h5, cm_pre, cmpL_pre, List.length_map, h3]
  rcases Nat.lt_or_eq_of_le h6 with ha | ha
  · rw [from_cons ha]
    rcases Nat.lt_or_eq_of_le h7 with hb | hb
    · rw [from_cons hb]
      have hne : wt a (readP a k) ≠ wt b (readP b k) := by omega
      simp only [List.map_cons, cm, cmpL, if_neg hne]
      refine ⟨by omega, ?_⟩
      simp [show ¬ k = a.length by omega, show ¬ k = b.length by omega]
    · rw [from_nil (l := b) (k := k) (by omega)]
      simp only [List.map_cons, List.map_nil, cm, cmpL]
      refine ⟨by omega, ?_⟩
      rw [if_neg (by omega), if_neg (by omega), if_pos hb]
  · rw [from_nil (l := a) (k := k) (by omega)]
    rcases Nat.lt_or_eq_of_le h7 with hb | hb
    · rw [from_cons hb]
      simp only [List.map_cons, List.map_nil, cm, cmpL]
      refine ⟨by omega, ?_⟩
      rw [if_neg (by omega), if_pos ha]
    · rw [from_nil (l := b) (k := k) (by omega)]
      simp only [List.map_nil, cm, cmpL]
      refine ⟨by omega, ?_⟩
      rw [if_pos ⟨ha, hb⟩]
/-- the place of a rune's first piece -/
def idx : List Pc → Int → Int
  | [], _ => -1
  | p :: ps, r => if (p.r : Int) = r ∧ p.b = false then (p.at_ : Int) else idx ps r
def noIdx (ps : List Pc) (r : Int) : Prop := ∀ p ∈ ps, ¬ ((p.r : Int) = r ∧ p.b = false)
theorem idx_pre : ∀ {ps : List Pc} {r : Int} (X : List Pc), noIdx ps r → idx (ps ++ X) r = idx X r
  | [], _, _, _ => rfl
  | p :: ps, r, X, h => by
    rw [List.cons_append, idx, if_neg (h p List.mem_cons_self)]
    exact idx_pre X (fun q hq => h q (List.mem_cons_of_mem _ hq))
theorem noIdx_snoc {ps : List Pc} {r : Int} {p : Pc} (h : noIdx ps r) (hp : ¬ ((p.r : Int) = r ∧ p.b = false)) : noIdx (ps ++ [p]) r := by
  intro q hq
  rcases List.mem_append.1 hq with hq | hq
  · exact h q hq
  · rw [List.mem_singleton.1 hq]; exact hp
end Go.Eng
