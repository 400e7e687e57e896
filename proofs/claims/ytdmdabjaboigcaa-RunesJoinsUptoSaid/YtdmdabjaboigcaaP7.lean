/-
  Parts of a walk, joined: RT7 RT4 RT8 RT9 RT10 RT11 R30 R10 RT5 R13 R14 RT6 R16. No condition.
-/
import Derived.Test.YtdmdabjaboigcaaP6
import Derived.Test.YtdmdabjaboigcaaP3
/-
  Plain facts: pieces that two texts have alike, their order; a rune's first piece. No condition.
-/
set_option linter.all false
namespace Go.Eng
open Go
/-- a piece's place in the order of pieces -/
def wt (l : List UInt8) (p : Pc) : Nat := if p.b then 16777216 + gb l p.at_ else p.r
def cm : List Nat → List Nat → Nat
  | x :: X, y :: Y => if x = y then cm X Y + 1 else 0
  | _, _ => 0
def cmpL : List Nat → List Nat → Int
  | [], [] => 0
  | [], _ :: _ => -1
  | _ :: _, [] => 1
  | x :: X, y :: Y => if x = y then cmpL X Y else if x < y then -1 else 1
theorem cm_pre : ∀ (P X Y : List Nat), cm (P ++ X) (P ++ Y) = P.length + cm X Y
  | [], X, Y => by simp
  | p :: P, X, Y => by simp [cm, cm_pre P X Y]; omega
theorem cmpL_pre : ∀ (P X Y : List Nat), cmpL (P ++ X) (P ++ Y) = cmpL X Y
  | [], X, Y => rfl
  | p :: P, X, Y => by simp [cmpL, cmpL_pre P X Y]
/-- two rows that have nothing alike at their heads -/
def stop : List Nat → List Nat → Prop
  | x :: _, y :: _ => x ≠ y
  | _, _ => True
theorem cm_stop {X Y : List Nat} (h : stop X Y) : cm X Y = 0 := by
  cases X <;> cases Y <;> simp_all [cm, stop]
theorem cm_split : ∀ X Y : List Nat, ∃ P X' Y', X = P ++ X' ∧ Y = P ++ Y' ∧ cm X Y = P.length ∧ stop X' Y'
  | [], Y => ⟨[], [], Y, rfl, rfl, by simp [cm], trivial⟩
  | x :: X, [] => ⟨[], x :: X, [], rfl, rfl, by simp [cm], trivial⟩
  | x :: X, y :: Y => by
    by_cases h : x = y
    · subst h
      obtain ⟨P, X', Y', rfl, rfl, h1, h2⟩ := cm_split X Y
      exact ⟨x :: P, X', Y', rfl, rfl, by simp [cm, h1], h2⟩
    · exact ⟨[], x :: X, y :: Y, rfl, rfl, by simp [cm, h], h⟩
theorem readP_cases {l : List UInt8} {k : Nat} (hk : k < l.length) : ((readP l k).b = true ∧ (readP l k).w = 1 ∧ (readP l k).r = 65533) ∨ ((readP l k).b = false ∧ (readP l k).w = wd (readP l k).r ∧ (readP l k).r ≤ 1114111) := by
  unfold readP
  split
  · exact .inl ⟨rfl, rfl, rfl⟩
  · rename_i h
    rcases dl_cases (l.drop k) (by simp; omega) with ⟨h1, h2, _⟩ | ⟨h2, _⟩
    · exact .inr ⟨rfl, h2, okr_le h1⟩
    · exact absurd h2 h
theorem wt_read {l : List UInt8} {k : Nat} : wt l (readP l k) = if (readP l k).b then 16777216 + gb l k else (readP l k).r := by unfold wt; rw [readP_at]
/-- so far all is alike -/
def Sh (a b : List UInt8) (n k : Nat) : Prop := ∃ pa pb, pieces a = pa ++ from_ a k ∧ pieces b = pb ++ from_ b k ∧ pa.length = n ∧ pb.length = n ∧ pa.map (wt a) = pb.map (wt b) ∧ k ≤ a.length ∧ k ≤ b.length
theorem Sh.start (a b : List UInt8) : Sh a b 0 0 := ⟨[], [], rfl, rfl, rfl, rfl, rfl, by omega, by omega⟩
theorem wt_same {a b : List UInt8} {k : Nat} (ha : k < a.length) (hb : k < b.length) : wt a (readP a k) = wt b (readP b k) ↔ readP a k = readP b k ∧ ((readP a k).b = true → gb a k = gb b k) := by
  rw [wt_read, wt_read]
  have h1 := readP_at a k
  have h2 := readP_at b k
  have h3 := gb_lt a k
  have h4 := gb_lt b k
  have e1 := readP_cases ha
  have e2 := readP_cases hb
  generalize readP a k = p at *
  generalize readP b k = q at *
  obtain ⟨pa, pw, pr, pb⟩ := p
  obtain ⟨qa, qw, qr, qb⟩ := q
  simp only at *
  subst h1; subst h2
  simp only [Pc.mk.injEq]
  rcases e1 with ⟨rfl, rfl, rfl⟩ | ⟨rfl, rfl, h5⟩ <;> rcases e2 with ⟨rfl, rfl, rfl⟩ | ⟨rfl, rfl, h6⟩
  · simp
  · simp; omega
  · simp; omega
  · simp; intro h; rw [h]
theorem Sh.next {a b : List UInt8} {n k : Nat} (h : Sh a b n k) (ha : k < a.length) (hb : k < b.length) (hw : wt a (readP a k) = wt b (readP b k)) : Sh a b (n + 1) (k + (readP a k).w) := by
  obtain ⟨pa, pb, h1, h2, h3, h4, h5, h6, h7⟩ := h
  have he := ((wt_same ha hb).1 hw).1
  rw [from_cons ha] at h1
  rw [from_cons hb] at h2
  have w1 := readP_w ha
  have w2 := readP_w hb
  refine ⟨pa ++ [readP a k], pb ++ [readP b k], by simpa using h1, by rw [he]; simpa using h2, by simp [h3], by simp [h4], by simp [h5, hw], by omega, by rw [he]; omega⟩
theorem Sh.done {a b : List UInt8} {n k : Nat} (h : Sh a b n k) (hs : k = a.length ∨ k = b.length ∨ wt a (readP a k) ≠ wt b (readP b k)) :
    n = cm ((pieces a).map (wt a)) ((pieces b).map (wt b)) ∧ cmpL ((pieces a).map (wt a)) ((pieces b).map (wt b)) = if k = a.length ∧ k = b.length then 0 else if k = a.length then -1 else if k = b.length then 1 else if wt a (readP a k) < wt b (readP b k) then -1 else 1 := by
  obtain ⟨pa, pb, h1, h2, h3, h4, h5, h6, h7⟩ := h
  rw [h1, h2, List.map_append, List.map_append, ← h5, cm_pre, cmpL_pre, List.length_map, h3]
  rcases Nat.lt_or_eq_of_le h6 with ha | ha
  · rw [from_cons ha]
    rcases Nat.lt_or_eq_of_le h7 with hb | hb
    · rw [from_cons hb]
      have hne : wt a (readP a k) ≠ wt b (readP b k) := by omega
      simp only [List.map_cons, cm, cmpL, if_neg hne]
      refine ⟨by omega, ?_⟩
      simp [show ¬ k = a.length by omega, show ¬ k = b.length by omega]
    · rw [from_nil (l := b) (k := k) (by omega)]
      simp only [List.map_cons, List.map_nil, cm, cmpL]
      refine ⟨by omega, ?_⟩
      rw [if_neg (by omega), if_neg (by omega), if_pos hb]
  · rw [from_nil (l := a) (k := k) (by omega)]
    rcases Nat.lt_or_eq_of_le h7 with hb | hb
    · rw [from_cons hb]
      simp only [List.map_cons, List.map_nil, cm, cmpL]
      refine ⟨by omega, ?_⟩
      rw [if_neg (by omega), if_pos ha]
    · rw [from_nil (l := b) (k := k) (by omega)]
      simp only [List.map_nil, cm, cmpL]
      refine ⟨by omega, ?_⟩
      rw [if_pos ⟨ha, hb⟩]
/-- the place of a rune's first piece -/
def idx : List Pc → Int → Int
  | [], _ => -1
  | p :: ps, r => if (p.r : Int) = r ∧ p.b = false then (p.at_ : Int) else idx ps r
def noIdx (ps : List Pc) (r : Int) : Prop := ∀ p ∈ ps, ¬ ((p.r : Int) = r ∧ p.b = false)
theorem idx_pre : ∀ {ps : List Pc} {r : Int} (X : List Pc), noIdx ps r → idx (ps ++ X) r = idx X r
  | [], _, _, _ => rfl
  | p :: ps, r, X, h => by
    rw [List.cons_append, idx, if_neg (h p List.mem_cons_self)]
    exact idx_pre X (fun q hq => h q (List.mem_cons_of_mem _ hq))
theorem noIdx_snoc {ps : List Pc} {r : Int} {p : Pc} (h : noIdx ps r) (hp : ¬ ((p.r : Int) = r ∧ p.b = false)) : noIdx (ps ++ [p]) r := by
  intro q hq
  rcases List.mem_append.1 hq with hq | hq
  · exact h q hq
  · rw [List.mem_singleton.1 hq]; exact hp
end Go.Eng

/-
  Plain facts on the pieces of a text, fourth part: the boundaries as a row of numbers, and the ones next to a place. No condition.
-/
set_option linter.all false
namespace Go.Eng
open Go
set_option linter.all false
/-- the boundaries of a text -/
def endsOf (l : List UInt8) : List Nat := (pieces l).map Pc.at_ ++ [l.length]
def leOf (k : Nat) : List Nat → Nat → Nat
  | [], a => a
  | x :: xs, a => leOf k xs (if x ≤ k then x else a)
def geOf (k : Nat) : List Nat → Nat → Nat
  | [], a => a
  | x :: xs, a => if k ≤ x then x else geOf k xs a
theorem leOf_append (k : Nat) : ∀ (xs ys : List Nat) (a : Nat), leOf k (xs ++ ys) a = leOf k ys (leOf k xs a)
  | [], ys, a => rfl
  | x :: xs, ys, a => leOf_append k xs ys _
theorem leOf_above (k : Nat) : ∀ (xs : List Nat) (a : Nat), (∀ x ∈ xs, k < x) → leOf k xs a = a
  | [], a, _ => rfl
  | x :: xs, a, h => by
    have := h x List.mem_cons_self
    rw [leOf, if_neg (by omega)]
    exact leOf_above k xs a fun y hy => h y (List.mem_cons_of_mem _ hy)
theorem geOf_append (k : Nat) : ∀ (xs ys : List Nat) (a : Nat), (∀ x ∈ xs, x < k) → geOf k (xs ++ ys) a = geOf k ys a
  | [], ys, a, _ => rfl
  | x :: xs, ys, a, h => by
    have := h x List.mem_cons_self
    rw [List.cons_append, geOf, if_neg (by omega)]
    exact geOf_append k xs ys a fun y hy => h y (List.mem_cons_of_mem _ hy)
theorem ends_parts {l : List UInt8} {k : Nat} (h : Reach l k) (hk : k < l.length) : ∃ A B, endsOf l = A ++ k :: (k + (readP l k).w) :: B ∧ (∀ x ∈ A, x < k) ∧ (∀ x ∈ B, k + (readP l k).w < x) := by
  obtain ⟨pre, e, g1, g2⟩ := reach_parts h
  have hw := readP_w hk
  by_cases he : k + (readP l k).w < l.length
  · refine ⟨pre.map Pc.at_, (from_ l (k + (readP l k).w + (readP l (k + (readP l k).w)).w)).map Pc.at_ ++ [l.length], ?_, ?_, ?_⟩
    · rw [endsOf, e, from_cons hk, from_cons he]
      simp [readP_at]
    · intro x hx
      obtain ⟨q, hq, rfl⟩ := List.mem_map.1 hx
      rcases g1 q hq with g | g
      · exact g
      · omega
    · intro x hx
      have hw2 := readP_w he
      rcases List.mem_append.1 hx with hx | hx
      · obtain ⟨q, hq, rfl⟩ := List.mem_map.1 hx
        obtain ⟨a, b, e2⟩ := List.append_of_mem hq
        have := (from_split l l.length _ (by omega) a q b e2).1
        omega
      · rw [List.mem_singleton.1 hx]; exact he
  · have he2 : k + (readP l k).w = l.length := by omega
    refine ⟨pre.map Pc.at_, [], ?_, ?_, by simp⟩
    · rw [endsOf, e, from_cons hk, from_nil he]
      simp [readP_at, he2]
    · intro x hx
      obtain ⟨q, hq, rfl⟩ := List.mem_map.1 hx
      rcases g1 q hq with g | g
      · exact g
      · omega
theorem around_within {l : List UInt8} {k i : Nat} (hk : k ≤ l.length) (h : Within l k i) : leOf k (endsOf l) 0 = i ∧ geOf k (endsOf l) 0 = i + (readP l i).w := by
  obtain ⟨hr, hi, _, _⟩ := within_reach hk h
  obtain ⟨h1, h2, _⟩ := h
  obtain ⟨A, B, e, hA, hB⟩ := ends_parts hr hi
  rw [e]
  constructor
  · rw [leOf_append, leOf, if_pos (by omega), leOf, if_neg (by omega)]
    exact leOf_above k B i fun x hx => by have := hB x hx; omega
  · rw [geOf_append k A _ _ (fun x hx => by have := hA x hx; omega), geOf, if_neg (by omega), geOf, if_pos (by omega)]
theorem around_bound {l : List UInt8} {k : Nat} (hk : k ≤ l.length) (h : ¬ ∃ i, Within l k i) : leOf k (endsOf l) 0 = k ∧ geOf k (endsOf l) 0 = k := by
  have h' : k = l.length ∨ Reach l k := Classical.byContradiction fun hn => h ((within_iff hk).2 hn)
  by_cases e : k = l.length
  · subst e
    constructor
    · rw [endsOf, leOf_append, leOf, if_pos (Nat.le_refl _)]; rfl
    · rw [endsOf, geOf_append _ _ _ _ (fun x hx => ?_), geOf, if_pos (Nat.le_refl _)]
      obtain ⟨q, hq, rfl⟩ := List.mem_map.1 hx
      exact (reach_of_mem hq).2.1
  · have hr : Reach l k := h'.resolve_left e
    have hw := readP_w (l := l) (k := k) (by omega)
    obtain ⟨A, B, e, hA, hB⟩ := ends_parts hr (by omega)
    rw [e]
    constructor
    · rw [leOf_append, leOf, if_pos (Nat.le_refl _), leOf, if_neg (by omega)]
      exact leOf_above k B k fun x hx => by have := hB x hx; omega
    · rw [geOf_append k A _ _ (fun x hx => hA x hx), geOf, if_pos (Nat.le_refl _)]
theorem mem_ends {l : List UInt8} {k : Nat} (hk : k ≤ l.length) : k ∈ endsOf l ↔ ¬ ∃ i, Within l k i := by
  rw [within_iff hk, Classical.not_not, endsOf, List.mem_append, List.mem_singleton]
  constructor
  · rintro (h | h)
    · obtain ⟨q, hq, rfl⟩ := List.mem_map.1 h
      exact .inr (reach_of_mem hq).1
    · exact .inl h
  · rintro (h | h)
    · exact .inr h
    · rcases Nat.lt_or_ge k l.length with g | g
      · exact .inl (List.mem_map.2 ⟨_, reach_mem h g, readP_at l k⟩)
      · exact .inr (by omega)
theorem ends_le {l : List UInt8} {x : Nat} (h : x ∈ endsOf l) : x ≤ l.length := by
  rw [endsOf, List.mem_append, List.mem_singleton] at h
  rcases h with h | h
  · obtain ⟨q, hq, rfl⟩ := List.mem_map.1 h
    exact Nat.le_of_lt (reach_of_mem hq).2.1
  · omega
end Go.Eng

/-
  Plain facts: pieces of a text's beginning; a text's pieces as texts; from the end on. No condition.
-/
set_option linter.all false
namespace Go.Eng
open Go
theorem begins_take {l : List UInt8} {c n : Nat} (h : begins (l.take n) c) : begins l c := by
  obtain ⟨h1, h2⟩ := h
  simp only [List.length_take] at h1
  refine ⟨by omega, fun k hk => ?_⟩
  rw [← h2 k hk]
  simp only [nb, gb, List.getD_eq_getElem?_getD, List.length_take]
  rw [List.getElem?_take_of_lt (by omega)]
theorem begins_of_take {l : List UInt8} {c n : Nat} (h : begins l c) (hn : wd c ≤ n) : begins (l.take n) c := by
  obtain ⟨h1, h2⟩ := h
  refine ⟨by simp only [List.length_take]; omega, fun k hk => ?_⟩
  rw [← h2 k hk]
  simp only [nb, gb, List.getD_eq_getElem?_getD, List.length_take]
  rw [List.getElem?_take_of_lt (by omega)]
theorem read_take {l : List UInt8} {k n : Nat} (hk : k + (readP l k).w ≤ n) (hn : n ≤ l.length) (hkl : k < l.length) : readP (l.take n) k = readP l k := by
  have hw := readP_w hkl
  have hd : (l.take n).drop k = (l.drop k).take (n - k) := by rw [List.drop_take]
  have hlen : ((l.drop k).take (n - k)).length = n - k := by simp; omega
  have key : dl ((l.drop k).take (n - k)) = dl (l.drop k) := by
    rcases dl_cases (l.drop k) (by simp; omega) with ⟨h1, h2, h3⟩ | ⟨h1, h2⟩
    · have hwd : (readP l k).w = wd (dl (l.drop k)).1 := by rw [readP_w_eq, h2]
      rw [dl_of_begins h1 (begins_of_take h3 (by omega)), ← h2]
    · rw [h1]
      rcases dl_cases ((l.drop k).take (n - k)) (by omega) with ⟨g1, _, g3⟩ | ⟨g1, _⟩
      · exact absurd (begins_take g3) (h2 _ g1)
      · exact g1
  unfold readP
  rw [hd, key]
theorem from_take {l : List UInt8} {n : Nat} (hn : n ≤ l.length) : ∀ (pre : List Pc) (k : Nat), from_ l k = pre ++ from_ l n → k ≤ n → from_ (l.take n) k = pre
  | [], k, h, hk => by
    rcases Nat.lt_or_eq_of_le hk with hlt | rfl
    · exfalso
      simp only [List.nil_append] at h
      rw [from_cons (by omega)] at h
      by_cases hnl : n < l.length
      · rw [from_cons hnl] at h
        have := congrArg (fun x => (x.head?.map Pc.at_)) h
        simp only [List.head?_cons, Option.map_some, readP_at, Option.some.injEq] at this
        omega
      · rw [from_nil (k := n) hnl] at h; cases h
    · rw [from_nil (by simp; omega)]
  | p :: pre, k, h, hk => by
    have hkl : k < l.length := by
      rcases Nat.lt_or_ge k l.length with h1 | h1
      · exact h1
      · rw [from_nil (by omega)] at h; cases h
    rw [from_cons hkl, List.cons_append] at h
    simp only [List.cons.injEq] at h
    obtain ⟨rfl, h⟩ := h
    have hw := readP_w hkl
    have hle : k + (readP l k).w ≤ n := by
      rcases Nat.lt_or_ge n (k + (readP l k).w) with hlt | hge
      · exfalso
        -- no piece behind k begins at n
        rcases Nat.lt_or_eq_of_le hn with hnl | hnl
        · have hm : readP l n ∈ from_ l (k + (readP l k).w) := by rw [h, from_cons hnl]; exact List.mem_append_right _ List.mem_cons_self
          obtain ⟨A, B, e⟩ := List.append_of_mem hm
          have := (from_split l l.length _ (by omega) _ _ _ e).1
          rw [readP_at] at this; omega
        · omega
      · exact hge
    have hlt : k < (l.take n).length := by simp; omega
    rw [from_cons hlt, read_take hle hn hkl, from_take hn pre _ h hle]
theorem pieces_take {l : List UInt8} {n : Nat} {pre : List Pc} (hn : n ≤ l.length) (h : pieces l = pre ++ from_ l n) : pieces (l.take n) = pre := from_take hn pre 0 h (Nat.zero_le _)
/-- a piece's bytes -/
def txt (l : List UInt8) (p : Pc) : List UInt8 := (l.take (p.at_ + p.w)).drop p.at_
theorem txt_len (l : List UInt8) (p : Pc) : (txt l p).length ≤ p.w := by simp [txt]; omega
theorem mem_w {l : List UInt8} {p : Pc} (h : p ∈ pieces l) : p.at_ < l.length ∧ 1 ≤ p.w ∧ p.w ≤ 4 ∧ p.at_ + p.w ≤ l.length := by
  obtain ⟨_, h2, h3⟩ := reach_of_mem h
  have := readP_w h2
  rw [← h3] at this
  omega
def mendOf (l w : List UInt8) (ps : List Pc) : List UInt8 := ps.flatMap fun p => if p.b then w else txt l p
theorem mendOf_snoc (l w : List UInt8) (ps : List Pc) (p : Pc) : mendOf l w (ps ++ [p]) = mendOf l w ps ++ (if p.b then w else txt l p) := by simp [mendOf]
def textsOf (l : List UInt8) (ps : List Pc) : List UInt8 := ps.flatMap (txt l)
theorem textsOf_snoc (l : List UInt8) (ps : List Pc) (p : Pc) : textsOf l (ps ++ [p]) = textsOf l ps ++ txt l p := by simp [textsOf]
/-- where the first so many pieces end -/
def cutK (l : List UInt8) (n : Int) : Nat := if n ≤ 0 then 0 else (endsOf l).getD n.toNat l.length
end Go.Eng

/-
  Plain facts: the pieces so far are the text's beginning; places within a form. No condition.
-/
set_option linter.all false
namespace Go.Eng
open Go
theorem texts_from {l : List UInt8} {n : Nat} (hn : n ≤ l.length) : ∀ (pre : List Pc) (k : Nat), from_ l k = pre ++ from_ l n → k ≤ n → textsOf l pre = (l.take n).drop k
  | [], k, h, hk => by
    have e := from_take hn [] k h hk
    rcases Nat.lt_or_eq_of_le hk with hlt | rfl
    · rw [from_cons (by simp; omega)] at e; cases e
    · simp [textsOf]
  | p :: pre, k, h, hk => by
    have hkl : k < l.length := by
      rcases Nat.lt_or_ge k l.length with h1 | h1
      · exact h1
      · rw [from_nil (by omega)] at h; cases h
    have h0 := from_take hn (p :: pre) k h hk
    rw [from_cons hkl, List.cons_append] at h
    simp only [List.cons.injEq] at h
    obtain ⟨rfl, h⟩ := h
    have hw := readP_w hkl
    have hle : k + (readP l k).w ≤ n := by
      have hkn : k < (l.take n).length := by
        rcases Nat.lt_or_ge k (l.take n).length with g | g
        · exact g
        · rw [from_nil (by omega)] at h0; cases h0
      rw [from_cons hkn] at h0
      have h1 := readP_w hkn
      simp only [List.cons.injEq] at h0
      have h2 : (l.take n).length ≤ n := by simp; omega
      rw [h0.1] at h1
      omega
    have ih := texts_from hn pre _ h hle
    have e : textsOf l (readP l k :: pre) = txt l (readP l k) ++ textsOf l pre := by simp [textsOf]
    rw [e, ih, txt, readP_at]
    have h3 : (l.take n).drop k = ((l.take n).take (k + (readP l k).w)).drop k ++ (l.take n).drop (k + (readP l k).w) := by
      rw [← List.take_append_drop (k + (readP l k).w) (l.take n)]
      rw [List.drop_append_of_le_length (by simp; omega)]
      simp
    rw [h3, List.take_take, Nat.min_eq_left hle]
theorem texts_take {l : List UInt8} {n : Nat} {pre : List Pc} (hn : n ≤ l.length) (h : pieces l = pre ++ from_ l n) : textsOf l pre = l.take n := by
  have := texts_from hn pre 0 h (Nat.zero_le _)
  rwa [List.drop_zero] at this
theorem texts_all (l : List UInt8) : textsOf l (pieces l) = l := by
  have := texts_take (l := l) (pre := pieces l) (Nat.le_refl _) (by rw [from_nil (by omega), List.append_nil])
  rwa [List.take_length] at this
/-- a byte within a form begins no form -/
theorem within_broken {l : List UInt8} {k i : Nat} (hk : k < l.length) (h1 : k < i) (h2 : i < k + (readP l k).w) : readP l i = ⟨i, 1, 65533, true⟩ := by
  have hw := readP_w hk
  have hc : 128 ≤ gb (l.drop k) (i - k) ∧ gb (l.drop k) (i - k) < 192 := tail_cont (by simp; omega) (by omega) (by rw [← readP_w_eq]; omega)
  have hg : gb (l.drop k) (i - k) = gb (l.drop i) 0 := by
    simp only [gb, List.getD_eq_getElem?_getD, List.getElem?_drop]
    rw [show k + (i - k) = i by omega, Nat.add_zero]
  unfold readP
  by_cases hd : dl (l.drop i) = (65533, 1)
  · rw [if_pos hd]
  · exfalso
    have := head_lead (l := l.drop i) (by simp; omega) hd
    omega
end Go.Eng

/-
  Plain facts on the seam of two texts. No condition.
-/
set_option linter.all false
namespace Go.Eng
open Go
theorem nb_cont (l : List UInt8) (k : Nat) : (decide (k < l.length) && nb l k / 64 == 2) = (nb l k / 64 == 2) := by
  by_cases h : k < l.length
  · simp [h]
  · have : nb l k = 0 := by simp [nb, gb, List.getD_eq_getElem?_getD, List.getElem?_eq_none (Nat.le_of_not_lt h)]
    rw [this]; simp
/-- decoding looks at four bytes -/
theorem dl_nb {A B : List UInt8} (h : ∀ k, k < 4 → nb A k = nb B k) : dl A = dl B := by
  have h0 := h 0 (by omega)
  have h1 := h 1 (by omega)
  have h2 := h 2 (by omega)
  have h3 := h 3 (by omega)
  unfold dl
  simp only [nb_cont]
  simp only [h0, h1, h2, h3]
theorem nb_take {l : List UInt8} {n k : Nat} (h : k < n) : nb (l.take n) k = nb l k := by
  simp [nb, gb, List.getD_eq_getElem?_getD, List.getElem?_take_of_lt h]
/-- a cut of a text, and what is read there -/
theorem cut_read {L : List UInt8} {off n j : Nat} (h : j + 4 ≤ n) : (readP ((L.drop off).take n) j).w = (readP L (off + j)).w ∧ (readP ((L.drop off).take n) j).b = (readP L (off + j)).b := by
  have e : dl (((L.drop off).take n).drop j) = dl (L.drop (off + j)) := by
    refine dl_nb fun k hk => ?_
    rw [nb_drop, nb_take (by omega), nb_drop, nb_drop]
    congr 1; omega
  unfold readP
  rw [e]
  split <;> simp
theorem cut_within {L : List UInt8} {off n j k : Nat} (h : k + 3 ≤ n) (hj : j < k) : Within ((L.drop off).take n) k j ↔ Within L (off + k) (off + j) := by
  obtain ⟨h1, h2⟩ := cut_read (L := L) (off := off) (n := n) (j := j) (by omega)
  unfold Within
  rw [h1, h2]
  exact ⟨fun ⟨a, b, c⟩ => ⟨by omega, by omega, c⟩, fun ⟨a, b, c⟩ => ⟨by omega, by omega, c⟩⟩
/-- the text about a seam -/
def about (a b : List UInt8) : List UInt8 := a.drop (a.length - 3) ++ b.take 3
theorem about_eq (a b : List UInt8) : about a b = ((a ++ b).drop (a.length - 3)).take ((a.drop (a.length - 3)).length + 3) := by
  rw [about, List.drop_append_of_le_length (by omega), List.take_length_add_append]
theorem seam_yes {a b : List UInt8} {i : Nat} (h : Within (a ++ b) a.length i) : a.length - 3 ≤ i ∧ Within (about a b) (a.drop (a.length - 3)).length (i - (a.length - 3)) ∧
    (readP (about a b) (i - (a.length - 3))).w = (readP (a ++ b) i).w ∧ i < a.length ∧ i + (readP (a ++ b) i).w ≤ (a ++ b).length := by
  obtain ⟨h1, h2, h3, h4⟩ := within_reach (by simp) h
  have h5 := readP_w h2
  have hl : (a.drop (a.length - 3)).length = a.length - (a.length - 3) := by simp
  have hi := h.1
  have hb : a.length - 3 ≤ i := by omega
  refine ⟨hb, ?_, ?_, hi, h5.2.2⟩
  · rw [about_eq]
    refine (cut_within (by omega) (by omega)).2 ?_
    rw [show a.length - 3 + (a.drop (a.length - 3)).length = a.length by omega, show a.length - 3 + (i - (a.length - 3)) = i by omega]
    exact h
  · rw [about_eq, (cut_read (by omega)).1, show a.length - 3 + (i - (a.length - 3)) = i by omega]
theorem seam_no {a b : List UInt8} (h : ¬ ∃ i, Within (a ++ b) a.length i) : ¬ ∃ j, Within (about a b) (a.drop (a.length - 3)).length j := by
  rintro ⟨j, hj⟩
  have hl : (a.drop (a.length - 3)).length = a.length - (a.length - 3) := by simp
  have hlt := hj.1
  rw [about_eq] at hj
  have := (cut_within (by omega) hlt).1 hj
  rw [show a.length - 3 + (a.drop (a.length - 3)).length = a.length by omega] at this
  exact h ⟨_, this⟩
/-- a piece over a place is a form that the place is within -/
theorem over_within {L : List UInt8} {k : Nat} {p : Pc} (hp : p ∈ pieces L) (h1 : p.at_ < k) (h2 : k < p.at_ + p.w) : Within L k p.at_ := by
  obtain ⟨_, _, h⟩ := reach_of_mem hp
  refine ⟨h1, by rw [← h]; exact h2, ?_⟩
  rw [← h]
  cases hb : p.b with
  | false => rfl
  | true =>
    rw [h] at hb
    have := readP_b hb
    rw [← h] at this
    omega
end Go.Eng

/-
  Plain facts on the ends of texts that begin forms. No condition.
-/
set_option linter.all false
namespace Go.Eng
open Go
/-- how many bytes a form has whose first byte this is; 0: none has -/
def ldN (c : Nat) : Nat := if c < 194 ∨ 244 < c then 0 else if c < 224 then 2 else if c < 240 then 3 else 4
theorem ldN_le (c : Nat) : ldN c ≤ 4 := by unfold ldN; split <;> (try split) <;> (try split) <;> omega
def loN (c : Nat) : Nat := if c = 224 then 160 else if c = 240 then 144 else 128
def hiN (c : Nat) : Nat := if c = 237 then 159 else if c = 244 then 143 else 191
/-- a beginning of a form, and no more -/
def begOk (b : List UInt8) : Prop := b.length < ldN (nb b 0) ∧ (1 < b.length → loN (nb b 0) ≤ nb b 1 ∧ nb b 1 ≤ hiN (nb b 0)) ∧ (2 < b.length → 128 ≤ nb b 2 ∧ nb b 2 ≤ 191)
instance (b : List UInt8) : Decidable (begOk b) := by unfold begOk; infer_instance
def lackOf (b : List UInt8) : Nat := if begOk b then ldN (nb b 0) - b.length else 0
theorem nb_pad {b : List UInt8} {n : Nat} {c : UInt8} {k : Nat} : nb (b ++ List.replicate n c) k = if k < b.length then nb b k else if k < b.length + n then c.toNat else 0 := by
  simp only [nb, gb, List.getD_eq_getElem?_getD]
  by_cases h : k < b.length
  · rw [List.getElem?_append_left h, if_pos h]
  · rw [List.getElem?_append_right (by omega), if_neg h]
    by_cases h2 : k < b.length + n
    · rw [if_pos h2, List.getElem?_replicate, if_pos (by omega)]; rfl
    · rw [if_neg h2, List.getElem?_replicate, if_neg (by omega)]; rfl
def refN (c : Nat) : Nat := if 240 ≤ c then 4 else if 224 ≤ c then 3 else if 192 ≤ c then 2 else 0
theorem nb_lt (l : List UInt8) (k : Nat) : nb l k < 256 := gb_lt l k
theorem valid_false {c : Nat} : Utf8.valid (c : Int) = false ↔ ¬ okr c := by rw [← valid_nat]; simp
theorem dl_two (l : List UInt8) : (dl l).2 = 2 ↔ nb l 0 / 32 = 6 ∧ nb l 1 / 64 = 2 ∧ 128 ≤ (nb l 0 % 32) * 64 + nb l 1 % 64 := by
  have h0 := nb_lt l 0
  unfold dl
  simp only [nb_cont, Bool.and_eq_true, beq_iff_eq, ge_iff_le, decide_eq_true_eq]
  repeat' split
  all_goals first | exact ⟨fun _ => by omega, fun _ => rfl⟩ | exact ⟨fun h => absurd h (by simp), fun h => by omega⟩
theorem dl_three (l : List UInt8) : (dl l).2 = 3 ↔ nb l 0 / 16 = 14 ∧ nb l 1 / 64 = 2 ∧ nb l 2 / 64 = 2 ∧ 2048 ≤ (nb l 0 % 16) * 4096 + (nb l 1 % 64) * 64 + nb l 2 % 64 ∧ okr ((nb l 0 % 16) * 4096 + (nb l 1 % 64) * 64 + nb l 2 % 64) := by
  have h0 := nb_lt l 0
  unfold dl
  simp only [nb_cont, Bool.and_eq_true, beq_iff_eq, ge_iff_le, decide_eq_true_eq, valid_nat, okr]
  repeat' split
  all_goals first | exact ⟨fun _ => by omega, fun _ => rfl⟩ | exact ⟨fun h => absurd h (by simp), fun h => by omega⟩
theorem dl_four (l : List UInt8) : (dl l).2 = 4 ↔ nb l 0 / 8 = 30 ∧ nb l 1 / 64 = 2 ∧ nb l 2 / 64 = 2 ∧ nb l 3 / 64 = 2 ∧ 65536 ≤ (nb l 0 % 8) * 262144 + (nb l 1 % 64) * 4096 + (nb l 2 % 64) * 64 + nb l 3 % 64 ∧ okr ((nb l 0 % 8) * 262144 + (nb l 1 % 64) * 4096 + (nb l 2 % 64) * 64 + nb l 3 % 64) := by
  have h0 := nb_lt l 0
  unfold dl
  simp only [nb_cont, Bool.and_eq_true, beq_iff_eq, ge_iff_le, decide_eq_true_eq, valid_nat, okr]
  repeat' split
  all_goals first | exact ⟨fun _ => by omega, fun _ => rfl⟩ | exact ⟨fun h => absurd h (by simp), fun h => by omega⟩
def padded (b : List UInt8) (c : UInt8) : List UInt8 := b ++ List.replicate (refN (nb b 0) - b.length) c
set_option maxRecDepth 100000 in
theorem pad_iff {b : List UInt8} (h0 : 0 < b.length) (h : b.length < refN (nb b 0)) : begOk b ↔ (dl (padded b 128)).2 = refN (nb b 0) ∨ (dl (padded b 191)).2 = refN (nb b 0) := by
  have g0 := nb_lt b 0
  have g1 := nb_lt b 1
  have g2 := nb_lt b 2
  have hp : ∀ c k, k < refN (nb b 0) → nb (padded b c) k = if k < b.length then nb b k else c.toNat := fun c k hk => by
    rw [padded, nb_pad]
    by_cases h1 : k < b.length
    · rw [if_pos h1, if_pos h1]
    · rw [if_neg h1, if_neg h1, if_pos (by omega)]
  have e1 : (128 : UInt8).toNat = 128 := rfl
  have e2 : (191 : UInt8).toNat = 191 := rfl
  unfold begOk
  have hr : refN (nb b 0) = 2 ∧ 192 ≤ nb b 0 ∧ nb b 0 < 224 ∨ refN (nb b 0) = 3 ∧ 224 ≤ nb b 0 ∧ nb b 0 < 240 ∨ refN (nb b 0) = 4 ∧ 240 ≤ nb b 0 := by
    by_cases c1 : 240 ≤ nb b 0
    · exact .inr (.inr ⟨by simp [refN, c1], c1⟩)
    · by_cases c2 : 224 ≤ nb b 0
      · exact .inr (.inl ⟨by simp [refN, c1, c2], c2, by omega⟩)
      · by_cases c3 : 192 ≤ nb b 0
        · exact .inl ⟨by simp [refN, c1, c2, c3], c3, by omega⟩
        · simp [refN, c1, c2, c3] at h
  rcases hr with ⟨hr, k1, k2⟩ | ⟨hr, k1, k2⟩ | ⟨hr, k1⟩
  · rw [hr] at h hp ⊢
    rw [dl_two, dl_two, hp _ 0 (by omega), hp _ 1 (by omega), hp _ 0 (by omega), hp _ 1 (by omega)]
    have hb : b.length = 1 := by omega
    unfold ldN
    generalize nb b 0 = x at *
    by_cases q1 : x < 194
    · simp [hb, e1, e2, q1]; omega
    · simp [hb, e1, e2, q1, show ¬ 244 < x by omega, show x < 224 by omega]; omega
  · rw [hr] at h hp ⊢
    rw [dl_three, dl_three, hp _ 0 (by omega), hp _ 1 (by omega), hp _ 2 (by omega), hp _ 0 (by omega), hp _ 1 (by omega), hp _ 2 (by omega)]
    have q0 : ldN (nb b 0) = 3 := by unfold ldN; rw [if_neg (by omega), if_neg (by omega), if_pos (by omega)]
    rw [q0]
    unfold okr loN hiN
    generalize nb b 0 = x at *
    generalize nb b 1 = y at *
    rcases (show b.length = 1 ∨ b.length = 2 by omega) with hb | hb
    · simp [hb, e1, e2]; omega
    · by_cases q1 : x = 224
      · subst q1; simp [hb, e1, e2]; omega
      · by_cases q2 : x = 237
        · subst q2; simp [hb, e1, e2]; omega
        · simp [hb, e1, e2, q1, q2, show ¬ x = 240 by omega, show ¬ x = 244 by omega]; omega
  · rw [hr] at h hp ⊢
    rw [dl_four, dl_four, hp _ 0 (by omega), hp _ 1 (by omega), hp _ 2 (by omega), hp _ 3 (by omega), hp _ 0 (by omega), hp _ 1 (by omega), hp _ 2 (by omega), hp _ 3 (by omega)]
    unfold okr loN hiN ldN
    generalize nb b 0 = x at *
    generalize nb b 1 = y at *
    generalize nb b 2 = z at *
    rcases (show b.length = 1 ∨ b.length = 2 ∨ b.length = 3 by omega) with hb | hb | hb
    all_goals
      by_cases q3 : 244 < x
      · simp [hb, e1, e2, q3]; omega
      · by_cases q1 : x = 240
        · subst q1; simp [hb, e1, e2]; try omega
        · by_cases q2 : x = 244
          · subst q2; simp [hb, e1, e2]; try omega
          · simp [hb, e1, e2, q1, q2, q3, show ¬ x < 194 by omega, show ¬ x < 224 by omega, show ¬ x < 240 by omega, show ¬ x = 224 by omega, show ¬ x = 237 by omega]; omega
theorem beg_refN {b : List UInt8} (h : begOk b) : ldN (nb b 0) = refN (nb b 0) ∧ b.length < refN (nb b 0) := by
  have h1 := h.1
  have : ldN (nb b 0) = refN (nb b 0) := by
    unfold ldN refN at *
    split at h1
    · omega
    · repeat' split
      all_goals omega
  exact ⟨this, by omega⟩
theorem lack_pad {b : List UInt8} (h0 : 0 < b.length) (h : b.length < refN (nb b 0)) : lackOf b = if (dl (padded b 128)).2 = refN (nb b 0) ∨ (dl (padded b 191)).2 = refN (nb b 0) then refN (nb b 0) - b.length else 0 := by
  have h1 := pad_iff h0 h
  unfold lackOf
  by_cases hb : begOk b
  · rw [if_pos hb, if_pos (h1.1 hb), (beg_refN hb).1]
  · rw [if_neg hb, if_neg (fun h => hb (h1.2 h))]
theorem lack_long {b : List UInt8} (h : ¬ b.length < refN (nb b 0)) : lackOf b = 0 := by
  unfold lackOf
  rw [if_neg (fun hb => h (beg_refN hb).2)]
/-- the end of a text that begins a form: how many bytes, how many lack -/
def begunK (l : List UInt8) : Nat → Nat × Nat
  | 0 => (0, 0)
  | f + 1 => let k := 3 - f; if l.length < k then (0, 0) else if begOk (l.drop (l.length - k)) then (k, lackOf (l.drop (l.length - k))) else begunK l f
def begunOf (l : List UInt8) : Nat × Nat := begunK l 3
theorem begun_yes {l : List UInt8} {k : Nat} (h1 : 1 ≤ k) (h3 : k ≤ 3) (hk : k ≤ l.length) (h : begOk (l.drop (l.length - k))) : begunK l (4 - k) = (k, lackOf (l.drop (l.length - k))) := by
  rw [show 4 - k = (3 - k) + 1 by omega, begunK, show 3 - (3 - k) = k by omega]
  rw [if_neg (by omega), if_pos h]
theorem begun_next {l : List UInt8} {k : Nat} (h1 : 1 ≤ k) (h3 : k ≤ 3) (hk : k ≤ l.length) (h : ¬ begOk (l.drop (l.length - k))) : begunK l (4 - k) = begunK l (4 - (k + 1)) := by
  rw [show 4 - k = (3 - k) + 1 by omega, begunK, show 3 - (3 - k) = k by omega]
  rw [if_neg (by omega), if_neg h]
  rw [show 4 - (k + 1) = 3 - k by omega]
theorem begun_end {l : List UInt8} {k : Nat} (h1 : 1 ≤ k) (h : k ≤ 3 → l.length < k) : begunK l (4 - k) = (0, 0) := by
  by_cases h3 : k ≤ 3
  · rw [show 4 - k = (3 - k) + 1 by omega, begunK, show 3 - (3 - k) = k by omega]
    rw [if_pos (h h3)]
  · rw [show 4 - k = 0 by omega, begunK]
theorem lack_pos {b : List UInt8} : 0 < lackOf b ↔ begOk b := by
  unfold lackOf
  by_cases h : begOk b
  · rw [if_pos h]; have := h.1; exact ⟨fun _ => h, fun _ => by omega⟩
  · rw [if_neg h]; exact ⟨fun h => by omega, fun h' => absurd h' h⟩
theorem begunK_bound (l : List UInt8) : ∀ f, f ≤ 3 → (begunK l f).1 ≤ 3 ∧ (begunK l f).1 ≤ l.length ∧ (begunK l f).2 ≤ 4
  | 0, _ => ⟨by simp [begunK], by simp [begunK], by simp [begunK]⟩
  | f + 1, h => by
    rw [begunK]
    by_cases h1 : l.length < 3 - f
    · rw [if_pos h1]; simp
    · rw [if_neg h1]
      by_cases h2 : begOk (l.drop (l.length - (3 - f)))
      · rw [if_pos h2]
        refine ⟨by simp only []; omega, by simp only []; omega, ?_⟩
        simp only [lackOf]
        rw [if_pos h2]
        have : ldN (nb (l.drop (l.length - (3 - f))) 0) ≤ 4 := ldN_le _
        omega
      · rw [if_neg h2]; exact begunK_bound l f (by omega)
end Go.Eng

/-
  The walks of Seam, and of the reference's. No condition.
-/
namespace Go.Proofs.Ytdmdabjaboigcaa
open Go Go.Eng
set_option maxRecDepth 100000
set_option maxHeartbeats 4000000
set_option linter.all false
attribute [local irreducible] WL WC WQ QFun QLoop Does Q1 QRound QAssign Go.Addr.add
theorem within_is {l : List UInt8} {z : Int} {k i : Nat} {p : Pc} (hz : z = (k : Int)) (hl : l.length ≤ 9223372036854775804) (hk : k ≤ l.length) (h : Within l k i) (hp : readP l i = p) (w0 : World) (m : Mem) (H : SHeap) :
    Does Try.prog 70 #[str l, .int .i64 z] w0 m H (Gives (.tuple #[p.v, .bool true]) m H) := by subst hz; subst hp; exact within_yes l k i hl hk h w0 m H
theorem sq_R30_1 {G : Prop} (h : G := by (repeat (first | (refine sp ?_; (repeat intro zzc)) | (refine iF 70 rfl ?_; refine w_callG Try.func70 ?_ (hs := within_is (by (first | with_reducible exact natz _ | with_reducible exact natz0 | with_reducible exact natz1 | with_reducible exact natz2 | with_reducible exact natz3 | with_reducible exact natz4 | with_reducible exact natz8 | (apply natz_add; (· first | with_reducible exact natz _ | with_reducible exact natz0 | with_reducible exact natz1 | with_reducible exact natz2 | with_reducible exact natz3 | with_reducible exact natz4 | with_reducible exact natz8); (· first | with_reducible exact natz _ | with_reducible exact natz0 | with_reducible exact natz1 | with_reducible exact natz2 | with_reducible exact natz3 | with_reducible exact natz4 | with_reducible exact natz8)) | (apply natz_sub; (· first | with_reducible exact natz _ | with_reducible exact natz0 | with_reducible exact natz1 | with_reducible exact natz2 | with_reducible exact natz3 | with_reducible exact natz4 | with_reducible exact natz8); (· first | with_reducible exact natz _ | with_reducible exact natz0 | with_reducible exact natz1 | with_reducible exact natz2 | with_reducible exact natz3 | with_reducible exact natz4 | with_reducible exact natz8); (· omega)) | exact (Int.toNat_of_nonneg (by omega)).symm)) (by omega) (by omega) (by assumption) (by assumption) _ _ _)) | (refine iF 70 rfl ?_; refine w_callG Try.func70 ?_ (hs := within_no_z _ _ (by (first | with_reducible exact natz _ | with_reducible exact natz0 | with_reducible exact natz1 | with_reducible exact natz2 | with_reducible exact natz3 | with_reducible exact natz4 | with_reducible exact natz8 | (apply natz_add; (· first | with_reducible exact natz _ | with_reducible exact natz0 | with_reducible exact natz1 | with_reducible exact natz2 | with_reducible exact natz3 | with_reducible exact natz4 | with_reducible exact natz8); (· first | with_reducible exact natz _ | with_reducible exact natz0 | with_reducible exact natz1 | with_reducible exact natz2 | with_reducible exact natz3 | with_reducible exact natz4 | with_reducible exact natz8)) | (apply natz_sub; (· first | with_reducible exact natz _ | with_reducible exact natz0 | with_reducible exact natz1 | with_reducible exact natz2 | with_reducible exact natz3 | with_reducible exact natz4 | with_reducible exact natz8); (· first | with_reducible exact natz _ | with_reducible exact natz0 | with_reducible exact natz1 | with_reducible exact natz2 | with_reducible exact natz3 | with_reducible exact natz4 | with_reducible exact natz8); (· omega)) | exact (Int.toNat_of_nonneg (by omega)).symm)) (by omega) (by omega) (by assumption) _ _ _)))); exact WQ.q1 rfl) : G := h
theorem st_R30_1 {G G' : Prop} (next : G') (h : Bx G' → G := by intro zzn; (first | ((refine st ?_; (repeat intro zzc)); (try ((first | (refine iF 70 rfl ?_; refine w_callG Try.func70 ?_ (hs := within_is (by (first | with_reducible exact natz _ | with_reducible exact natz0 | with_reducible exact natz1 | with_reducible exact natz2 | with_reducible exact natz3 | with_reducible exact natz4 | with_reducible exact natz8 | (apply natz_add; (· first | with_reducible exact natz _ | with_reducible exact natz0 | with_reducible exact natz1 | with_reducible exact natz2 | with_reducible exact natz3 | with_reducible exact natz4 | with_reducible exact natz8); (· first | with_reducible exact natz _ | with_reducible exact natz0 | with_reducible exact natz1 | with_reducible exact natz2 | with_reducible exact natz3 | with_reducible exact natz4 | with_reducible exact natz8)) | (apply natz_sub; (· first | with_reducible exact natz _ | with_reducible exact natz0 | with_reducible exact natz1 | with_reducible exact natz2 | with_reducible exact natz3 | with_reducible exact natz4 | with_reducible exact natz8); (· first | with_reducible exact natz _ | with_reducible exact natz0 | with_reducible exact natz1 | with_reducible exact natz2 | with_reducible exact natz3 | with_reducible exact natz4 | with_reducible exact natz8); (· omega)) | exact (Int.toNat_of_nonneg (by omega)).symm)) (by omega) (by omega) (by assumption) (by assumption) _ _ _)) | (refine iF 70 rfl ?_; refine w_callG Try.func70 ?_ (hs := within_no_z _ _ (by (first | with_reducible exact natz _ | with_reducible exact natz0 | with_reducible exact natz1 | with_reducible exact natz2 | with_reducible exact natz3 | with_reducible exact natz4 | with_reducible exact natz8 | (apply natz_add; (· first | with_reducible exact natz _ | with_reducible exact natz0 | with_reducible exact natz1 | with_reducible exact natz2 | with_reducible exact natz3 | with_reducible exact natz4 | with_reducible exact natz8); (· first | with_reducible exact natz _ | with_reducible exact natz0 | with_reducible exact natz1 | with_reducible exact natz2 | with_reducible exact natz3 | with_reducible exact natz4 | with_reducible exact natz8)) | (apply natz_sub; (· first | with_reducible exact natz _ | with_reducible exact natz0 | with_reducible exact natz1 | with_reducible exact natz2 | with_reducible exact natz3 | with_reducible exact natz4 | with_reducible exact natz8); (· first | with_reducible exact natz _ | with_reducible exact natz0 | with_reducible exact natz1 | with_reducible exact natz2 | with_reducible exact natz3 | with_reducible exact natz4 | with_reducible exact natz8); (· omega)) | exact (Int.toNat_of_nonneg (by omega)).symm)) (by omega) (by omega) (by assumption) _ _ _)) | ((refine iDraw ?_; (first | refine WC.drawAll rfl (by decide +kernel) ?_ | refine WC.draw 1 rfl (by decide +kernel) ?_ | refine WC.draw 2 rfl (by decide +kernel) ?_ | refine WC.draw 3 rfl (by decide +kernel) ?_ | refine WC.draw 4 rfl (by decide +kernel) ?_ | refine WC.draw 5 rfl (by decide +kernel) ?_ | refine WC.draw 6 rfl (by decide +kernel) ?_ | refine WC.draw 7 rfl (by decide +kernel) ?_ | refine WC.draw 8 rfl (by decide +kernel) ?_ | refine WC.draw 9 rfl (by decide +kernel) ?_ | refine WC.draw 10 rfl (by decide +kernel) ?_ | refine WC.draw 11 rfl (by decide +kernel) ?_ | refine WC.draw 12 rfl (by decide +kernel) ?_ | refine WC.draw 13 rfl (by decide +kernel) ?_ | refine WC.draw 14 rfl (by decide +kernel) ?_ | refine WC.draw 15 rfl (by decide +kernel) ?_ | refine WC.draw 16 rfl (by decide +kernel) ?_ | refine WC.draw 17 rfl (by decide +kernel) ?_ | refine WC.draw 18 rfl (by decide +kernel) ?_ | refine WC.draw 19 rfl (by decide +kernel) ?_ | refine WC.draw 20 rfl (by decide +kernel) ?_ | refine WC.draw 21 rfl (by decide +kernel) ?_ | refine WC.draw 22 rfl (by decide +kernel) ?_ | refine WC.draw 23 rfl (by decide +kernel) ?_ | refine WC.draw 24 rfl (by decide +kernel) ?_)); (repeat (refine WD.cons rfl (fun c h => by cases h) sq_R30_1 ?_)); refine WD.nil ?_)); (try (refine st ?_; (repeat intro zzc)))))) | ((first | (refine iF 70 rfl ?_; refine w_callG Try.func70 ?_ (hs := within_is (by (first | with_reducible exact natz _ | with_reducible exact natz0 | with_reducible exact natz1 | with_reducible exact natz2 | with_reducible exact natz3 | with_reducible exact natz4 | with_reducible exact natz8 | (apply natz_add; (· first | with_reducible exact natz _ | with_reducible exact natz0 | with_reducible exact natz1 | with_reducible exact natz2 | with_reducible exact natz3 | with_reducible exact natz4 | with_reducible exact natz8); (· first | with_reducible exact natz _ | with_reducible exact natz0 | with_reducible exact natz1 | with_reducible exact natz2 | with_reducible exact natz3 | with_reducible exact natz4 | with_reducible exact natz8)) | (apply natz_sub; (· first | with_reducible exact natz _ | with_reducible exact natz0 | with_reducible exact natz1 | with_reducible exact natz2 | with_reducible exact natz3 | with_reducible exact natz4 | with_reducible exact natz8); (· first | with_reducible exact natz _ | with_reducible exact natz0 | with_reducible exact natz1 | with_reducible exact natz2 | with_reducible exact natz3 | with_reducible exact natz4 | with_reducible exact natz8); (· omega)) | exact (Int.toNat_of_nonneg (by omega)).symm)) (by omega) (by omega) (by assumption) (by assumption) _ _ _)) | (refine iF 70 rfl ?_; refine w_callG Try.func70 ?_ (hs := within_no_z _ _ (by (first | with_reducible exact natz _ | with_reducible exact natz0 | with_reducible exact natz1 | with_reducible exact natz2 | with_reducible exact natz3 | with_reducible exact natz4 | with_reducible exact natz8 | (apply natz_add; (· first | with_reducible exact natz _ | with_reducible exact natz0 | with_reducible exact natz1 | with_reducible exact natz2 | with_reducible exact natz3 | with_reducible exact natz4 | with_reducible exact natz8); (· first | with_reducible exact natz _ | with_reducible exact natz0 | with_reducible exact natz1 | with_reducible exact natz2 | with_reducible exact natz3 | with_reducible exact natz4 | with_reducible exact natz8)) | (apply natz_sub; (· first | with_reducible exact natz _ | with_reducible exact natz0 | with_reducible exact natz1 | with_reducible exact natz2 | with_reducible exact natz3 | with_reducible exact natz4 | with_reducible exact natz8); (· first | with_reducible exact natz _ | with_reducible exact natz0 | with_reducible exact natz1 | with_reducible exact natz2 | with_reducible exact natz3 | with_reducible exact natz4 | with_reducible exact natz8); (· omega)) | exact (Int.toNat_of_nonneg (by omega)).symm)) (by omega) (by omega) (by assumption) _ _ _)) | ((refine iDraw ?_; (first | refine WC.drawAll rfl (by decide +kernel) ?_ | refine WC.draw 1 rfl (by decide +kernel) ?_ | refine WC.draw 2 rfl (by decide +kernel) ?_ | refine WC.draw 3 rfl (by decide +kernel) ?_ | refine WC.draw 4 rfl (by decide +kernel) ?_ | refine WC.draw 5 rfl (by decide +kernel) ?_ | refine WC.draw 6 rfl (by decide +kernel) ?_ | refine WC.draw 7 rfl (by decide +kernel) ?_ | refine WC.draw 8 rfl (by decide +kernel) ?_ | refine WC.draw 9 rfl (by decide +kernel) ?_ | refine WC.draw 10 rfl (by decide +kernel) ?_ | refine WC.draw 11 rfl (by decide +kernel) ?_ | refine WC.draw 12 rfl (by decide +kernel) ?_ | refine WC.draw 13 rfl (by decide +kernel) ?_ | refine WC.draw 14 rfl (by decide +kernel) ?_ | refine WC.draw 15 rfl (by decide +kernel) ?_ | refine WC.draw 16 rfl (by decide +kernel) ?_ | refine WC.draw 17 rfl (by decide +kernel) ?_ | refine WC.draw 18 rfl (by decide +kernel) ?_ | refine WC.draw 19 rfl (by decide +kernel) ?_ | refine WC.draw 20 rfl (by decide +kernel) ?_ | refine WC.draw 21 rfl (by decide +kernel) ?_ | refine WC.draw 22 rfl (by decide +kernel) ?_ | refine WC.draw 23 rfl (by decide +kernel) ?_ | refine WC.draw 24 rfl (by decide +kernel) ?_)); (repeat (refine WD.cons rfl (fun c h => by cases h) sq_R30_1 ?_)); refine WD.nil ?_)); (try (refine st ?_; (repeat intro zzc))))); (repeat ((first | (refine iF 70 rfl ?_; refine w_callG Try.func70 ?_ (hs := within_is (by (first | with_reducible exact natz _ | with_reducible exact natz0 | with_reducible exact natz1 | with_reducible exact natz2 | with_reducible exact natz3 | with_reducible exact natz4 | with_reducible exact natz8 | (apply natz_add; (· first | with_reducible exact natz _ | with_reducible exact natz0 | with_reducible exact natz1 | with_reducible exact natz2 | with_reducible exact natz3 | with_reducible exact natz4 | with_reducible exact natz8); (· first | with_reducible exact natz _ | with_reducible exact natz0 | with_reducible exact natz1 | with_reducible exact natz2 | with_reducible exact natz3 | with_reducible exact natz4 | with_reducible exact natz8)) | (apply natz_sub; (· first | with_reducible exact natz _ | with_reducible exact natz0 | with_reducible exact natz1 | with_reducible exact natz2 | with_reducible exact natz3 | with_reducible exact natz4 | with_reducible exact natz8); (· first | with_reducible exact natz _ | with_reducible exact natz0 | with_reducible exact natz1 | with_reducible exact natz2 | with_reducible exact natz3 | with_reducible exact natz4 | with_reducible exact natz8); (· omega)) | exact (Int.toNat_of_nonneg (by omega)).symm)) (by omega) (by omega) (by assumption) (by assumption) _ _ _)) | (refine iF 70 rfl ?_; refine w_callG Try.func70 ?_ (hs := within_no_z _ _ (by (first | with_reducible exact natz _ | with_reducible exact natz0 | with_reducible exact natz1 | with_reducible exact natz2 | with_reducible exact natz3 | with_reducible exact natz4 | with_reducible exact natz8 | (apply natz_add; (· first | with_reducible exact natz _ | with_reducible exact natz0 | with_reducible exact natz1 | with_reducible exact natz2 | with_reducible exact natz3 | with_reducible exact natz4 | with_reducible exact natz8); (· first | with_reducible exact natz _ | with_reducible exact natz0 | with_reducible exact natz1 | with_reducible exact natz2 | with_reducible exact natz3 | with_reducible exact natz4 | with_reducible exact natz8)) | (apply natz_sub; (· first | with_reducible exact natz _ | with_reducible exact natz0 | with_reducible exact natz1 | with_reducible exact natz2 | with_reducible exact natz3 | with_reducible exact natz4 | with_reducible exact natz8); (· first | with_reducible exact natz _ | with_reducible exact natz0 | with_reducible exact natz1 | with_reducible exact natz2 | with_reducible exact natz3 | with_reducible exact natz4 | with_reducible exact natz8); (· omega)) | exact (Int.toNat_of_nonneg (by omega)).symm)) (by omega) (by omega) (by assumption) _ _ _)) | ((refine iDraw ?_; (first | refine WC.drawAll rfl (by decide +kernel) ?_ | refine WC.draw 1 rfl (by decide +kernel) ?_ | refine WC.draw 2 rfl (by decide +kernel) ?_ | refine WC.draw 3 rfl (by decide +kernel) ?_ | refine WC.draw 4 rfl (by decide +kernel) ?_ | refine WC.draw 5 rfl (by decide +kernel) ?_ | refine WC.draw 6 rfl (by decide +kernel) ?_ | refine WC.draw 7 rfl (by decide +kernel) ?_ | refine WC.draw 8 rfl (by decide +kernel) ?_ | refine WC.draw 9 rfl (by decide +kernel) ?_ | refine WC.draw 10 rfl (by decide +kernel) ?_ | refine WC.draw 11 rfl (by decide +kernel) ?_ | refine WC.draw 12 rfl (by decide +kernel) ?_ | refine WC.draw 13 rfl (by decide +kernel) ?_ | refine WC.draw 14 rfl (by decide +kernel) ?_ | refine WC.draw 15 rfl (by decide +kernel) ?_ | refine WC.draw 16 rfl (by decide +kernel) ?_ | refine WC.draw 17 rfl (by decide +kernel) ?_ | refine WC.draw 18 rfl (by decide +kernel) ?_ | refine WC.draw 19 rfl (by decide +kernel) ?_ | refine WC.draw 20 rfl (by decide +kernel) ?_ | refine WC.draw 21 rfl (by decide +kernel) ?_ | refine WC.draw 22 rfl (by decide +kernel) ?_ | refine WC.draw 23 rfl (by decide +kernel) ?_ | refine WC.draw 24 rfl (by decide +kernel) ?_)); (repeat (refine WD.cons rfl (fun c h => by cases h) sq_R30_1 ?_)); refine WD.nil ?_)); (try (refine st ?_; (repeat intro zzc))))); (repeat revert zzc); exact zzn.out) : G := h ⟨next⟩
theorem seam_any_yes (a b : List UInt8) (i : Nat) (ha : a.length ≤ 1099511627776) (hb : b.length ≤ 1099511627776) (h : Within (a ++ b) a.length i) (w0 : World) (m : Mem) (H : SHeap) :
    Does Try.prog 55 #[str a, str b] w0 m H (Gives (.tuple #[spanV i (i + (readP (a ++ b) i).w), .bool true]) m H) := by
  refine Does.of_body (args := [str a, str b]) Try.func55 rfl Try.ntmps55 rfl ?_
  obtain ⟨h1, h2, h3, h4, h5⟩ := seam_yes h
  have hab : (a ++ b).length = a.length + b.length := by simp
  have e : b.take 3 = b.take (min b.length 3) := by rw [List.take_eq_take_iff]; omega
  rw [about, e] at h2 h3
  have hd : (a.drop (a.length - 3)).length = a.length - (a.length - 3) := by simp
  have ht : (b.take (min b.length 3)).length ≤ 3 := by simp; omega
  have hj : i - (a.length - 3) + (a.length - 3) = i := by omega
  have hat := readP_at (a.drop (a.length - 3) ++ b.take (min b.length 3)) (i - (a.length - 3))
  obtain ⟨p, hp⟩ : ∃ p, readP (a.drop (a.length - 3) ++ b.take (min b.length 3)) (i - (a.length - 3)) = p := ⟨_, rfl⟩
  rw [hp] at h3 hat
  have hal : (a.drop (a.length - 3) ++ b.take (min b.length 3)).length ≤ 6 := by rw [List.length_append]; omega
  have hal2 : (a.drop (a.length - 3)).length ≤ (a.drop (a.length - 3) ++ b.take (min b.length 3)).length := by rw [List.length_append]; omega
  have r1 : (max ((a.length : Int) - 3) 0).toNat = a.length - 3 := by omega
  have r2 : (min (b.length : Int) 3).toNat = min b.length 3 := by omega
  (try (refine st_R30_1 ?_; intros))
  rw [r1, r2]
  (try (refine st_R30_1 ?_; intros))
  (refine q_fin0 ?_)
  refine Gives.mk ?_
  have e1 : (a.length : Int) - ((a.drop (a.length - 3)).length : Int) + (p.at_ : Int) = (i : Int) := by omega
  rw [e1, spanV, ← h3]
theorem seam_any_no (a b : List UInt8) (ha : a.length ≤ 1099511627776) (hb : b.length ≤ 1099511627776) (h : ¬ ∃ i, Within (a ++ b) a.length i) (w0 : World) (m : Mem) (H : SHeap) :
    Does Try.prog 55 #[str a, str b] w0 m H (Gives (.tuple #[spanV 0 0, .bool false]) m H) := by
  refine Does.of_body (args := [str a, str b]) Try.func55 rfl Try.ntmps55 rfl ?_
  have h2 := seam_no h
  have e : b.take 3 = b.take (min b.length 3) := by rw [List.take_eq_take_iff]; omega
  rw [about, e] at h2
  have hd : (a.drop (a.length - 3)).length = a.length - (a.length - 3) := by simp
  have ht : (b.take (min b.length 3)).length ≤ 3 := by simp; omega
  have hal : (a.drop (a.length - 3) ++ b.take (min b.length 3)).length ≤ 6 := by rw [List.length_append]; omega
  have hal2 : (a.drop (a.length - 3)).length ≤ (a.drop (a.length - 3) ++ b.take (min b.length 3)).length := by rw [List.length_append]; omega
  have r1 : (max ((a.length : Int) - 3) 0).toNat = a.length - 3 := by omega
  have r2 : (min (b.length : Int) 3).toNat = min b.length 3 := by omega
  (try (refine st_R30_1 ?_; intros))
  rw [r1, r2]
  (try (refine st_R30_1 ?_; intros))
  (refine q_fin0 ?_)
  exact Gives.mk rfl
theorem refSeam_yes (a b : List UInt8) (i : Nat) (ha : a.length ≤ 1099511627776) (hb : b.length ≤ 1099511627776) (h : Within (a ++ b) a.length i) (w0 : World) (m : Mem) (H : SHeap) :
    Does Try.prog 56 #[str a, str b] w0 m H (Gives (.tuple #[spanV i (i + (readP (a ++ b) i).w), .bool true]) m H) := by
  refine Does.of_body (args := [str a, str b]) Try.func56 rfl Try.ntmps56 rfl ?_
  have hal : (a ++ b).length = a.length + b.length := by simp
  obtain ⟨hr, hi, _, _⟩ := within_reach (by omega) h
  have hm := reach_mem hr hi
  have hat := readP_at (a ++ b) i
  have hi1 := h.1
  have hi2 := h.2.1
  have hpl := pieces_length (a ++ b)
  have hml : ((pieces (a ++ b)).map Pc.cs).length = (pieces (a ++ b)).length := by simp
  (refine st_R30_1 ?_; intros; rename_i b4)
  refine w_callF Try.func19 ?_ (hs := refPieces_any _ (by omega) _ _ _)
  rintro _ m _ ⟨x0, cx, rfl, rfl, rfl⟩
  rw [hml]
  (try (refine st_R30_1 ?_; intros))
  refine WC.loopH [(13, .int .i64 ((0) : Int)), (12, .int .i64 ((pieces (a ++ b)).length : Int)), (11, .slice x0 (pieces (a ++ b)).length cx), (0, str a), (1, str b), (4, .pointer (some ⟨b4, 0, none⟩))] ?_ ?_ (fun j r ds m' H' => ∃ k, j = (pieces (a ++ b)).length - k ∧ r = [(13, .int .i64 (k : Int)), (12, .int .i64 ((pieces (a ++ b)).length : Int)), (11, .slice x0 (pieces (a ++ b)).length cx), (0, str a), (1, str b), (4, .pointer (some ⟨b4, 0, none⟩))] ∧ ds = [] ∧ m = m' ∧ H' = .row x0 cx 24 4 ((pieces (a ++ b)).map Pc.cs) :: .blk b4 (.cells [.int .i64 0, .int .i64 0].toArray 42 (0, 0)) :: H ∧ (k ≤ (pieces (a ++ b)).length) ∧ (∀ q ∈ (pieces (a ++ b)).take k, ¬ (q.at_ < a.length ∧ a.length < q.at_ + q.w))) ((pieces (a ++ b)).length - (0)) ⟨0, rfl, rfl, rfl, rfl, rfl, by omega, by simp⟩ ?_
  · (repeat (first | exact Env.Sub.nil | refine Env.Sub.cons rfl ?_))
  · exact (fun w h => Pick.sat (by iterate 60 (try (first | exact Pick.all | (apply Pick.take; (· (repeat (first | exact Out.here | apply Out.there)))) | apply Pick.drop))) h)
  rintro j r ds m' H' ⟨k, rfl, rfl, rfl, rfl, rfl, hk, hno⟩
  by_cases hlt : k < (pieces (a ++ b)).length
  · obtain ⟨x, hx, hget, htk, hmem, hdr⟩ := at_idx (f := Pc.cs) hlt
    have hxw := mem_w hmem
    refine WC.rowSome (a := x0) (by (repeat (first | exact List.Mem.head _ | apply List.Mem.tail))) (by omega) ?_
    rintro x1 rfl
    by_cases c1 : x.at_ < a.length
    · by_cases c2 : a.length < x.at_ + x.w
      · have hxi := within_unique (by omega) h (over_within hmem c1 c2)
        have hxr := (reach_of_mem hmem).2.2
        rw [← hxi] at hxr
        rw [← hxr]
        (try (refine st_R30_1 ?_; intros))
        (refine q_fin0 ?_)
        exact Gives.mk (by rw [spanV, hxi])
      · (try (refine st_R30_1 ?_; intros))
        refine WQ.next ((pieces (a ++ b)).length - (k + 1)) ⟨k + 1, rfl, rfl, rfl, rfl, rfl, ?_, ?_⟩ (by omega) (by (repeat (first | exact Env.Sub.nil | refine Env.Sub.cons rfl ?_))) (fun w h => Pick.sat (by iterate 60 (try (first | exact Pick.all | (apply Pick.take; (· (repeat (first | exact Out.here | apply Out.there)))) | apply Pick.drop))) h)
        · omega
        · rw [htk]; intro q hq; rcases List.mem_append.1 hq with h | h
          · exact hno q h
          · simp at h; subst h; omega
    · (try (refine st_R30_1 ?_; intros))
      refine WQ.next ((pieces (a ++ b)).length - (k + 1)) ⟨k + 1, rfl, rfl, rfl, rfl, rfl, ?_, ?_⟩ (by omega) (by (repeat (first | exact Env.Sub.nil | refine Env.Sub.cons rfl ?_))) (fun w h => Pick.sat (by iterate 60 (try (first | exact Pick.all | (apply Pick.take; (· (repeat (first | exact Out.here | apply Out.there)))) | apply Pick.drop))) h)
      · omega
      · rw [htk]; intro q hq; rcases List.mem_append.1 hq with h | h
        · exact hno q h
        · simp at h; subst h; omega
  · obtain rfl : k = (pieces (a ++ b)).length := by omega
    rw [List.take_length] at hno
    exact absurd ⟨by omega, by omega⟩ (hno _ hm)
theorem refSeam_no (a b : List UInt8) (ha : a.length ≤ 1099511627776) (hb : b.length ≤ 1099511627776) (h : ¬ ∃ i, Within (a ++ b) a.length i) (w0 : World) (m : Mem) (H : SHeap) :
    Does Try.prog 56 #[str a, str b] w0 m H (Gives (.tuple #[spanV 0 0, .bool false]) m H) := by
  refine Does.of_body (args := [str a, str b]) Try.func56 rfl Try.ntmps56 rfl ?_
  have hal : (a ++ b).length = a.length + b.length := by simp
  have hpl := pieces_length (a ++ b)
  have hml : ((pieces (a ++ b)).map Pc.cs).length = (pieces (a ++ b)).length := by simp
  (refine st_R30_1 ?_; intros; rename_i b4)
  refine w_callF Try.func19 ?_ (hs := refPieces_any _ (by omega) _ _ _)
  rintro _ m _ ⟨x0, cx, rfl, rfl, rfl⟩
  rw [hml]
  (try (refine st_R30_1 ?_; intros))
  refine WC.loopH [(13, .int .i64 ((0) : Int)), (12, .int .i64 ((pieces (a ++ b)).length : Int)), (11, .slice x0 (pieces (a ++ b)).length cx), (0, str a), (1, str b), (4, .pointer (some ⟨b4, 0, none⟩))] ?_ ?_ (fun j r ds m' H' => ∃ k, j = (pieces (a ++ b)).length - k ∧ r = [(13, .int .i64 (k : Int)), (12, .int .i64 ((pieces (a ++ b)).length : Int)), (11, .slice x0 (pieces (a ++ b)).length cx), (0, str a), (1, str b), (4, .pointer (some ⟨b4, 0, none⟩))] ∧ ds = [] ∧ m = m' ∧ H' = .row x0 cx 24 4 ((pieces (a ++ b)).map Pc.cs) :: .blk b4 (.cells [.int .i64 0, .int .i64 0].toArray 42 (0, 0)) :: H ∧ (k ≤ (pieces (a ++ b)).length)) ((pieces (a ++ b)).length - (0)) ⟨0, rfl, rfl, rfl, rfl, rfl, by omega⟩ ?_
  · (repeat (first | exact Env.Sub.nil | refine Env.Sub.cons rfl ?_))
  · exact (fun w h => Pick.sat (by iterate 60 (try (first | exact Pick.all | (apply Pick.take; (· (repeat (first | exact Out.here | apply Out.there)))) | apply Pick.drop))) h)
  rintro j r ds m' H' ⟨k, rfl, rfl, rfl, rfl, rfl, hk⟩
  by_cases hlt : k < (pieces (a ++ b)).length
  · obtain ⟨x, hx, hget, htk, hmem, hdr⟩ := at_idx (f := Pc.cs) hlt
    have hxw := mem_w hmem
    refine WC.rowSome (a := x0) (by (repeat (first | exact List.Mem.head _ | apply List.Mem.tail))) (by omega) ?_
    rintro x1 rfl
    by_cases c1 : x.at_ < a.length
    · have c2 : ¬ a.length < x.at_ + x.w := fun c2 => h ⟨_, over_within hmem c1 c2⟩
      (try (refine st_R30_1 ?_; intros))
      refine WQ.next ((pieces (a ++ b)).length - (k + 1)) ⟨k + 1, rfl, rfl, rfl, rfl, rfl, ?_⟩ (by omega) (by (repeat (first | exact Env.Sub.nil | refine Env.Sub.cons rfl ?_))) (fun w h => Pick.sat (by iterate 60 (try (first | exact Pick.all | (apply Pick.take; (· (repeat (first | exact Out.here | apply Out.there)))) | apply Pick.drop))) h)
      omega
    · (try (refine st_R30_1 ?_; intros))
      refine WQ.next ((pieces (a ++ b)).length - (k + 1)) ⟨k + 1, rfl, rfl, rfl, rfl, rfl, ?_⟩ (by omega) (by (repeat (first | exact Env.Sub.nil | refine Env.Sub.cons rfl ?_))) (fun w h => Pick.sat (by iterate 60 (try (first | exact Pick.all | (apply Pick.take; (· (repeat (first | exact Out.here | apply Out.there)))) | apply Pick.drop))) h)
      omega
  · (try (refine st_R30_1 ?_; intros))
    (refine q_fin0 ?_)
    exact Gives.mk rfl
end Go.Proofs.Ytdmdabjaboigcaa

/-
  The walks of package runes and of its reference, tenth part: the reference's boundaries. No condition.
-/
namespace Go.Proofs.Ytdmdabjaboigcaa
open Go Go.Eng
set_option maxRecDepth 100000
set_option maxHeartbeats 4000000
set_option linter.all false
attribute [local irreducible] WL WC WQ QFun QLoop Does Q1 QRound QAssign Go.Addr.add
def iV (k : Nat) : List Value := [.int .i64 (k : Int)]

theorem refEnds_any (l : List UInt8) (hl : l.length ≤ 5000000000000) (w0 : World) (m : Mem) (H : SHeap) :
    Does Try.prog 71 #[str l] w0 m H (MakesRow 3 1 ((endsOf l).map iV) m H) := by
  refine Does.of_body (args := [str l]) Try.func71 rfl Try.ntmps71 rfl ?_
  have hpl := pieces_length l
  (refine st ?_; intros; rename_i bk)
  refine w_callF Try.func19 ?_ (hs := refPieces_any _ hl _ _ _)
  rintro _ m H1 ⟨a, cap, rfl, rfl, rfl⟩
  (try (refine st ?_; intros))
  refine WC.pull (List.Perm.swap _ _ _) ?_
  refine WC.loopW [(10, .int .i64 0), (9, .int .i64 (((pieces l).map Pc.cs).length : Int)), (8, .slice a ((pieces l).map Pc.cs).length cap), (3, .slice (some ⟨bk, 0, none⟩) 0 0), (0, str l)] ?_
    (fun j r ds m' H' => ∃ i a3 cap3, j = (pieces l).length - i ∧ i ≤ (pieces l).length ∧ r = [(10, .int .i64 (i : Int)), (9, .int .i64 (((pieces l).map Pc.cs).length : Int)), (8, .slice a ((pieces l).map Pc.cs).length cap), (3, .slice a3 i cap3), (0, str l)] ∧ ds = [] ∧ m' = m ∧
      H' = .row a3 cap3 3 1 (((pieces l).take i).map fun p => iV p.at_) :: .row a cap 24 4 ((pieces l).map Pc.cs) :: H) (pieces l).length ⟨0, _, _, rfl, by omega, rfl, rfl, rfl, rfl⟩ ?_
  · (repeat (first | exact Env.Sub.nil | refine Env.Sub.cons rfl ?_))
  rintro j r ds m' H' ⟨i, a3, cap3, rfl, hi, rfl, rfl, rfl, rfl⟩
  have hpm : ((pieces l).map Pc.cs).length = (pieces l).length := by simp
  have htl : (((pieces l).take i).map fun p => iV p.at_).length = i := by simp; omega
  by_cases hlt : i < (pieces l).length
  · have hget : ((pieces l).map Pc.cs)[i]? = some ((pieces l)[i]).cs := by rw [List.getElem?_map, List.getElem?_eq_getElem hlt]; rfl
    generalize hp : (pieces l)[i] = p at hget
    refine WC.rowSome (a := a) (by (repeat (first | exact List.Mem.head _ | apply List.Mem.tail))) (by omega) ?_
    rintro a0 rfl
    (refine st ?_; intros; rename_i ak ck)
    refine WQ.next ((pieces l).length - (i + 1)) ⟨i + 1, ak, ck, rfl, by omega, rfl, rfl, rfl, rfl⟩ (by omega) ?_ ?_
    · rw [htl]
      (repeat (first | exact Env.Sub.nil | refine Env.Sub.cons rfl ?_))
    · rw [List.take_succ_eq_append_getElem hlt, hp, List.map_append]
      exact (fun w h => h.sublist (by repeat (first | exact List.Sublist.refl _ | apply List.Sublist.cons_cons | apply List.Sublist.cons)))
  · obtain rfl : i = (pieces l).length := by omega
    rw [List.take_length] at htl ⊢
    have he : (endsOf l).map iV = ((pieces l).map fun p => iV p.at_) ++ [[.int .i64 (l.length : Int)]] := by simp [endsOf, iV]
    rw [he]
    (refine st ?_; intros; rename_i ak ck)
    refine q_fin0 (H0 := .row ak ck 3 1 _ :: H) ⟨ak, ck, ?_, rfl, rfl⟩ (hd := (fun w h => h.sublist (by repeat (first | exact List.Sublist.refl _ | apply List.Sublist.cons_cons | apply List.Sublist.cons))))
    rw [List.length_append]; rfl
theorem ends_length (l : List UInt8) : (endsOf l).length ≤ l.length + 1 := by
  have := pieces_length l
  simp [endsOf]; omega
theorem refBound_any (l : List UInt8) (k : Int) (hl : l.length ≤ 5000000000000) (w0 : World) (m : Mem) (H : SHeap) :
    Does Try.prog 30 #[str l, .int .i64 k] w0 m H (Gives (.bool (dcd (∃ x ∈ endsOf l, (x : Int) = k))) m H) := by
  refine Does.of_body (args := [str l, .int .i64 k]) Try.func30 rfl Try.ntmps30 rfl ?_
  have hel := ends_length l
  have hem : ((endsOf l).map iV).length = (endsOf l).length := by simp
  (try (refine st ?_; intros))
  refine w_callF Try.func71 ?_ (hs := refEnds_any _ hl _ _ _)
  rintro _ m H1 ⟨a, cap, rfl, rfl, rfl⟩
  (try (refine st ?_; intros))
  refine WC.loopW [(10, .int .i64 0), (9, .int .i64 (((endsOf l).map iV).length : Int)), (8, .slice a ((endsOf l).map iV).length cap), (1, .int .i64 k)] ?_
    (fun j r ds m' H' => ∃ i, j = (endsOf l).length - i ∧ i ≤ (endsOf l).length ∧ r = [(10, .int .i64 (i : Int)), (9, .int .i64 (((endsOf l).map iV).length : Int)), (8, .slice a ((endsOf l).map iV).length cap), (1, .int .i64 k)] ∧ ds = [] ∧ m' = m ∧
      H' = .row a cap 3 1 ((endsOf l).map iV) :: H ∧ ∀ x ∈ (endsOf l).take i, ¬ (x : Int) = k) (endsOf l).length ⟨0, rfl, by omega, rfl, rfl, rfl, rfl, by simp⟩ ?_
  · (repeat (first | exact Env.Sub.nil | refine Env.Sub.cons rfl ?_))
  rintro j r ds m' H' ⟨i, rfl, hi, rfl, rfl, rfl, rfl, hno⟩
  by_cases hlt : i < (endsOf l).length
  · have hget : ((endsOf l).map iV)[i]? = some [.int .i64 (((endsOf l)[i] : Nat) : Int)] := by rw [List.getElem?_map, List.getElem?_eq_getElem hlt]; rfl
    have hmem : (endsOf l)[i] ∈ endsOf l := List.getElem_mem hlt
    have htk := List.take_succ_eq_append_getElem hlt
    generalize hp : (endsOf l)[i] = p at hget hmem htk
    refine WC.rowSome (a := a) (by (repeat (first | exact List.Mem.head _ | apply List.Mem.tail))) (by omega) ?_
    rintro a0 rfl
    (try (refine st ?_; intros))
    (first | refine c_ways (fun h1 => ?_) (fun h1 => ?_) | refine c_nways (fun h1 => ?_) (fun h1 => ?_) | refine w_gways (fun h1 => ?_) (fun h1 => ?_) | refine w_gnways (fun h1 => ?_) (fun h1 => ?_))
    · (try (refine st ?_; intros))
      (refine q_fin0 ?_)
      exact Gives.mk (vb_t ⟨p, hmem, h1⟩)
    · (try (refine st ?_; intros))
      refine WQ.next ((endsOf l).length - (i + 1)) ⟨i + 1, rfl, by omega, rfl, rfl, rfl, rfl, ?_⟩ (by omega) (by (repeat (first | exact Env.Sub.nil | refine Env.Sub.cons rfl ?_))) (fun w h => h)
      intro x hx
      rw [htk] at hx
      rcases List.mem_append.1 hx with hx | hx
      · exact hno x hx
      · rw [List.mem_singleton.1 hx]; exact h1
  · have hall : (endsOf l).take i = endsOf l := List.take_of_length_le (by omega)
    rw [hall] at hno
    (try (refine st ?_; intros))
    (refine q_fin0 ?_)
    exact Gives.mk (vb_f (fun ⟨x, h1, h2⟩ => hno x h1 h2))
end Go.Proofs.Ytdmdabjaboigcaa

/-
  Plain facts: the broken bytes of a text, its longest runs. No condition.
-/
set_option linter.all false
namespace Go.Eng
open Go
def brokenOf (ps : List Pc) : List Nat := (ps.filter fun p => p.b).map Pc.at_
theorem brokenOf_snoc (ps : List Pc) (p : Pc) : brokenOf (ps ++ [p]) = brokenOf ps ++ (if p.b then [p.at_] else []) := by
  unfold brokenOf; rw [List.filter_append, List.map_append]; cases hp : p.b <;> simp [hp]
theorem brokenOf_length (ps : List Pc) : (brokenOf ps).length ≤ ps.length := by
  unfold brokenOf; rw [List.length_map]; exact List.length_filter_le _ _
structure Pt where
  f : Nat
  t : Nat
  b : Bool
def Pt.cs (p : Pt) : List Value := [.int .i64 (p.f : Int), .int .i64 (p.t : Int), .bool p.b]
def addPart (acc : List Pt) (p : Pc) : List Pt := match acc.getLast? with
  | some q => if q.b = p.b then acc.set (acc.length - 1) ⟨q.f, p.at_ + p.w, q.b⟩ else acc ++ [⟨p.at_, p.at_ + p.w, p.b⟩]
  | none => acc ++ [⟨p.at_, p.at_ + p.w, p.b⟩]
def partsOf (ps : List Pc) : List Pt := ps.foldl addPart []
theorem partsOf_snoc (ps : List Pc) (p : Pc) : partsOf (ps ++ [p]) = addPart (partsOf ps) p := by simp [partsOf]
theorem addPart_nil (p : Pc) : addPart [] p = [⟨p.at_, p.at_ + p.w, p.b⟩] := rfl
theorem addPart_eq {acc : List Pt} {q : Pt} {p : Pc} (h : q.b = p.b) : addPart (acc ++ [q]) p = acc ++ [⟨q.f, p.at_ + p.w, q.b⟩] := by
  simp [addPart, h]
theorem addPart_ne {acc : List Pt} {q : Pt} {p : Pc} (h : ¬ q.b = p.b) : addPart (acc ++ [q]) p = acc ++ [q] ++ [⟨p.at_, p.at_ + p.w, p.b⟩] := by
  simp [addPart, h]
theorem addPart_length (acc : List Pt) (p : Pc) : (addPart acc p).length ≤ acc.length + 1 := by
  unfold addPart
  split
  · split
    · simp
    · simp
  · simp
theorem partsOf_length (ps : List Pc) : (partsOf ps).length ≤ ps.length := by
  have : ∀ (ps : List Pc) (acc : List Pt), (ps.foldl addPart acc).length ≤ acc.length + ps.length := by
    intro ps
    induction ps with
    | nil => intro acc; simp
    | cons p ps ih =>
      intro acc
      have h1 := ih (addPart acc p)
      have h2 := addPart_length acc p
      simp only [List.foldl_cons, List.length_cons]
      omega
  simpa [partsOf] using this ps []
theorem nil_or_snoc {α : Type} (l : List α) : l = [] ∨ ∃ ys q, l = ys ++ [q] := by
  rcases List.eq_nil_or_concat l with h | ⟨ys, q, h⟩
  · exact .inl h
  · exact .inr ⟨ys, q, by rw [h]; simp⟩
end Go.Eng

/-
  The walks of package runes, thirteenth part: Right, Broken, Parts. No condition.
-/
namespace Go.Proofs.Ytdmdabjaboigcaa
open Go Go.Eng
set_option maxRecDepth 100000
set_option maxHeartbeats 4000000
set_option linter.all false
attribute [local irreducible] WL WC WQ QFun QLoop Does Q1 QRound QAssign Go.Addr.add
theorem sq_R13_1 {G : Prop} (h : G := by (repeat (first | (refine sp ?_; (repeat intro zzc)) | (refine iF 21 rfl ?_; refine w_callG Try.func21 ?_ (hs := count_any _ (by omega) _ _ _)))); exact WQ.q1 rfl) : G := h
theorem st_R13_1 {G G' : Prop} (next : G') (h : Bx G' → G := by intro zzn; (first | ((refine st ?_; (repeat intro zzc)); (try ((first | (refine iF 21 rfl ?_; refine w_callG Try.func21 ?_ (hs := count_any _ (by omega) _ _ _)) | ((refine iDraw ?_; (first | refine WC.drawAll rfl (by decide +kernel) ?_ | refine WC.draw 1 rfl (by decide +kernel) ?_ | refine WC.draw 2 rfl (by decide +kernel) ?_ | refine WC.draw 3 rfl (by decide +kernel) ?_ | refine WC.draw 4 rfl (by decide +kernel) ?_ | refine WC.draw 5 rfl (by decide +kernel) ?_ | refine WC.draw 6 rfl (by decide +kernel) ?_ | refine WC.draw 7 rfl (by decide +kernel) ?_ | refine WC.draw 8 rfl (by decide +kernel) ?_ | refine WC.draw 9 rfl (by decide +kernel) ?_ | refine WC.draw 10 rfl (by decide +kernel) ?_ | refine WC.draw 11 rfl (by decide +kernel) ?_ | refine WC.draw 12 rfl (by decide +kernel) ?_ | refine WC.draw 13 rfl (by decide +kernel) ?_ | refine WC.draw 14 rfl (by decide +kernel) ?_ | refine WC.draw 15 rfl (by decide +kernel) ?_ | refine WC.draw 16 rfl (by decide +kernel) ?_ | refine WC.draw 17 rfl (by decide +kernel) ?_ | refine WC.draw 18 rfl (by decide +kernel) ?_ | refine WC.draw 19 rfl (by decide +kernel) ?_ | refine WC.draw 20 rfl (by decide +kernel) ?_ | refine WC.draw 21 rfl (by decide +kernel) ?_ | refine WC.draw 22 rfl (by decide +kernel) ?_ | refine WC.draw 23 rfl (by decide +kernel) ?_ | refine WC.draw 24 rfl (by decide +kernel) ?_)); (repeat (refine WD.cons rfl (fun c h => by cases h) sq_R13_1 ?_)); refine WD.nil ?_)); (try (refine st ?_; (repeat intro zzc)))))) | ((first | (refine iF 21 rfl ?_; refine w_callG Try.func21 ?_ (hs := count_any _ (by omega) _ _ _)) | ((refine iDraw ?_; (first | refine WC.drawAll rfl (by decide +kernel) ?_ | refine WC.draw 1 rfl (by decide +kernel) ?_ | refine WC.draw 2 rfl (by decide +kernel) ?_ | refine WC.draw 3 rfl (by decide +kernel) ?_ | refine WC.draw 4 rfl (by decide +kernel) ?_ | refine WC.draw 5 rfl (by decide +kernel) ?_ | refine WC.draw 6 rfl (by decide +kernel) ?_ | refine WC.draw 7 rfl (by decide +kernel) ?_ | refine WC.draw 8 rfl (by decide +kernel) ?_ | refine WC.draw 9 rfl (by decide +kernel) ?_ | refine WC.draw 10 rfl (by decide +kernel) ?_ | refine WC.draw 11 rfl (by decide +kernel) ?_ | refine WC.draw 12 rfl (by decide +kernel) ?_ | refine WC.draw 13 rfl (by decide +kernel) ?_ | refine WC.draw 14 rfl (by decide +kernel) ?_ | refine WC.draw 15 rfl (by decide +kernel) ?_ | refine WC.draw 16 rfl (by decide +kernel) ?_ | refine WC.draw 17 rfl (by decide +kernel) ?_ | refine WC.draw 18 rfl (by decide +kernel) ?_ | refine WC.draw 19 rfl (by decide +kernel) ?_ | refine WC.draw 20 rfl (by decide +kernel) ?_ | refine WC.draw 21 rfl (by decide +kernel) ?_ | refine WC.draw 22 rfl (by decide +kernel) ?_ | refine WC.draw 23 rfl (by decide +kernel) ?_ | refine WC.draw 24 rfl (by decide +kernel) ?_)); (repeat (refine WD.cons rfl (fun c h => by cases h) sq_R13_1 ?_)); refine WD.nil ?_)); (try (refine st ?_; (repeat intro zzc))))); (repeat ((first | (refine iF 21 rfl ?_; refine w_callG Try.func21 ?_ (hs := count_any _ (by omega) _ _ _)) | ((refine iDraw ?_; (first | refine WC.drawAll rfl (by decide +kernel) ?_ | refine WC.draw 1 rfl (by decide +kernel) ?_ | refine WC.draw 2 rfl (by decide +kernel) ?_ | refine WC.draw 3 rfl (by decide +kernel) ?_ | refine WC.draw 4 rfl (by decide +kernel) ?_ | refine WC.draw 5 rfl (by decide +kernel) ?_ | refine WC.draw 6 rfl (by decide +kernel) ?_ | refine WC.draw 7 rfl (by decide +kernel) ?_ | refine WC.draw 8 rfl (by decide +kernel) ?_ | refine WC.draw 9 rfl (by decide +kernel) ?_ | refine WC.draw 10 rfl (by decide +kernel) ?_ | refine WC.draw 11 rfl (by decide +kernel) ?_ | refine WC.draw 12 rfl (by decide +kernel) ?_ | refine WC.draw 13 rfl (by decide +kernel) ?_ | refine WC.draw 14 rfl (by decide +kernel) ?_ | refine WC.draw 15 rfl (by decide +kernel) ?_ | refine WC.draw 16 rfl (by decide +kernel) ?_ | refine WC.draw 17 rfl (by decide +kernel) ?_ | refine WC.draw 18 rfl (by decide +kernel) ?_ | refine WC.draw 19 rfl (by decide +kernel) ?_ | refine WC.draw 20 rfl (by decide +kernel) ?_ | refine WC.draw 21 rfl (by decide +kernel) ?_ | refine WC.draw 22 rfl (by decide +kernel) ?_ | refine WC.draw 23 rfl (by decide +kernel) ?_ | refine WC.draw 24 rfl (by decide +kernel) ?_)); (repeat (refine WD.cons rfl (fun c h => by cases h) sq_R13_1 ?_)); refine WD.nil ?_)); (try (refine st ?_; (repeat intro zzc))))); (repeat revert zzc); exact zzn.out) : G := h ⟨next⟩
theorem right_any (l : List UInt8) (hl : l.length ≤ 5000000000000) (w0 : World) (m : Mem) (H : SHeap) :
    Does Try.prog 22 #[str l] w0 m H (Gives (.bool (dcd ((nBroken (pieces l) : Int) = 0))) m H) := by
  refine Does.of_body (args := [str l]) Try.func22 rfl Try.ntmps22 rfl ?_
  (try (refine st_R13_1 ?_; intros))
  (refine q_fin0 ?_)
  exact Gives.mk rfl
theorem broken_any (l : List UInt8) (hl : l.length ≤ 5000000000000) (w0 : World) (m : Mem) (H : SHeap) :
    Does Try.prog 23 #[str l] w0 m H (MakesRow 3 1 ((brokenOf (pieces l)).map iV) m H) := by
  refine Does.of_body (args := [str l]) Try.func23 rfl Try.ntmps23 rfl ?_
  have hpl := pieces_length l
  (refine st_R13_1 ?_; intros; rename_i bl)
  refine w_callF Try.func38 ?_ (hs := pieces_any _ _ _ _)
  rintro _ m0 H0 ⟨b, rfl, rfl, rfl⟩
  (try (refine st_R13_1 ?_; intros))
  refine WC.persist (by (repeat (first | exact Out.here | apply Out.there))) ?_
  intro mp hle hb
  refine WC.newRow (T := 3) (sz := 1) ?_
  apply WC.rangeFunc (encs := fun p : Pc => [p.v]) (xs := pieces l) (Cap := TextAt b l) (lb := [.pointer (some ⟨b, 0, none⟩)]) (ps := [7])
    (J := fun pre m' Hl => ∃ a cap, Hl = [.row a cap 3 1 ((brokenOf pre).map iV), .blk bl (.cells [.slice a (brokenOf pre).length cap].toArray 32 (0, 0))]) (Jx := fun _ _ _ _ => False)
  · exact rfl
  · exact Try.func74
  · exact rfl
  · exact rfl
  · exact pieces_seq l (by omega) b
  · exact hb
  · exact fun _ => rfl
  · exact rfl
  · exact .cons (.cons .nil)
  · exact ⟨none, 0, rfl⟩
  · intro lp pre x post hxs m1 Hl hJ hm1 Hfr hfr
    obtain ⟨a, cap, rfl⟩ := hJ
    have hpre : pre.length ≤ (pieces l).length := by rw [hxs]; simp
    have hle3 := brokenOf_length pre
    have hsn := brokenOf_snoc pre x
    have hml : ((brokenOf pre).map iV).length = (brokenOf pre).length := by simp
    (try (refine st_R13_1 ?_; intros))
    refine WQ.assigned (.cons (.cons (.cons .nil))) (Mem.le.refl _) ?_
    intro Hfr2
    cases hx : x.b with
    | true =>
      rw [hx] at hsn
      (refine st_R13_1 ?_; intros; rename_i a2 c2)
      exact WQ.roundOn (Hl := [.row a2 c2 3 1 _, .blk bl _]) (fun w h => h.sublist (by repeat (first | exact List.Sublist.refl _ | apply List.Sublist.cons_cons | apply List.Sublist.cons))) (Mem.le.refl _) ⟨a2, c2, by rw [hsn]; simp [iV]⟩
    | false =>
      rw [hx] at hsn
      (try (refine st_R13_1 ?_; intros))
      exact WQ.roundOn (Hl := [.row a cap 3 1 _, .blk bl _]) (fun w h => h.sublist (by repeat (first | exact List.Sublist.refl _ | apply List.Sublist.cons_cons | apply List.Sublist.cons))) (Mem.le.refl _) ⟨a, cap, by rw [hsn]; simp⟩
  · intro D m' Hl hJ hm1
    obtain ⟨a, cap, rfl⟩ := hJ
    (try (refine st_R13_1 ?_; intros))
    refine WQ.mark List.perm_middle ?_
    refine q_fin1 (H0 := .row a cap 3 1 _ :: H) (hle.trans hm1) ⟨_, _, ?_, rfl, rfl⟩ (hd := (fun w h => h.sublist (by repeat (first | exact List.Sublist.refl _ | apply List.Sublist.cons_cons | apply List.Sublist.cons))))
    simp
  · intro D c pre m' Hl _ h _
    exact h.elim
theorem parts_any (l : List UInt8) (hl : l.length ≤ 5000000000000) (w0 : World) (m : Mem) (H : SHeap) :
    Does Try.prog 24 #[str l] w0 m H (MakesRow 44 3 ((partsOf (pieces l)).map Pt.cs) m H) := by
  refine Does.of_body (args := [str l]) Try.func24 rfl Try.ntmps24 rfl ?_
  have hpl := pieces_length l
  (refine st_R13_1 ?_; intros; rename_i bl)
  refine w_callF Try.func38 ?_ (hs := pieces_any _ _ _ _)
  rintro _ m0 H0 ⟨b, rfl, rfl, rfl⟩
  (try (refine st_R13_1 ?_; intros))
  refine WC.persist (by (repeat (first | exact Out.here | apply Out.there))) ?_
  intro mp hle hb
  refine WC.newRow (T := 44) (sz := 3) ?_
  apply WC.rangeFunc (encs := fun p : Pc => [p.v]) (xs := pieces l) (Cap := TextAt b l) (lb := [.pointer (some ⟨b, 0, none⟩)]) (ps := [8])
    (J := fun pre m' Hl => ∃ a cap, Hl = [.row a cap 44 3 ((partsOf pre).map Pt.cs), .blk bl (.cells [.slice a (partsOf pre).length cap].toArray 37 (0, 0))]) (Jx := fun _ _ _ _ => False)
  · exact rfl
  · exact Try.func74
  · exact rfl
  · exact rfl
  · exact pieces_seq l (by omega) b
  · exact hb
  · exact fun _ => rfl
  · exact rfl
  · exact .cons (.cons .nil)
  · exact ⟨none, 0, rfl⟩
  · intro lp pre x post hxs m1 Hl hJ hm1 Hfr hfr
    obtain ⟨a, cap, rfl⟩ := hJ
    have hpre : pre.length ≤ (pieces l).length := by rw [hxs]; simp
    have hle3 := partsOf_length pre
    obtain ⟨hx1, hx2, hx3⟩ : x.at_ < l.length ∧ x.w ≤ 4 ∧ 1 ≤ x.w := by
      have := pieces_split hxs
      have h2 := readP_w this.1
      rw [← this.2.1] at h2
      omega
    have hsn := partsOf_snoc pre x
    generalize partsOf pre = acc at hle3 hsn ⊢
    have hml : (acc.map Pt.cs).length = acc.length := by simp
    (try (refine st_R13_1 ?_; intros))
    refine WQ.assigned (.cons (.cons (.cons .nil))) (Mem.le.refl _) ?_
    intro Hfr2
    rcases nil_or_snoc acc with rfl | ⟨ys, q, rfl⟩
    · rw [addPart_nil] at hsn
      have h0 : ([] : List Pt).length = 0 := rfl
      (refine st_R13_1 ?_; intros; rename_i a2 c2)
      refine WL.rowSome (a := a2) (by (repeat (first | exact List.Mem.head _ | apply List.Mem.tail))) (by simp) ?_
      rintro a0 rfl
      have hg : (([] : List Pt).map Pt.cs ++ [[Value.int .i64 (x.at_ : Int), .int .i64 0, .bool x.b]])[([] : List Pt).length + 1 - 1]? = some [Value.int .i64 (x.at_ : Int), .int .i64 0, .bool x.b] := rfl
      (try (refine st_R13_1 ?_; intros))
      exact WQ.roundOn (Hl := [.row (some a0) c2 44 3 _, .blk bl _]) (fun w h => h.sublist (by repeat (first | exact List.Sublist.refl _ | apply List.Sublist.cons_cons | apply List.Sublist.cons))) (Mem.le.refl _) ⟨some a0, c2, by rw [hsn]; simp [Pt.cs]⟩
    · have h1 : (ys ++ [q]).length = ys.length + 1 := by simp
      have h2 : ((ys ++ [q]).map Pt.cs).length = ys.length + 1 := by simp
      have hg : ((ys ++ [q]).map Pt.cs)[(ys ++ [q]).length - 1]? = some q.cs := by simp
      refine WC.rowSome (a := a) (by (repeat (first | exact List.Mem.head _ | apply List.Mem.tail))) (by omega) ?_
      rintro a0 rfl
      cases hq : (q.b == x.b) with
      | true =>
        have hc : (!(q.b == x.b)) = false := by rw [hq]; rfl
        rw [addPart_eq (by simpa using hq)] at hsn
        (try (refine st_R13_1 ?_; intros))
        exact WQ.roundOn (Hl := [.row (some a0) cap 44 3 _, .blk bl _]) (fun w h => h.sublist (by repeat (first | exact List.Sublist.refl _ | apply List.Sublist.cons_cons | apply List.Sublist.cons))) (Mem.le.refl _) ⟨some a0, cap, by rw [hsn]; simp [Pt.cs]⟩
      | false =>
        have hc : (!(q.b == x.b)) = true := by rw [hq]; rfl
        rw [addPart_ne (by simpa using hq)] at hsn
        (refine st_R13_1 ?_; intros; rename_i a2 c2)
        refine WL.rowSome (a := a2) (by (repeat (first | exact List.Mem.head _ | apply List.Mem.tail))) (by simp) ?_
        rintro a0 rfl
        have hg : ((ys ++ [q]).map Pt.cs ++ [[Value.int .i64 (x.at_ : Int), .int .i64 0, .bool x.b]])[((ys ++ [q]).map Pt.cs).length + 1 - 1]? = some [Value.int .i64 (x.at_ : Int), .int .i64 0, .bool x.b] := by simp
        (try (refine st_R13_1 ?_; intros))
        exact WQ.roundOn (Hl := [.row (some a0) c2 44 3 _, .blk bl _]) (fun w h => h.sublist (by repeat (first | exact List.Sublist.refl _ | apply List.Sublist.cons_cons | apply List.Sublist.cons))) (Mem.le.refl _) ⟨some a0, c2, by rw [hsn]; simp [Pt.cs]⟩
  · intro D m' Hl hJ hm1
    obtain ⟨a, cap, rfl⟩ := hJ
    (try (refine st_R13_1 ?_; intros))
    refine WQ.mark List.perm_middle ?_
    refine q_fin1 (H0 := .row a cap 44 3 _ :: H) (hle.trans hm1) ⟨_, _, ?_, rfl, rfl⟩ (hd := (fun w h => h.sublist (by repeat (first | exact List.Sublist.refl _ | apply List.Sublist.cons_cons | apply List.Sublist.cons))))
    simp
  · intro D c pre m' Hl _ h _
    exact h.elim
end Go.Proofs.Ytdmdabjaboigcaa

/-
  The walks of the law's own comparisons, and of the reference's Broken and Parts. No condition.
-/
namespace Go.Proofs.Ytdmdabjaboigcaa
open Go Go.Eng
set_option maxRecDepth 100000
set_option maxHeartbeats 4000000
set_option linter.all false
attribute [local irreducible] WL WC WQ QFun QLoop Does Q1 QRound QAssign Go.Addr.add
def iI (k : Int) : List Value := [.int .i64 k]
theorem ints_same {a b : Option Addr} {ca cb : Nat} {es : List (List Value)} {w0 : World} {m : Mem} {H : SHeap} (hl : es.length ≤ 5000000000000) (hes : ∃ xs : List Int, es = xs.map iI) (ha : RowR w0 m H 1 a es) (hb : RowR w0 m H 1 b es) :
    Does Try.prog 25 #[.slice a es.length ca, .slice b es.length cb] w0 m H (Gives (.bool true) m H) := by
  obtain ⟨xs, rfl⟩ := hes
  refine Does.of_body (args := [.slice a (xs.map iI).length ca, .slice b (xs.map iI).length cb]) Try.func25 rfl Try.ntmps25 rfl ?_
  have hln : (xs.map iI).length = xs.length := by simp
  (try (refine st ?_; intros))
  refine WC.loopH [(13, .int .i64 ((0) : Int)), (12, .int .i64 ((xs.map iI).length : Int)), (0, .slice a (xs.map iI).length ca), (1, .slice b (xs.map iI).length cb)] ?_ ?_ (fun j r ds m' H' => ∃ i, j = xs.length - i ∧ r = [(13, .int .i64 (i : Int)), (12, .int .i64 ((xs.map iI).length : Int)), (0, .slice a (xs.map iI).length ca), (1, .slice b (xs.map iI).length cb)] ∧ ds = [] ∧ m = m' ∧ H' = H ∧ (i ≤ xs.length)) (xs.length - (0)) ⟨0, rfl, rfl, rfl, rfl, rfl, by omega⟩ ?_
  · (repeat (first | exact Env.Sub.nil | refine Env.Sub.cons rfl ?_))
  · exact (fun w h => Pick.sat (by iterate 60 (try (first | exact Pick.all | (apply Pick.take; (· (repeat (first | exact Out.here | apply Out.there)))) | apply Pick.drop))) h)
  rintro j r ds m' H' ⟨i, rfl, rfl, rfl, rfl, rfl, hi⟩
  by_cases hlt : i < xs.length
  · obtain ⟨x, hx, hget, htk, hmem, hdr⟩ := at_idx (f := iI) hlt
    have hpos : 0 < (xs.map iI).length := by simp; omega
    refine WC.rSome ha hpos ?_
    rintro a0 rfl
    refine WC.rSome hb hpos ?_
    rintro b0 rfl
    (try (refine st ?_; intros))
    refine WQ.next (xs.length - (i + 1)) ⟨i + 1, rfl, rfl, rfl, rfl, rfl, ?_⟩ (by omega) (by (repeat (first | exact Env.Sub.nil | refine Env.Sub.cons rfl ?_))) (fun w h => Pick.sat (by iterate 60 (try (first | exact Pick.all | (apply Pick.take; (· (repeat (first | exact Out.here | apply Out.there)))) | apply Pick.drop))) h)
    omega
  · (try (refine st ?_; intros))
    (refine q_fin0 ?_)
    exact Gives.mk rfl
theorem runes_same {a b : Option Addr} {ca cb : Nat} {es : List (List Value)} {w0 : World} {m : Mem} {H : SHeap} (hl : es.length ≤ 5000000000000) (hes : ∃ xs : List Nat, es = xs.map rV) (ha : RowR w0 m H 1 a es) (hb : RowR w0 m H 1 b es) :
    Does Try.prog 48 #[.slice a es.length ca, .slice b es.length cb] w0 m H (Gives (.bool true) m H) := by
  obtain ⟨xs, rfl⟩ := hes
  refine Does.of_body (args := [.slice a (xs.map rV).length ca, .slice b (xs.map rV).length cb]) Try.func48 rfl Try.ntmps48 rfl ?_
  have hln : (xs.map rV).length = xs.length := by simp
  (try (refine st ?_; intros))
  refine WC.loopH [(13, .int .i64 ((0) : Int)), (12, .int .i64 ((xs.map rV).length : Int)), (0, .slice a (xs.map rV).length ca), (1, .slice b (xs.map rV).length cb)] ?_ ?_ (fun j r ds m' H' => ∃ i, j = xs.length - i ∧ r = [(13, .int .i64 (i : Int)), (12, .int .i64 ((xs.map rV).length : Int)), (0, .slice a (xs.map rV).length ca), (1, .slice b (xs.map rV).length cb)] ∧ ds = [] ∧ m = m' ∧ H' = H ∧ (i ≤ xs.length)) (xs.length - (0)) ⟨0, rfl, rfl, rfl, rfl, rfl, by omega⟩ ?_
  · (repeat (first | exact Env.Sub.nil | refine Env.Sub.cons rfl ?_))
  · exact (fun w h => Pick.sat (by iterate 60 (try (first | exact Pick.all | (apply Pick.take; (· (repeat (first | exact Out.here | apply Out.there)))) | apply Pick.drop))) h)
  rintro j r ds m' H' ⟨i, rfl, rfl, rfl, rfl, rfl, hi⟩
  by_cases hlt : i < xs.length
  · obtain ⟨x, hx, hget, htk, hmem, hdr⟩ := at_idx (f := rV) hlt
    have hpos : 0 < (xs.map rV).length := by simp; omega
    refine WC.rSome ha hpos ?_
    rintro a0 rfl
    refine WC.rSome hb hpos ?_
    rintro b0 rfl
    (try (refine st ?_; intros))
    refine WQ.next (xs.length - (i + 1)) ⟨i + 1, rfl, rfl, rfl, rfl, rfl, ?_⟩ (by omega) (by (repeat (first | exact Env.Sub.nil | refine Env.Sub.cons rfl ?_))) (fun w h => Pick.sat (by iterate 60 (try (first | exact Pick.all | (apply Pick.take; (· (repeat (first | exact Out.here | apply Out.there)))) | apply Pick.drop))) h)
    omega
  · (try (refine st ?_; intros))
    (refine q_fin0 ?_)
    exact Gives.mk rfl
theorem eq_part (a b a' b' : Int) (d d' : Bool) : eqB Try.prog 8 44 (.agg #[.int .i64 a, .int .i64 b, .bool d]) (.agg #[.int .i64 a', .int .i64 b', .bool d']) = some ((a == a' && (b == b' && true)) && (d == d' && true)) := by kernel_rfl
theorem eq_part_same (p : Pt) : eqB Try.prog 8 44 (.agg p.cs.toArray) (.agg p.cs.toArray) = some true := (eq_part _ _ _ _ _ _).trans (by simp)
theorem eq_piece_same (p : Pc) : eqB Try.prog 8 24 (.agg p.cs.toArray) (.agg p.cs.toArray) = some true := (eq_piece _ _ _ _ _ _ _ _).trans (by rw [dcd_true ⟨rfl, rfl, rfl, rfl⟩])
theorem sq_R14_1 {G : Prop} (h : G := by (repeat (first | (refine sp ?_; (repeat intro zzc)) | (refine iB_eql rfl ?_; refine w_eqlV ?_ (he := eq_part_same _)) | (refine iB_neq rfl ?_; refine w_neqV ?_ (he := eq_part_same _)))); exact WQ.q1 rfl) : G := h
theorem st_R14_1 {G G' : Prop} (next : G') (h : Bx G' → G := by intro zzn; (first | ((refine st ?_; (repeat intro zzc)); (try ((first | (refine iB_eql rfl ?_; refine w_eqlV ?_ (he := eq_part_same _)) | (refine iB_neq rfl ?_; refine w_neqV ?_ (he := eq_part_same _)) | ((refine iDraw ?_; (first | refine WC.drawAll rfl (by decide +kernel) ?_ | refine WC.draw 1 rfl (by decide +kernel) ?_ | refine WC.draw 2 rfl (by decide +kernel) ?_ | refine WC.draw 3 rfl (by decide +kernel) ?_ | refine WC.draw 4 rfl (by decide +kernel) ?_ | refine WC.draw 5 rfl (by decide +kernel) ?_ | refine WC.draw 6 rfl (by decide +kernel) ?_ | refine WC.draw 7 rfl (by decide +kernel) ?_ | refine WC.draw 8 rfl (by decide +kernel) ?_ | refine WC.draw 9 rfl (by decide +kernel) ?_ | refine WC.draw 10 rfl (by decide +kernel) ?_ | refine WC.draw 11 rfl (by decide +kernel) ?_ | refine WC.draw 12 rfl (by decide +kernel) ?_ | refine WC.draw 13 rfl (by decide +kernel) ?_ | refine WC.draw 14 rfl (by decide +kernel) ?_ | refine WC.draw 15 rfl (by decide +kernel) ?_ | refine WC.draw 16 rfl (by decide +kernel) ?_ | refine WC.draw 17 rfl (by decide +kernel) ?_ | refine WC.draw 18 rfl (by decide +kernel) ?_ | refine WC.draw 19 rfl (by decide +kernel) ?_ | refine WC.draw 20 rfl (by decide +kernel) ?_ | refine WC.draw 21 rfl (by decide +kernel) ?_ | refine WC.draw 22 rfl (by decide +kernel) ?_ | refine WC.draw 23 rfl (by decide +kernel) ?_ | refine WC.draw 24 rfl (by decide +kernel) ?_)); (repeat (refine WD.cons rfl (fun c h => by cases h) sq_R14_1 ?_)); refine WD.nil ?_)); (try (refine st ?_; (repeat intro zzc)))))) | ((first | (refine iB_eql rfl ?_; refine w_eqlV ?_ (he := eq_part_same _)) | (refine iB_neq rfl ?_; refine w_neqV ?_ (he := eq_part_same _)) | ((refine iDraw ?_; (first | refine WC.drawAll rfl (by decide +kernel) ?_ | refine WC.draw 1 rfl (by decide +kernel) ?_ | refine WC.draw 2 rfl (by decide +kernel) ?_ | refine WC.draw 3 rfl (by decide +kernel) ?_ | refine WC.draw 4 rfl (by decide +kernel) ?_ | refine WC.draw 5 rfl (by decide +kernel) ?_ | refine WC.draw 6 rfl (by decide +kernel) ?_ | refine WC.draw 7 rfl (by decide +kernel) ?_ | refine WC.draw 8 rfl (by decide +kernel) ?_ | refine WC.draw 9 rfl (by decide +kernel) ?_ | refine WC.draw 10 rfl (by decide +kernel) ?_ | refine WC.draw 11 rfl (by decide +kernel) ?_ | refine WC.draw 12 rfl (by decide +kernel) ?_ | refine WC.draw 13 rfl (by decide +kernel) ?_ | refine WC.draw 14 rfl (by decide +kernel) ?_ | refine WC.draw 15 rfl (by decide +kernel) ?_ | refine WC.draw 16 rfl (by decide +kernel) ?_ | refine WC.draw 17 rfl (by decide +kernel) ?_ | refine WC.draw 18 rfl (by decide +kernel) ?_ | refine WC.draw 19 rfl (by decide +kernel) ?_ | refine WC.draw 20 rfl (by decide +kernel) ?_ | refine WC.draw 21 rfl (by decide +kernel) ?_ | refine WC.draw 22 rfl (by decide +kernel) ?_ | refine WC.draw 23 rfl (by decide +kernel) ?_ | refine WC.draw 24 rfl (by decide +kernel) ?_)); (repeat (refine WD.cons rfl (fun c h => by cases h) sq_R14_1 ?_)); refine WD.nil ?_)); (try (refine st ?_; (repeat intro zzc))))); (repeat ((first | (refine iB_eql rfl ?_; refine w_eqlV ?_ (he := eq_part_same _)) | (refine iB_neq rfl ?_; refine w_neqV ?_ (he := eq_part_same _)) | ((refine iDraw ?_; (first | refine WC.drawAll rfl (by decide +kernel) ?_ | refine WC.draw 1 rfl (by decide +kernel) ?_ | refine WC.draw 2 rfl (by decide +kernel) ?_ | refine WC.draw 3 rfl (by decide +kernel) ?_ | refine WC.draw 4 rfl (by decide +kernel) ?_ | refine WC.draw 5 rfl (by decide +kernel) ?_ | refine WC.draw 6 rfl (by decide +kernel) ?_ | refine WC.draw 7 rfl (by decide +kernel) ?_ | refine WC.draw 8 rfl (by decide +kernel) ?_ | refine WC.draw 9 rfl (by decide +kernel) ?_ | refine WC.draw 10 rfl (by decide +kernel) ?_ | refine WC.draw 11 rfl (by decide +kernel) ?_ | refine WC.draw 12 rfl (by decide +kernel) ?_ | refine WC.draw 13 rfl (by decide +kernel) ?_ | refine WC.draw 14 rfl (by decide +kernel) ?_ | refine WC.draw 15 rfl (by decide +kernel) ?_ | refine WC.draw 16 rfl (by decide +kernel) ?_ | refine WC.draw 17 rfl (by decide +kernel) ?_ | refine WC.draw 18 rfl (by decide +kernel) ?_ | refine WC.draw 19 rfl (by decide +kernel) ?_ | refine WC.draw 20 rfl (by decide +kernel) ?_ | refine WC.draw 21 rfl (by decide +kernel) ?_ | refine WC.draw 22 rfl (by decide +kernel) ?_ | refine WC.draw 23 rfl (by decide +kernel) ?_ | refine WC.draw 24 rfl (by decide +kernel) ?_)); (repeat (refine WD.cons rfl (fun c h => by cases h) sq_R14_1 ?_)); refine WD.nil ?_)); (try (refine st ?_; (repeat intro zzc))))); (repeat revert zzc); exact zzn.out) : G := h ⟨next⟩
theorem parts_same {a b : Option Addr} {ca cb : Nat} {es : List (List Value)} {w0 : World} {m : Mem} {H : SHeap} (hl : es.length ≤ 5000000000000) (hes : ∃ xs : List Pt, es = xs.map Pt.cs) (ha : RowR w0 m H 3 a es) (hb : RowR w0 m H 3 b es) :
    Does Try.prog 26 #[.slice a es.length ca, .slice b es.length cb] w0 m H (Gives (.bool true) m H) := by
  obtain ⟨xs, rfl⟩ := hes
  refine Does.of_body (args := [.slice a (xs.map Pt.cs).length ca, .slice b (xs.map Pt.cs).length cb]) Try.func26 rfl Try.ntmps26 rfl ?_
  have hln : (xs.map Pt.cs).length = xs.length := by simp
  (try (refine st_R14_1 ?_; intros))
  refine WC.loopH [(13, .int .i64 ((0) : Int)), (12, .int .i64 ((xs.map Pt.cs).length : Int)), (0, .slice a (xs.map Pt.cs).length ca), (1, .slice b (xs.map Pt.cs).length cb)] ?_ ?_ (fun j r ds m' H' => ∃ i, j = xs.length - i ∧ r = [(13, .int .i64 (i : Int)), (12, .int .i64 ((xs.map Pt.cs).length : Int)), (0, .slice a (xs.map Pt.cs).length ca), (1, .slice b (xs.map Pt.cs).length cb)] ∧ ds = [] ∧ m = m' ∧ H' = H ∧ (i ≤ xs.length)) (xs.length - (0)) ⟨0, rfl, rfl, rfl, rfl, rfl, by omega⟩ ?_
  · (repeat (first | exact Env.Sub.nil | refine Env.Sub.cons rfl ?_))
  · exact (fun w h => Pick.sat (by iterate 60 (try (first | exact Pick.all | (apply Pick.take; (· (repeat (first | exact Out.here | apply Out.there)))) | apply Pick.drop))) h)
  rintro j r ds m' H' ⟨i, rfl, rfl, rfl, rfl, rfl, hi⟩
  by_cases hlt : i < xs.length
  · obtain ⟨x, hx, hget, htk, hmem, hdr⟩ := at_idx (f := Pt.cs) hlt
    have hpos : 0 < (xs.map Pt.cs).length := by simp; omega
    refine WC.rSome ha hpos ?_
    rintro a0 rfl
    refine WC.rSome hb hpos ?_
    rintro b0 rfl
    (try (refine st_R14_1 ?_; intros))
    refine WQ.next (xs.length - (i + 1)) ⟨i + 1, rfl, rfl, rfl, rfl, rfl, ?_⟩ (by omega) (by (repeat (first | exact Env.Sub.nil | refine Env.Sub.cons rfl ?_))) (fun w h => Pick.sat (by iterate 60 (try (first | exact Pick.all | (apply Pick.take; (· (repeat (first | exact Out.here | apply Out.there)))) | apply Pick.drop))) h)
    omega
  · (try (refine st_R14_1 ?_; intros))
    (refine q_fin0 ?_)
    exact Gives.mk rfl
theorem sq_R14_2 {G : Prop} (h : G := by (repeat (first | (refine sp ?_; (repeat intro zzc)) | (refine iB_eql rfl ?_; refine w_eqlV ?_ (he := eq_piece_same _)) | (refine iB_neq rfl ?_; refine w_neqV ?_ (he := eq_piece_same _)))); exact WQ.q1 rfl) : G := h
theorem st_R14_2 {G G' : Prop} (next : G') (h : Bx G' → G := by intro zzn; (first | ((refine st ?_; (repeat intro zzc)); (try ((first | (refine iB_eql rfl ?_; refine w_eqlV ?_ (he := eq_piece_same _)) | (refine iB_neq rfl ?_; refine w_neqV ?_ (he := eq_piece_same _)) | ((refine iDraw ?_; (first | refine WC.drawAll rfl (by decide +kernel) ?_ | refine WC.draw 1 rfl (by decide +kernel) ?_ | refine WC.draw 2 rfl (by decide +kernel) ?_ | refine WC.draw 3 rfl (by decide +kernel) ?_ | refine WC.draw 4 rfl (by decide +kernel) ?_ | refine WC.draw 5 rfl (by decide +kernel) ?_ | refine WC.draw 6 rfl (by decide +kernel) ?_ | refine WC.draw 7 rfl (by decide +kernel) ?_ | refine WC.draw 8 rfl (by decide +kernel) ?_ | refine WC.draw 9 rfl (by decide +kernel) ?_ | refine WC.draw 10 rfl (by decide +kernel) ?_ | refine WC.draw 11 rfl (by decide +kernel) ?_ | refine WC.draw 12 rfl (by decide +kernel) ?_ | refine WC.draw 13 rfl (by decide +kernel) ?_ | refine WC.draw 14 rfl (by decide +kernel) ?_ | refine WC.draw 15 rfl (by decide +kernel) ?_ | refine WC.draw 16 rfl (by decide +kernel) ?_ | refine WC.draw 17 rfl (by decide +kernel) ?_ | refine WC.draw 18 rfl (by decide +kernel) ?_ | refine WC.draw 19 rfl (by decide +kernel) ?_ | refine WC.draw 20 rfl (by decide +kernel) ?_ | refine WC.draw 21 rfl (by decide +kernel) ?_ | refine WC.draw 22 rfl (by decide +kernel) ?_ | refine WC.draw 23 rfl (by decide +kernel) ?_ | refine WC.draw 24 rfl (by decide +kernel) ?_)); (repeat (refine WD.cons rfl (fun c h => by cases h) sq_R14_2 ?_)); refine WD.nil ?_)); (try (refine st ?_; (repeat intro zzc)))))) | ((first | (refine iB_eql rfl ?_; refine w_eqlV ?_ (he := eq_piece_same _)) | (refine iB_neq rfl ?_; refine w_neqV ?_ (he := eq_piece_same _)) | ((refine iDraw ?_; (first | refine WC.drawAll rfl (by decide +kernel) ?_ | refine WC.draw 1 rfl (by decide +kernel) ?_ | refine WC.draw 2 rfl (by decide +kernel) ?_ | refine WC.draw 3 rfl (by decide +kernel) ?_ | refine WC.draw 4 rfl (by decide +kernel) ?_ | refine WC.draw 5 rfl (by decide +kernel) ?_ | refine WC.draw 6 rfl (by decide +kernel) ?_ | refine WC.draw 7 rfl (by decide +kernel) ?_ | refine WC.draw 8 rfl (by decide +kernel) ?_ | refine WC.draw 9 rfl (by decide +kernel) ?_ | refine WC.draw 10 rfl (by decide +kernel) ?_ | refine WC.draw 11 rfl (by decide +kernel) ?_ | refine WC.draw 12 rfl (by decide +kernel) ?_ | refine WC.draw 13 rfl (by decide +kernel) ?_ | refine WC.draw 14 rfl (by decide +kernel) ?_ | refine WC.draw 15 rfl (by decide +kernel) ?_ | refine WC.draw 16 rfl (by decide +kernel) ?_ | refine WC.draw 17 rfl (by decide +kernel) ?_ | refine WC.draw 18 rfl (by decide +kernel) ?_ | refine WC.draw 19 rfl (by decide +kernel) ?_ | refine WC.draw 20 rfl (by decide +kernel) ?_ | refine WC.draw 21 rfl (by decide +kernel) ?_ | refine WC.draw 22 rfl (by decide +kernel) ?_ | refine WC.draw 23 rfl (by decide +kernel) ?_ | refine WC.draw 24 rfl (by decide +kernel) ?_)); (repeat (refine WD.cons rfl (fun c h => by cases h) sq_R14_2 ?_)); refine WD.nil ?_)); (try (refine st ?_; (repeat intro zzc))))); (repeat ((first | (refine iB_eql rfl ?_; refine w_eqlV ?_ (he := eq_piece_same _)) | (refine iB_neq rfl ?_; refine w_neqV ?_ (he := eq_piece_same _)) | ((refine iDraw ?_; (first | refine WC.drawAll rfl (by decide +kernel) ?_ | refine WC.draw 1 rfl (by decide +kernel) ?_ | refine WC.draw 2 rfl (by decide +kernel) ?_ | refine WC.draw 3 rfl (by decide +kernel) ?_ | refine WC.draw 4 rfl (by decide +kernel) ?_ | refine WC.draw 5 rfl (by decide +kernel) ?_ | refine WC.draw 6 rfl (by decide +kernel) ?_ | refine WC.draw 7 rfl (by decide +kernel) ?_ | refine WC.draw 8 rfl (by decide +kernel) ?_ | refine WC.draw 9 rfl (by decide +kernel) ?_ | refine WC.draw 10 rfl (by decide +kernel) ?_ | refine WC.draw 11 rfl (by decide +kernel) ?_ | refine WC.draw 12 rfl (by decide +kernel) ?_ | refine WC.draw 13 rfl (by decide +kernel) ?_ | refine WC.draw 14 rfl (by decide +kernel) ?_ | refine WC.draw 15 rfl (by decide +kernel) ?_ | refine WC.draw 16 rfl (by decide +kernel) ?_ | refine WC.draw 17 rfl (by decide +kernel) ?_ | refine WC.draw 18 rfl (by decide +kernel) ?_ | refine WC.draw 19 rfl (by decide +kernel) ?_ | refine WC.draw 20 rfl (by decide +kernel) ?_ | refine WC.draw 21 rfl (by decide +kernel) ?_ | refine WC.draw 22 rfl (by decide +kernel) ?_ | refine WC.draw 23 rfl (by decide +kernel) ?_ | refine WC.draw 24 rfl (by decide +kernel) ?_)); (repeat (refine WD.cons rfl (fun c h => by cases h) sq_R14_2 ?_)); refine WD.nil ?_)); (try (refine st ?_; (repeat intro zzc))))); (repeat revert zzc); exact zzn.out) : G := h ⟨next⟩
theorem pieces_same {a b : Option Addr} {ca cb : Nat} {es : List (List Value)} {w0 : World} {m : Mem} {H : SHeap} (hl : es.length ≤ 5000000000000) (hes : ∃ xs : List Pc, es = xs.map Pc.cs) (ha : RowR w0 m H 4 a es) (hb : RowR w0 m H 4 b es) :
    Does Try.prog 64 #[.slice a es.length ca, .slice b es.length cb] w0 m H (Gives (.bool true) m H) := by
  obtain ⟨xs, rfl⟩ := hes
  refine Does.of_body (args := [.slice a (xs.map Pc.cs).length ca, .slice b (xs.map Pc.cs).length cb]) Try.func64 rfl Try.ntmps64 rfl ?_
  have hln : (xs.map Pc.cs).length = xs.length := by simp
  (try (refine st_R14_2 ?_; intros))
  refine WC.loopH [(13, .int .i64 ((0) : Int)), (12, .int .i64 ((xs.map Pc.cs).length : Int)), (0, .slice a (xs.map Pc.cs).length ca), (1, .slice b (xs.map Pc.cs).length cb)] ?_ ?_ (fun j r ds m' H' => ∃ i, j = xs.length - i ∧ r = [(13, .int .i64 (i : Int)), (12, .int .i64 ((xs.map Pc.cs).length : Int)), (0, .slice a (xs.map Pc.cs).length ca), (1, .slice b (xs.map Pc.cs).length cb)] ∧ ds = [] ∧ m = m' ∧ H' = H ∧ (i ≤ xs.length)) (xs.length - (0)) ⟨0, rfl, rfl, rfl, rfl, rfl, by omega⟩ ?_
  · (repeat (first | exact Env.Sub.nil | refine Env.Sub.cons rfl ?_))
  · exact (fun w h => Pick.sat (by iterate 60 (try (first | exact Pick.all | (apply Pick.take; (· (repeat (first | exact Out.here | apply Out.there)))) | apply Pick.drop))) h)
  rintro j r ds m' H' ⟨i, rfl, rfl, rfl, rfl, rfl, hi⟩
  by_cases hlt : i < xs.length
  · obtain ⟨x, hx, hget, htk, hmem, hdr⟩ := at_idx (f := Pc.cs) hlt
    have hpos : 0 < (xs.map Pc.cs).length := by simp; omega
    refine WC.rSome ha hpos ?_
    rintro a0 rfl
    refine WC.rSome hb hpos ?_
    rintro b0 rfl
    (try (refine st_R14_2 ?_; intros))
    refine WQ.next (xs.length - (i + 1)) ⟨i + 1, rfl, rfl, rfl, rfl, rfl, ?_⟩ (by omega) (by (repeat (first | exact Env.Sub.nil | refine Env.Sub.cons rfl ?_))) (fun w h => Pick.sat (by iterate 60 (try (first | exact Pick.all | (apply Pick.take; (· (repeat (first | exact Out.here | apply Out.there)))) | apply Pick.drop))) h)
    omega
  · (try (refine st_R14_2 ?_; intros))
    (refine q_fin0 ?_)
    exact Gives.mk rfl
theorem sq_R14_3 {G : Prop} (h : G := by (repeat (first | (refine sp ?_; (repeat intro zzc)))); exact WQ.q1 rfl) : G := h
theorem st_R14_3 {G G' : Prop} (next : G') (h : Bx G' → G := by intro zzn; (first | ((refine st ?_; (repeat intro zzc)); (try ((first | ((refine iDraw ?_; (first | refine WC.drawAll rfl (by decide +kernel) ?_ | refine WC.draw 1 rfl (by decide +kernel) ?_ | refine WC.draw 2 rfl (by decide +kernel) ?_ | refine WC.draw 3 rfl (by decide +kernel) ?_ | refine WC.draw 4 rfl (by decide +kernel) ?_ | refine WC.draw 5 rfl (by decide +kernel) ?_ | refine WC.draw 6 rfl (by decide +kernel) ?_ | refine WC.draw 7 rfl (by decide +kernel) ?_ | refine WC.draw 8 rfl (by decide +kernel) ?_ | refine WC.draw 9 rfl (by decide +kernel) ?_ | refine WC.draw 10 rfl (by decide +kernel) ?_ | refine WC.draw 11 rfl (by decide +kernel) ?_ | refine WC.draw 12 rfl (by decide +kernel) ?_ | refine WC.draw 13 rfl (by decide +kernel) ?_ | refine WC.draw 14 rfl (by decide +kernel) ?_ | refine WC.draw 15 rfl (by decide +kernel) ?_ | refine WC.draw 16 rfl (by decide +kernel) ?_ | refine WC.draw 17 rfl (by decide +kernel) ?_ | refine WC.draw 18 rfl (by decide +kernel) ?_ | refine WC.draw 19 rfl (by decide +kernel) ?_ | refine WC.draw 20 rfl (by decide +kernel) ?_ | refine WC.draw 21 rfl (by decide +kernel) ?_ | refine WC.draw 22 rfl (by decide +kernel) ?_ | refine WC.draw 23 rfl (by decide +kernel) ?_ | refine WC.draw 24 rfl (by decide +kernel) ?_)); (repeat (refine WD.cons rfl (fun c h => by cases h) sq_R14_3 ?_)); refine WD.nil ?_)); (try (refine st ?_; (repeat intro zzc)))))) | ((first | ((refine iDraw ?_; (first | refine WC.drawAll rfl (by decide +kernel) ?_ | refine WC.draw 1 rfl (by decide +kernel) ?_ | refine WC.draw 2 rfl (by decide +kernel) ?_ | refine WC.draw 3 rfl (by decide +kernel) ?_ | refine WC.draw 4 rfl (by decide +kernel) ?_ | refine WC.draw 5 rfl (by decide +kernel) ?_ | refine WC.draw 6 rfl (by decide +kernel) ?_ | refine WC.draw 7 rfl (by decide +kernel) ?_ | refine WC.draw 8 rfl (by decide +kernel) ?_ | refine WC.draw 9 rfl (by decide +kernel) ?_ | refine WC.draw 10 rfl (by decide +kernel) ?_ | refine WC.draw 11 rfl (by decide +kernel) ?_ | refine WC.draw 12 rfl (by decide +kernel) ?_ | refine WC.draw 13 rfl (by decide +kernel) ?_ | refine WC.draw 14 rfl (by decide +kernel) ?_ | refine WC.draw 15 rfl (by decide +kernel) ?_ | refine WC.draw 16 rfl (by decide +kernel) ?_ | refine WC.draw 17 rfl (by decide +kernel) ?_ | refine WC.draw 18 rfl (by decide +kernel) ?_ | refine WC.draw 19 rfl (by decide +kernel) ?_ | refine WC.draw 20 rfl (by decide +kernel) ?_ | refine WC.draw 21 rfl (by decide +kernel) ?_ | refine WC.draw 22 rfl (by decide +kernel) ?_ | refine WC.draw 23 rfl (by decide +kernel) ?_ | refine WC.draw 24 rfl (by decide +kernel) ?_)); (repeat (refine WD.cons rfl (fun c h => by cases h) sq_R14_3 ?_)); refine WD.nil ?_)); (try (refine st ?_; (repeat intro zzc))))); (repeat ((first | ((refine iDraw ?_; (first | refine WC.drawAll rfl (by decide +kernel) ?_ | refine WC.draw 1 rfl (by decide +kernel) ?_ | refine WC.draw 2 rfl (by decide +kernel) ?_ | refine WC.draw 3 rfl (by decide +kernel) ?_ | refine WC.draw 4 rfl (by decide +kernel) ?_ | refine WC.draw 5 rfl (by decide +kernel) ?_ | refine WC.draw 6 rfl (by decide +kernel) ?_ | refine WC.draw 7 rfl (by decide +kernel) ?_ | refine WC.draw 8 rfl (by decide +kernel) ?_ | refine WC.draw 9 rfl (by decide +kernel) ?_ | refine WC.draw 10 rfl (by decide +kernel) ?_ | refine WC.draw 11 rfl (by decide +kernel) ?_ | refine WC.draw 12 rfl (by decide +kernel) ?_ | refine WC.draw 13 rfl (by decide +kernel) ?_ | refine WC.draw 14 rfl (by decide +kernel) ?_ | refine WC.draw 15 rfl (by decide +kernel) ?_ | refine WC.draw 16 rfl (by decide +kernel) ?_ | refine WC.draw 17 rfl (by decide +kernel) ?_ | refine WC.draw 18 rfl (by decide +kernel) ?_ | refine WC.draw 19 rfl (by decide +kernel) ?_ | refine WC.draw 20 rfl (by decide +kernel) ?_ | refine WC.draw 21 rfl (by decide +kernel) ?_ | refine WC.draw 22 rfl (by decide +kernel) ?_ | refine WC.draw 23 rfl (by decide +kernel) ?_ | refine WC.draw 24 rfl (by decide +kernel) ?_)); (repeat (refine WD.cons rfl (fun c h => by cases h) sq_R14_3 ?_)); refine WD.nil ?_)); (try (refine st ?_; (repeat intro zzc))))); (repeat revert zzc); exact zzn.out) : G := h ⟨next⟩
theorem refBroken_any (l : List UInt8) (hl : l.length ≤ 5000000000000) (w0 : World) (m : Mem) (H : SHeap) :
    Does Try.prog 20 #[str l] w0 m H (MakesRow 3 1 ((brokenOf (pieces l)).map iV) m H) := by
  refine Does.of_body (args := [str l]) Try.func20 rfl Try.ntmps20 rfl ?_
  have hpl := pieces_length l
  (try (refine st_R14_3 ?_; intros))
  refine w_callF Try.func19 ?_ (hs := refPieces_any _ hl _ _ _)
  rintro _ m H1 ⟨a, cap, rfl, rfl, rfl⟩
  have hpm : ((pieces l).map Pc.cs).length = (pieces l).length := by simp
  (try (refine st_R14_3 ?_; intros))
  refine WC.newRow (T := 3) (sz := 1) ?_
  refine WC.loopH [(9, .int .i64 ((0) : Int)), (8, .int .i64 (((pieces l).map Pc.cs).length : Int)), (7, .slice a ((pieces l).map Pc.cs).length cap), (3, .slice (none) (0) (0))] ?_ ?_ (fun j r ds m' H' => ∃ i a3 cap3 k es, j = (pieces l).length - i ∧ r = [(9, .int .i64 (i : Int)), (8, .int .i64 (((pieces l).map Pc.cs).length : Int)), (7, .slice a ((pieces l).map Pc.cs).length cap), (3, .slice a3 k cap3)] ∧ ds = [] ∧ m = m' ∧ H' = .row a3 cap3 3 1 es :: .row a cap 24 4 ((pieces l).map Pc.cs) :: H ∧ (i ≤ (pieces l).length) ∧ (k = es.length) ∧ (es = (brokenOf ((pieces l).take i)).map iV)) ((pieces l).length - (0)) ⟨0, none, 0, 0, [], rfl, rfl, rfl, rfl, rfl, by omega, rfl, rfl⟩ ?_
  · (repeat (first | exact Env.Sub.nil | refine Env.Sub.cons rfl ?_))
  · exact (fun w h => Pick.sat (by iterate 60 (try (first | exact Pick.all | (apply Pick.take; (· (repeat (first | exact Out.here | apply Out.there)))) | apply Pick.drop))) h)
  rintro j r ds m' H' ⟨i, a3, cap3, k, es, rfl, rfl, rfl, rfl, rfl, hi, rfl, hes⟩
  have hbl := brokenOf_length ((pieces l).take i)
  have hbm : es.length = (brokenOf ((pieces l).take i)).length := by simp [hes]
  have htl : ((pieces l).take i).length ≤ i := by simp; omega
  by_cases hlt : i < (pieces l).length
  · obtain ⟨x, hx, hget, htk, hmem, hdr⟩ := at_idx (f := Pc.cs) hlt
    have hsn := brokenOf_snoc ((pieces l).take i) x
    rw [← htk] at hsn
    refine WC.rowSome (a := a) (by (repeat (first | exact List.Mem.head _ | apply List.Mem.tail))) (by omega) ?_
    rintro a0 rfl
    cases hb : x.b with
    | true =>
      (refine st_R14_3 ?_; intros; rename_i ak ck)
      refine WQ.next ((pieces l).length - (i + 1)) ⟨i + 1, ak, ck, _, _, rfl, rfl, rfl, rfl, rfl, ?_, ?_, ?_⟩ (by omega) (by (repeat (first | exact Env.Sub.nil | refine Env.Sub.cons rfl ?_))) (fun w h => Pick.sat (by iterate 60 (try (first | exact Pick.all | (apply Pick.take; (· (repeat (first | exact Out.here | apply Out.there)))) | apply Pick.drop))) h)
      · omega
      · simp
      · simp [hsn, hb, hes, iV]
    | false =>
      (try (refine st_R14_3 ?_; intros))
      refine WQ.next ((pieces l).length - (i + 1)) ⟨i + 1, a3, cap3, _, _, rfl, rfl, rfl, rfl, rfl, ?_, ?_, ?_⟩ (by omega) (by (repeat (first | exact Env.Sub.nil | refine Env.Sub.cons rfl ?_))) (fun w h => Pick.sat (by iterate 60 (try (first | exact Pick.all | (apply Pick.take; (· (repeat (first | exact Out.here | apply Out.there)))) | apply Pick.drop))) h)
      · omega
      · rfl
      · simp [hsn, hb, hes]
  · obtain rfl : i = (pieces l).length := by omega
    rw [List.take_length] at *
    (try (refine st_R14_3 ?_; intros))
    refine q_fin0 (H0 := .row a3 cap3 3 1 _ :: H) ⟨a3, cap3, ?_, rfl, ?_⟩ (hd := (fun w h => h.sublist (by repeat (first | exact List.Sublist.refl _ | apply List.Sublist.cons_cons | apply List.Sublist.cons))))
    · rw [hes]
    · rw [hes]
theorem refParts_any (l : List UInt8) (hl : l.length ≤ 5000000000000) (w0 : World) (m : Mem) (H : SHeap) :
    Does Try.prog 27 #[str l] w0 m H (MakesRow 44 3 ((partsOf (pieces l)).map Pt.cs) m H) := by
  refine Does.of_body (args := [str l]) Try.func27 rfl Try.ntmps27 rfl ?_
  have hpl := pieces_length l
  (try (refine st_R14_3 ?_; intros))
  refine w_callF Try.func19 ?_ (hs := refPieces_any _ hl _ _ _)
  rintro _ m H1 ⟨a, cap, rfl, rfl, rfl⟩
  have hpm : ((pieces l).map Pc.cs).length = (pieces l).length := by simp
  (try (refine st_R14_3 ?_; intros))
  refine WC.newRow (T := 44) (sz := 3) ?_
  refine WC.loopH [(10, .int .i64 ((0) : Int)), (9, .int .i64 (((pieces l).map Pc.cs).length : Int)), (8, .slice a ((pieces l).map Pc.cs).length cap), (3, .slice (none) (0) (0))] ?_ ?_ (fun j r ds m' H' => ∃ i a3 cap3 k es, j = (pieces l).length - i ∧ r = [(10, .int .i64 (i : Int)), (9, .int .i64 (((pieces l).map Pc.cs).length : Int)), (8, .slice a ((pieces l).map Pc.cs).length cap), (3, .slice a3 k cap3)] ∧ ds = [] ∧ m = m' ∧ H' = .row a3 cap3 44 3 es :: .row a cap 24 4 ((pieces l).map Pc.cs) :: H ∧ (i ≤ (pieces l).length) ∧ (k = es.length) ∧ (es = (partsOf ((pieces l).take i)).map Pt.cs)) ((pieces l).length - (0)) ⟨0, none, 0, 0, [], rfl, rfl, rfl, rfl, rfl, by omega, rfl, rfl⟩ ?_
  · (repeat (first | exact Env.Sub.nil | refine Env.Sub.cons rfl ?_))
  · exact (fun w h => Pick.sat (by iterate 60 (try (first | exact Pick.all | (apply Pick.take; (· (repeat (first | exact Out.here | apply Out.there)))) | apply Pick.drop))) h)
  rintro j r ds m' H' ⟨i, a3, cap3, k, es, rfl, rfl, rfl, rfl, rfl, hi, rfl, hes⟩
  have hbl := partsOf_length ((pieces l).take i)
  have htl : ((pieces l).take i).length ≤ i := by simp; omega
  by_cases hlt : i < (pieces l).length
  · obtain ⟨x, hx, hget, htk, hmem, hdr⟩ := at_idx (f := Pc.cs) hlt
    obtain ⟨hx1, hx2, hx3⟩ : x.at_ < l.length ∧ x.w ≤ 4 ∧ 1 ≤ x.w := by
      have := pieces_split (l := l) (pre := (pieces l).take i) (p := x) (post := (pieces l).drop (i + 1)) (by rw [← hdr, List.take_append_drop])
      have h2 := readP_w this.1
      rw [← this.2.1] at h2
      omega
    have hsn := partsOf_snoc ((pieces l).take i) x
    rw [← htk] at hsn
    generalize partsOf ((pieces l).take i) = acc at hbl hsn hes
    subst hes
    refine WC.rowSome (a := a) (by (repeat (first | exact List.Mem.head _ | apply List.Mem.tail))) (by omega) ?_
    rintro a0 rfl
    rcases nil_or_snoc acc with rfl | ⟨ys, q, rfl⟩
    · rw [addPart_nil] at hsn
      have h0 : (([] : List Pt).map Pt.cs).length = 0 := rfl
      (refine st_R14_3 ?_; intros; rename_i ak ck)
      refine WQ.next ((pieces l).length - (i + 1)) ⟨i + 1, ak, ck, _, _, rfl, rfl, rfl, rfl, rfl, ?_, ?_, ?_⟩ (by omega) (by (repeat (first | exact Env.Sub.nil | refine Env.Sub.cons rfl ?_))) (fun w h => Pick.sat (by iterate 60 (try (first | exact Pick.all | (apply Pick.take; (· (repeat (first | exact Out.here | apply Out.there)))) | apply Pick.drop))) h)
      · omega
      · simp
      · simp [hsn, Pt.cs]
    · have h1 : (ys ++ [q]).length = ys.length + 1 := by simp
      have h2 : ((ys ++ [q]).map Pt.cs).length = ys.length + 1 := by simp
      have hg : ((ys ++ [q]).map Pt.cs)[((ys ++ [q]).map Pt.cs).length - 1]? = some q.cs := by simp
      refine WC.rowSome (a := a3) (by (repeat (first | exact List.Mem.head _ | apply List.Mem.tail))) (by omega) ?_
      rintro a4 rfl
      cases hq : (q.b == x.b) with
      | true =>
        rw [addPart_eq (by simpa using hq)] at hsn
        (try (refine st_R14_3 ?_; intros))
        refine WQ.next ((pieces l).length - (i + 1)) ⟨i + 1, some a4, cap3, _, _, rfl, rfl, rfl, rfl, rfl, ?_, ?_, ?_⟩ (by omega) (by (repeat (first | exact Env.Sub.nil | refine Env.Sub.cons rfl ?_))) (fun w h => Pick.sat (by iterate 60 (try (first | exact Pick.all | (apply Pick.take; (· (repeat (first | exact Out.here | apply Out.there)))) | apply Pick.drop))) h)
        · omega
        · simp
        · rw [hsn]; simp [Pt.cs]
      | false =>
        rw [addPart_ne (by simpa using hq)] at hsn
        (refine st_R14_3 ?_; intros; rename_i ak ck)
        refine WQ.next ((pieces l).length - (i + 1)) ⟨i + 1, ak, ck, _, _, rfl, rfl, rfl, rfl, rfl, ?_, ?_, ?_⟩ (by omega) (by (repeat (first | exact Env.Sub.nil | refine Env.Sub.cons rfl ?_))) (fun w h => Pick.sat (by iterate 60 (try (first | exact Pick.all | (apply Pick.take; (· (repeat (first | exact Out.here | apply Out.there)))) | apply Pick.drop))) h)
        · omega
        · simp
        · simp [hsn, Pt.cs]
  · obtain rfl : i = (pieces l).length := by omega
    rw [List.take_length] at *
    (try (refine st_R14_3 ?_; intros))
    refine q_fin0 (H0 := .row a3 cap3 44 3 _ :: H) ⟨a3, cap3, ?_, rfl, ?_⟩ (hd := (fun w h => h.sublist (by repeat (first | exact List.Sublist.refl _ | apply List.Sublist.cons_cons | apply List.Sublist.cons))))
    · rw [hes]
    · rw [hes]
end Go.Proofs.Ytdmdabjaboigcaa

/-
  Plain facts: the pieces of a text that is put together of forms. No condition.
-/
set_option linter.all false
namespace Go.Eng
open Go
def formsOf (ns : List Int) : List UInt8 := ns.flatMap fun k => fmb (rn k)
theorem formsOf_append (a b : List Int) : formsOf (a ++ b) = formsOf a ++ formsOf b := by simp [formsOf]
theorem dl_form {c : Nat} (hc : okr c) (B : List UInt8) : dl (fmb c ++ B) = (c, wd c) := by
  refine dl_of_begins hc ((begins_iff _ c (okr_le hc)).2 ?_)
  rw [← fmb_length c, List.take_left]
theorem read_form {c : Nat} (hc : okr c) (A B : List UInt8) : readP (A ++ (fmb c ++ B)) A.length = ⟨A.length, wd c, c, false⟩ := by
  have h1 : (A ++ (fmb c ++ B)).drop A.length = fmb c ++ B := by simp
  unfold readP
  rw [h1, dl_form hc]
  rw [if_neg]
  intro h
  simp only [Prod.mk.injEq] at h
  rw [h.1] at h
  exact absurd h.2 (by decide)
def mkP : Nat → List Int → List Pc
  | _, [] => []
  | k, x :: ns => ⟨k, wd (rn x), rn x, false⟩ :: mkP (k + wd (rn x)) ns
theorem forms_from : ∀ (ns : List Int) (A : List UInt8), from_ (A ++ formsOf ns) A.length = mkP A.length ns
  | [], A => by rw [from_nil (by simp [formsOf])]; rfl
  | x :: ns, A => by
    have h1 : formsOf (x :: ns) = fmb (rn x) ++ formsOf ns := by simp [formsOf]
    have hw := wd_pos (rn x)
    rw [h1, from_cons (by simp [fmb_length]; omega), read_form (rn_ok x)]
    have h2 := forms_from ns (A ++ fmb (rn x))
    rw [List.append_assoc, List.length_append, fmb_length] at h2
    simp only [mkP, h2]
theorem forms_pieces (ns : List Int) : pieces (formsOf ns) = mkP 0 ns := forms_from ns []
theorem mkP_map : ∀ (ns : List Int) (k : Nat), (mkP k ns).map Pc.r = ns.map rn
  | [], _ => rfl
  | x :: ns, k => by simp [mkP, mkP_map ns]
theorem mkP_length (ns : List Int) (k : Nat) : (mkP k ns).length = ns.length := by
  have := congrArg List.length (mkP_map ns k)
  simpa using this
theorem mkP_right : ∀ (ns : List Int) (k : Nat), (mkP k ns).filter (fun p => p.b) = []
  | [], _ => rfl
  | x :: ns, k => by simp [mkP, mkP_right ns]
theorem forms_len : ∀ ns : List Int, (formsOf ns).length ≤ 4 * ns.length
  | [] => by simp [formsOf]
  | x :: ns => by
    have h1 : formsOf (x :: ns) = fmb (rn x) ++ formsOf ns := by simp [formsOf]
    have := forms_len ns
    have hw := wd_pos (rn x)
    rw [h1, List.length_append, fmb_length, List.length_cons]; omega
end Go.Eng

/-
  The walks of runes.Encode, Of, and the reference's Of. No condition.
-/
namespace Go.Proofs.Ytdmdabjaboigcaa
open Go Go.Eng
set_option maxRecDepth 100000
set_option maxHeartbeats 4000000
set_option linter.all false
attribute [local irreducible] WL WC WQ QFun QLoop Does Q1 QRound QAssign Go.Addr.add
theorem or_add {a x : Nat} (k b : Nat) (ha : a = 2 ^ k * b) (h : x < 2 ^ k) : a ||| x = a + x := by rw [ha]; exact (Nat.two_pow_add_eq_or_of_lt h b).symm
theorem tail_any (r : Int) (h0 : 0 ≤ r ∧ r ≤ 2147483647) (w0 : World) (m : Mem) (H : SHeap) : Does Try.prog 73 #[.int .i32 r] w0 m H (Gives (.int .u8 (128 + r % 64)) m H) := by
  refine Does.of_body (args := [.int .i32 r]) Try.func73 rfl Try.ntmps73 rfl ?_
  have h1 : (r % 256).toNat &&& (63 : Int).toNat = (r % 64).toNat := by
    have := Nat.and_two_pow_sub_one_eq_mod (r % 256).toNat 6
    rw [show (63 : Int).toNat = 2 ^ 6 - 1 by decide, this]; omega
  have h2 : (r % 64).toNat ||| (128 : Int).toNat = 128 + (r % 64).toNat := by
    rw [Nat.or_comm]; exact or_add 7 1 (by decide) (by omega)
  (try (refine st ?_; intros))
  (refine q_fin0 ?_)
  refine Gives.mk (vi ?_)
  rw [h1, Int.toNat_natCast, h2]; omega
theorem widthS_zero (r : Int) : widthS r = 0 ↔ Utf8.valid r = false := by
  have hw := wd_pos (rn r)
  rcases rn_cases r with ⟨h1, h2⟩ | ⟨h1, h2⟩
  · unfold widthS
    rw [h2]
    by_cases h3 : r = 65533
    · subst h3; exact absurd h1 (by decide)
    · simp [h3, h1, fmb_lost]
  · have hok := rn_ok r
    have h4 := widthS_ok hok
    rw [← h2] at h4
    rw [h4, h1]; constructor
    · intro h; omega
    · intro h; cases h
theorem shr_bound (c e : Nat) (h : c ≤ 2147483647) : 0 ≤ (c : Int) / 2 ^ e ∧ (c : Int) / 2 ^ e ≤ 2147483647 := by
  have h1 := Int.ediv_le_self (a := (c : Int)) (2 ^ e) (by omega)
  have h2 : 0 ≤ (c : Int) / 2 ^ e := Int.ediv_nonneg (by omega) (Int.le_of_lt (Int.pow_pos (by decide)))
  omega
theorem shr_nat (c e q : Nat) (hq : 2 ^ e = q) : (c : Int) / 2 ^ e = ((c / q : Nat) : Int) := by subst hq; push_cast; rfl
theorem sq_R16_1 {G : Prop} (h : G := by (repeat (first | (refine sp ?_; (repeat intro zzc)) | (refine iF 73 rfl ?_; refine w_callG Try.func73 ?_ (hs := tail_any _ (by first | omega | exact shr_bound _ _ (by omega)) _ _ _)) | (refine iF 34 rfl ?_; refine w_callG Try.func34 ?_ (hs := width_any _ _ _ _)))); exact WQ.q1 rfl) : G := h
theorem st_R16_1 {G G' : Prop} (next : G') (h : Bx G' → G := by intro zzn; (first | ((refine st ?_; (repeat intro zzc)); (try ((first | (refine iF 73 rfl ?_; refine w_callG Try.func73 ?_ (hs := tail_any _ (by first | omega | exact shr_bound _ _ (by omega)) _ _ _)) | (refine iF 34 rfl ?_; refine w_callG Try.func34 ?_ (hs := width_any _ _ _ _)) | ((refine iDraw ?_; (first | refine WC.drawAll rfl (by decide +kernel) ?_ | refine WC.draw 1 rfl (by decide +kernel) ?_ | refine WC.draw 2 rfl (by decide +kernel) ?_ | refine WC.draw 3 rfl (by decide +kernel) ?_ | refine WC.draw 4 rfl (by decide +kernel) ?_ | refine WC.draw 5 rfl (by decide +kernel) ?_ | refine WC.draw 6 rfl (by decide +kernel) ?_ | refine WC.draw 7 rfl (by decide +kernel) ?_ | refine WC.draw 8 rfl (by decide +kernel) ?_ | refine WC.draw 9 rfl (by decide +kernel) ?_ | refine WC.draw 10 rfl (by decide +kernel) ?_ | refine WC.draw 11 rfl (by decide +kernel) ?_ | refine WC.draw 12 rfl (by decide +kernel) ?_ | refine WC.draw 13 rfl (by decide +kernel) ?_ | refine WC.draw 14 rfl (by decide +kernel) ?_ | refine WC.draw 15 rfl (by decide +kernel) ?_ | refine WC.draw 16 rfl (by decide +kernel) ?_ | refine WC.draw 17 rfl (by decide +kernel) ?_ | refine WC.draw 18 rfl (by decide +kernel) ?_ | refine WC.draw 19 rfl (by decide +kernel) ?_ | refine WC.draw 20 rfl (by decide +kernel) ?_ | refine WC.draw 21 rfl (by decide +kernel) ?_ | refine WC.draw 22 rfl (by decide +kernel) ?_ | refine WC.draw 23 rfl (by decide +kernel) ?_ | refine WC.draw 24 rfl (by decide +kernel) ?_)); (repeat (refine WD.cons rfl (fun c h => by cases h) sq_R16_1 ?_)); refine WD.nil ?_)); (try (refine st ?_; (repeat intro zzc)))))) | ((first | (refine iF 73 rfl ?_; refine w_callG Try.func73 ?_ (hs := tail_any _ (by first | omega | exact shr_bound _ _ (by omega)) _ _ _)) | (refine iF 34 rfl ?_; refine w_callG Try.func34 ?_ (hs := width_any _ _ _ _)) | ((refine iDraw ?_; (first | refine WC.drawAll rfl (by decide +kernel) ?_ | refine WC.draw 1 rfl (by decide +kernel) ?_ | refine WC.draw 2 rfl (by decide +kernel) ?_ | refine WC.draw 3 rfl (by decide +kernel) ?_ | refine WC.draw 4 rfl (by decide +kernel) ?_ | refine WC.draw 5 rfl (by decide +kernel) ?_ | refine WC.draw 6 rfl (by decide +kernel) ?_ | refine WC.draw 7 rfl (by decide +kernel) ?_ | refine WC.draw 8 rfl (by decide +kernel) ?_ | refine WC.draw 9 rfl (by decide +kernel) ?_ | refine WC.draw 10 rfl (by decide +kernel) ?_ | refine WC.draw 11 rfl (by decide +kernel) ?_ | refine WC.draw 12 rfl (by decide +kernel) ?_ | refine WC.draw 13 rfl (by decide +kernel) ?_ | refine WC.draw 14 rfl (by decide +kernel) ?_ | refine WC.draw 15 rfl (by decide +kernel) ?_ | refine WC.draw 16 rfl (by decide +kernel) ?_ | refine WC.draw 17 rfl (by decide +kernel) ?_ | refine WC.draw 18 rfl (by decide +kernel) ?_ | refine WC.draw 19 rfl (by decide +kernel) ?_ | refine WC.draw 20 rfl (by decide +kernel) ?_ | refine WC.draw 21 rfl (by decide +kernel) ?_ | refine WC.draw 22 rfl (by decide +kernel) ?_ | refine WC.draw 23 rfl (by decide +kernel) ?_ | refine WC.draw 24 rfl (by decide +kernel) ?_)); (repeat (refine WD.cons rfl (fun c h => by cases h) sq_R16_1 ?_)); refine WD.nil ?_)); (try (refine st ?_; (repeat intro zzc))))); (repeat ((first | (refine iF 73 rfl ?_; refine w_callG Try.func73 ?_ (hs := tail_any _ (by first | omega | exact shr_bound _ _ (by omega)) _ _ _)) | (refine iF 34 rfl ?_; refine w_callG Try.func34 ?_ (hs := width_any _ _ _ _)) | ((refine iDraw ?_; (first | refine WC.drawAll rfl (by decide +kernel) ?_ | refine WC.draw 1 rfl (by decide +kernel) ?_ | refine WC.draw 2 rfl (by decide +kernel) ?_ | refine WC.draw 3 rfl (by decide +kernel) ?_ | refine WC.draw 4 rfl (by decide +kernel) ?_ | refine WC.draw 5 rfl (by decide +kernel) ?_ | refine WC.draw 6 rfl (by decide +kernel) ?_ | refine WC.draw 7 rfl (by decide +kernel) ?_ | refine WC.draw 8 rfl (by decide +kernel) ?_ | refine WC.draw 9 rfl (by decide +kernel) ?_ | refine WC.draw 10 rfl (by decide +kernel) ?_ | refine WC.draw 11 rfl (by decide +kernel) ?_ | refine WC.draw 12 rfl (by decide +kernel) ?_ | refine WC.draw 13 rfl (by decide +kernel) ?_ | refine WC.draw 14 rfl (by decide +kernel) ?_ | refine WC.draw 15 rfl (by decide +kernel) ?_ | refine WC.draw 16 rfl (by decide +kernel) ?_ | refine WC.draw 17 rfl (by decide +kernel) ?_ | refine WC.draw 18 rfl (by decide +kernel) ?_ | refine WC.draw 19 rfl (by decide +kernel) ?_ | refine WC.draw 20 rfl (by decide +kernel) ?_ | refine WC.draw 21 rfl (by decide +kernel) ?_ | refine WC.draw 22 rfl (by decide +kernel) ?_ | refine WC.draw 23 rfl (by decide +kernel) ?_ | refine WC.draw 24 rfl (by decide +kernel) ?_)); (repeat (refine WD.cons rfl (fun c h => by cases h) sq_R16_1 ?_)); refine WD.nil ?_)); (try (refine st ?_; (repeat intro zzc))))); (repeat revert zzc); exact zzn.out) : G := h ⟨next⟩
theorem encode_any (r : Int) (w0 : World) (m : Mem) (H : SHeap) : Does Try.prog 36 #[.int .i32 r] w0 m H (Gives (str (fmb (rn r))) m H) := by
  have hok := rn_ok r
  refine Does.of_body (args := [.int .i32 r]) Try.func36 rfl Try.ntmps36 rfl ?_
  have hz := widthS_zero r
  (try (refine st_R16_1 ?_; intros))
  refine WC.join (fun r' ds' m' H' => r' = [(0, .int .i32 (rn r : Int)), (2, str [])] ∧ ds' = [] ∧ m' = m ∧ H' = H) ?_ ?_
  · (first | refine c_ways (fun h1 => ?_) (fun h1 => ?_) | refine c_nways (fun h1 => ?_) (fun h1 => ?_) | refine w_gways (fun h1 => ?_) (fun h1 => ?_) | refine w_gnways (fun h1 => ?_) (fun h1 => ?_))
    · rcases rn_cases r with ⟨hf, hr⟩ | ⟨hf, hr⟩
      · (try (refine st_R16_1 ?_; intros))
        exact WQ.join ⟨rfl, rfl, rfl, rfl⟩ (Env.Sub.cons (by rw [hr]; rfl) (Env.Sub.cons rfl .nil)) (fun w h => h)
      · rw [hz, hf] at h1; cases h1
    · rcases rn_cases r with ⟨hf, hr⟩ | ⟨hf, hr⟩
      · exact absurd (hz.2 hf) h1
      · (try (refine st_R16_1 ?_; intros))
        exact WQ.join ⟨rfl, rfl, rfl, rfl⟩ (Env.Sub.cons (by rw [← hr]; rfl) (Env.Sub.cons rfl .nil)) (fun w h => h)
  rintro _ _ _ _ ⟨rfl, rfl, rfl, rfl⟩
  generalize rn r = c at hok ⊢
  have hc := okr_le hok
  have fin : ∀ (L : List Nat), fm c = L → (∀ x ∈ L, x < 256) → L.map (fun x : Nat => Value.int .u8 (x : Int)) = (fmb c).map fun b => Value.int .u8 (b.toNat : Int) := by
    intro L hL hx
    unfold fmb
    rw [hL, List.map_map]
    apply List.map_congr_left
    intro x h
    have := hx x h
    simp; omega
  rcases (show c < 128 ∨ (128 ≤ c ∧ c < 2048) ∨ (2048 ≤ c ∧ c < 65536) ∨ 65536 ≤ c by omega) with h | h | h | h
  · (try (refine st_R16_1 ?_; intros))
    apply WL.blkStr (s := fmb c)
    · exact rfl
    · (repeat (first | exact List.Mem.head _ | apply List.Mem.tail))
    · rw [← fin [c] (by unfold fm; rw [if_pos h]) (by simp; omega)]; rfl
    · rw [fmb_length]; unfold wd; rw [if_pos h]
    · exact rfl
    · exact rfl
    · exact rfl
    · exact rfl
    · exact rfl
    (try (refine st_R16_1 ?_; intros))
    (refine q_fin0 ?_)
    exact Gives.mk rfl
  · (try (refine st_R16_1 ?_; intros))
    apply WL.blkStr (s := fmb c)
    · exact rfl
    · (repeat (first | exact List.Mem.head _ | apply List.Mem.tail))
    · rw [← fin [0xC0 + c / 64, 0x80 + c % 64] (by unfold fm; rw [if_neg (by omega), if_pos h.2]) (by simp; omega)]
      have e3 : 192 ||| ((c : Int) / 64 % 256).toNat = 192 + c / 64 := by
        rw [show ((c : Int) / 64 % 256).toNat = c / 64 by omega]; exact or_add 5 6 (by decide) (by omega)
      simp [e3]
    · rw [fmb_length]; unfold wd; rw [if_neg (by omega), if_pos h.2]
    · exact rfl
    · exact rfl
    · exact rfl
    · exact rfl
    · exact rfl
    (try (refine st_R16_1 ?_; intros))
    (refine q_fin0 ?_)
    exact Gives.mk rfl
  · (try (refine st_R16_1 ?_; intros))
    apply WL.blkStr (s := fmb c)
    · exact rfl
    · (repeat (first | exact List.Mem.head _ | apply List.Mem.tail))
    · rw [← fin [0xE0 + c / 4096, 0x80 + c / 64 % 64, 0x80 + c % 64] (by unfold fm; rw [if_neg (by omega), if_neg (by omega), if_pos h.2]) (by simp; omega)]
      have e1 := shr_nat c 6 64 (by decide)
      have e2 := shr_nat c 12 4096 (by decide)
      have e3 : 224 ||| ((c : Int) / 4096 % 256).toNat = 224 + c / 4096 := by
        rw [show ((c : Int) / 4096 % 256).toNat = c / 4096 by omega]; exact or_add 4 14 (by decide) (by omega)
      simp [e3, e1, e2]
    · rw [fmb_length]; unfold wd; rw [if_neg (by omega), if_neg (by omega), if_pos h.2]
    · exact rfl
    · exact rfl
    · exact rfl
    · exact rfl
    · exact rfl
    (try (refine st_R16_1 ?_; intros))
    (refine q_fin0 ?_)
    exact Gives.mk rfl
  · (try (refine st_R16_1 ?_; intros))
    apply WL.blkStr (s := fmb c)
    · exact rfl
    · (repeat (first | exact List.Mem.head _ | apply List.Mem.tail))
    · rw [← fin [0xF0 + c / 262144, 0x80 + c / 4096 % 64, 0x80 + c / 64 % 64, 0x80 + c % 64] (by unfold fm; rw [if_neg (by omega), if_neg (by omega), if_neg (by omega)]) (by simp; omega)]
      have e1 := shr_nat c 6 64 (by decide)
      have e2 := shr_nat c 12 4096 (by decide)
      have e3 : 240 ||| ((c : Int) / 262144 % 256).toNat = 240 + c / 262144 := by
        rw [show ((c : Int) / 262144 % 256).toNat = c / 262144 by omega]; exact or_add 3 30 (by decide) (by omega)
      simp [e3, e1, e2]
    · rw [fmb_length]; unfold wd; rw [if_neg (by omega), if_neg (by omega), if_neg (by omega)]
    · exact rfl
    · exact rfl
    · exact rfl
    · exact rfl
    · exact rfl
    (try (refine st_R16_1 ?_; intros))
    (refine q_fin0 ?_)
    exact Gives.mk rfl
theorem sq_R16_2 {G : Prop} (h : G := by (repeat (first | (refine sp ?_; (repeat intro zzc)))); exact WQ.q1 rfl) : G := h
theorem st_R16_2 {G G' : Prop} (next : G') (h : Bx G' → G := by intro zzn; (first | ((refine st ?_; (repeat intro zzc)); (try ((first | ((refine iDraw ?_; (first | refine WC.drawAll rfl (by decide +kernel) ?_ | refine WC.draw 1 rfl (by decide +kernel) ?_ | refine WC.draw 2 rfl (by decide +kernel) ?_ | refine WC.draw 3 rfl (by decide +kernel) ?_ | refine WC.draw 4 rfl (by decide +kernel) ?_ | refine WC.draw 5 rfl (by decide +kernel) ?_ | refine WC.draw 6 rfl (by decide +kernel) ?_ | refine WC.draw 7 rfl (by decide +kernel) ?_ | refine WC.draw 8 rfl (by decide +kernel) ?_ | refine WC.draw 9 rfl (by decide +kernel) ?_ | refine WC.draw 10 rfl (by decide +kernel) ?_ | refine WC.draw 11 rfl (by decide +kernel) ?_ | refine WC.draw 12 rfl (by decide +kernel) ?_ | refine WC.draw 13 rfl (by decide +kernel) ?_ | refine WC.draw 14 rfl (by decide +kernel) ?_ | refine WC.draw 15 rfl (by decide +kernel) ?_ | refine WC.draw 16 rfl (by decide +kernel) ?_ | refine WC.draw 17 rfl (by decide +kernel) ?_ | refine WC.draw 18 rfl (by decide +kernel) ?_ | refine WC.draw 19 rfl (by decide +kernel) ?_ | refine WC.draw 20 rfl (by decide +kernel) ?_ | refine WC.draw 21 rfl (by decide +kernel) ?_ | refine WC.draw 22 rfl (by decide +kernel) ?_ | refine WC.draw 23 rfl (by decide +kernel) ?_ | refine WC.draw 24 rfl (by decide +kernel) ?_)); (repeat (refine WD.cons rfl (fun c h => by cases h) sq_R16_2 ?_)); refine WD.nil ?_)); (try (refine st ?_; (repeat intro zzc)))))) | ((first | ((refine iDraw ?_; (first | refine WC.drawAll rfl (by decide +kernel) ?_ | refine WC.draw 1 rfl (by decide +kernel) ?_ | refine WC.draw 2 rfl (by decide +kernel) ?_ | refine WC.draw 3 rfl (by decide +kernel) ?_ | refine WC.draw 4 rfl (by decide +kernel) ?_ | refine WC.draw 5 rfl (by decide +kernel) ?_ | refine WC.draw 6 rfl (by decide +kernel) ?_ | refine WC.draw 7 rfl (by decide +kernel) ?_ | refine WC.draw 8 rfl (by decide +kernel) ?_ | refine WC.draw 9 rfl (by decide +kernel) ?_ | refine WC.draw 10 rfl (by decide +kernel) ?_ | refine WC.draw 11 rfl (by decide +kernel) ?_ | refine WC.draw 12 rfl (by decide +kernel) ?_ | refine WC.draw 13 rfl (by decide +kernel) ?_ | refine WC.draw 14 rfl (by decide +kernel) ?_ | refine WC.draw 15 rfl (by decide +kernel) ?_ | refine WC.draw 16 rfl (by decide +kernel) ?_ | refine WC.draw 17 rfl (by decide +kernel) ?_ | refine WC.draw 18 rfl (by decide +kernel) ?_ | refine WC.draw 19 rfl (by decide +kernel) ?_ | refine WC.draw 20 rfl (by decide +kernel) ?_ | refine WC.draw 21 rfl (by decide +kernel) ?_ | refine WC.draw 22 rfl (by decide +kernel) ?_ | refine WC.draw 23 rfl (by decide +kernel) ?_ | refine WC.draw 24 rfl (by decide +kernel) ?_)); (repeat (refine WD.cons rfl (fun c h => by cases h) sq_R16_2 ?_)); refine WD.nil ?_)); (try (refine st ?_; (repeat intro zzc))))); (repeat ((first | ((refine iDraw ?_; (first | refine WC.drawAll rfl (by decide +kernel) ?_ | refine WC.draw 1 rfl (by decide +kernel) ?_ | refine WC.draw 2 rfl (by decide +kernel) ?_ | refine WC.draw 3 rfl (by decide +kernel) ?_ | refine WC.draw 4 rfl (by decide +kernel) ?_ | refine WC.draw 5 rfl (by decide +kernel) ?_ | refine WC.draw 6 rfl (by decide +kernel) ?_ | refine WC.draw 7 rfl (by decide +kernel) ?_ | refine WC.draw 8 rfl (by decide +kernel) ?_ | refine WC.draw 9 rfl (by decide +kernel) ?_ | refine WC.draw 10 rfl (by decide +kernel) ?_ | refine WC.draw 11 rfl (by decide +kernel) ?_ | refine WC.draw 12 rfl (by decide +kernel) ?_ | refine WC.draw 13 rfl (by decide +kernel) ?_ | refine WC.draw 14 rfl (by decide +kernel) ?_ | refine WC.draw 15 rfl (by decide +kernel) ?_ | refine WC.draw 16 rfl (by decide +kernel) ?_ | refine WC.draw 17 rfl (by decide +kernel) ?_ | refine WC.draw 18 rfl (by decide +kernel) ?_ | refine WC.draw 19 rfl (by decide +kernel) ?_ | refine WC.draw 20 rfl (by decide +kernel) ?_ | refine WC.draw 21 rfl (by decide +kernel) ?_ | refine WC.draw 22 rfl (by decide +kernel) ?_ | refine WC.draw 23 rfl (by decide +kernel) ?_ | refine WC.draw 24 rfl (by decide +kernel) ?_)); (repeat (refine WD.cons rfl (fun c h => by cases h) sq_R16_2 ?_)); refine WD.nil ?_)); (try (refine st ?_; (repeat intro zzc))))); (repeat revert zzc); exact zzn.out) : G := h ⟨next⟩
def rI (k : Int) : List Value := [.int .i32 k]
def bV (b : UInt8) : List Value := [.int .u8 (b.toNat : Int)]
theorem bV_append (A B : List UInt8) : (A ++ B).map bV = A.map bV ++ B.map (fun b => [Value.int .u8 (b.toNat : Int)]) := by rw [List.map_append]; rfl
theorem sq_R16_3 {G : Prop} (h : G := by (repeat (first | (refine sp ?_; (repeat intro zzc)) | (refine iF 36 rfl ?_; refine w_callG Try.func36 ?_ (hs := encode_any _ _ _ _)) | (refine iF 37 rfl ?_; refine w_callG Try.func37 ?_ (hs := rencode_any _ _ _ _)))); exact WQ.q1 rfl) : G := h
theorem st_R16_3 {G G' : Prop} (next : G') (h : Bx G' → G := by intro zzn; (first | ((refine st ?_; (repeat intro zzc)); (try ((first | (refine iF 36 rfl ?_; refine w_callG Try.func36 ?_ (hs := encode_any _ _ _ _)) | (refine iF 37 rfl ?_; refine w_callG Try.func37 ?_ (hs := rencode_any _ _ _ _)) | ((refine iDraw ?_; (first | refine WC.drawAll rfl (by decide +kernel) ?_ | refine WC.draw 1 rfl (by decide +kernel) ?_ | refine WC.draw 2 rfl (by decide +kernel) ?_ | refine WC.draw 3 rfl (by decide +kernel) ?_ | refine WC.draw 4 rfl (by decide +kernel) ?_ | refine WC.draw 5 rfl (by decide +kernel) ?_ | refine WC.draw 6 rfl (by decide +kernel) ?_ | refine WC.draw 7 rfl (by decide +kernel) ?_ | refine WC.draw 8 rfl (by decide +kernel) ?_ | refine WC.draw 9 rfl (by decide +kernel) ?_ | refine WC.draw 10 rfl (by decide +kernel) ?_ | refine WC.draw 11 rfl (by decide +kernel) ?_ | refine WC.draw 12 rfl (by decide +kernel) ?_ | refine WC.draw 13 rfl (by decide +kernel) ?_ | refine WC.draw 14 rfl (by decide +kernel) ?_ | refine WC.draw 15 rfl (by decide +kernel) ?_ | refine WC.draw 16 rfl (by decide +kernel) ?_ | refine WC.draw 17 rfl (by decide +kernel) ?_ | refine WC.draw 18 rfl (by decide +kernel) ?_ | refine WC.draw 19 rfl (by decide +kernel) ?_ | refine WC.draw 20 rfl (by decide +kernel) ?_ | refine WC.draw 21 rfl (by decide +kernel) ?_ | refine WC.draw 22 rfl (by decide +kernel) ?_ | refine WC.draw 23 rfl (by decide +kernel) ?_ | refine WC.draw 24 rfl (by decide +kernel) ?_)); (repeat (refine WD.cons rfl (fun c h => by cases h) sq_R16_3 ?_)); refine WD.nil ?_)); (try (refine st ?_; (repeat intro zzc)))))) | ((first | (refine iF 36 rfl ?_; refine w_callG Try.func36 ?_ (hs := encode_any _ _ _ _)) | (refine iF 37 rfl ?_; refine w_callG Try.func37 ?_ (hs := rencode_any _ _ _ _)) | ((refine iDraw ?_; (first | refine WC.drawAll rfl (by decide +kernel) ?_ | refine WC.draw 1 rfl (by decide +kernel) ?_ | refine WC.draw 2 rfl (by decide +kernel) ?_ | refine WC.draw 3 rfl (by decide +kernel) ?_ | refine WC.draw 4 rfl (by decide +kernel) ?_ | refine WC.draw 5 rfl (by decide +kernel) ?_ | refine WC.draw 6 rfl (by decide +kernel) ?_ | refine WC.draw 7 rfl (by decide +kernel) ?_ | refine WC.draw 8 rfl (by decide +kernel) ?_ | refine WC.draw 9 rfl (by decide +kernel) ?_ | refine WC.draw 10 rfl (by decide +kernel) ?_ | refine WC.draw 11 rfl (by decide +kernel) ?_ | refine WC.draw 12 rfl (by decide +kernel) ?_ | refine WC.draw 13 rfl (by decide +kernel) ?_ | refine WC.draw 14 rfl (by decide +kernel) ?_ | refine WC.draw 15 rfl (by decide +kernel) ?_ | refine WC.draw 16 rfl (by decide +kernel) ?_ | refine WC.draw 17 rfl (by decide +kernel) ?_ | refine WC.draw 18 rfl (by decide +kernel) ?_ | refine WC.draw 19 rfl (by decide +kernel) ?_ | refine WC.draw 20 rfl (by decide +kernel) ?_ | refine WC.draw 21 rfl (by decide +kernel) ?_ | refine WC.draw 22 rfl (by decide +kernel) ?_ | refine WC.draw 23 rfl (by decide +kernel) ?_ | refine WC.draw 24 rfl (by decide +kernel) ?_)); (repeat (refine WD.cons rfl (fun c h => by cases h) sq_R16_3 ?_)); refine WD.nil ?_)); (try (refine st ?_; (repeat intro zzc))))); (repeat ((first | (refine iF 36 rfl ?_; refine w_callG Try.func36 ?_ (hs := encode_any _ _ _ _)) | (refine iF 37 rfl ?_; refine w_callG Try.func37 ?_ (hs := rencode_any _ _ _ _)) | ((refine iDraw ?_; (first | refine WC.drawAll rfl (by decide +kernel) ?_ | refine WC.draw 1 rfl (by decide +kernel) ?_ | refine WC.draw 2 rfl (by decide +kernel) ?_ | refine WC.draw 3 rfl (by decide +kernel) ?_ | refine WC.draw 4 rfl (by decide +kernel) ?_ | refine WC.draw 5 rfl (by decide +kernel) ?_ | refine WC.draw 6 rfl (by decide +kernel) ?_ | refine WC.draw 7 rfl (by decide +kernel) ?_ | refine WC.draw 8 rfl (by decide +kernel) ?_ | refine WC.draw 9 rfl (by decide +kernel) ?_ | refine WC.draw 10 rfl (by decide +kernel) ?_ | refine WC.draw 11 rfl (by decide +kernel) ?_ | refine WC.draw 12 rfl (by decide +kernel) ?_ | refine WC.draw 13 rfl (by decide +kernel) ?_ | refine WC.draw 14 rfl (by decide +kernel) ?_ | refine WC.draw 15 rfl (by decide +kernel) ?_ | refine WC.draw 16 rfl (by decide +kernel) ?_ | refine WC.draw 17 rfl (by decide +kernel) ?_ | refine WC.draw 18 rfl (by decide +kernel) ?_ | refine WC.draw 19 rfl (by decide +kernel) ?_ | refine WC.draw 20 rfl (by decide +kernel) ?_ | refine WC.draw 21 rfl (by decide +kernel) ?_ | refine WC.draw 22 rfl (by decide +kernel) ?_ | refine WC.draw 23 rfl (by decide +kernel) ?_ | refine WC.draw 24 rfl (by decide +kernel) ?_)); (repeat (refine WD.cons rfl (fun c h => by cases h) sq_R16_3 ?_)); refine WD.nil ?_)); (try (refine st ?_; (repeat intro zzc))))); (repeat revert zzc); exact zzn.out) : G := h ⟨next⟩
theorem of_any {a : Option Addr} {cap : Nat} {ns : List Int} {w0 : World} {m : Mem} {H : SHeap} (hl : ns.length ≤ 5000000000000) (hr : RowR w0 m H 1 a (ns.map rI)) :
    Does Try.prog 32 #[.slice a ns.length cap] w0 m H (Gives (str (formsOf ns)) m H) := by
  refine Does.of_body (args := [.slice a ns.length cap]) Try.func32 rfl Try.ntmps32 rfl ?_
  (try (refine st_R16_3 ?_; intros))
  refine WC.newRow (T := 5) (sz := 1) ?_
  refine WC.loopH [(8, .int .i64 ((0) : Int)), (7, .int .i64 (ns.length : Int)), (6, .slice a ns.length cap), (3, .slice (none) (0) (0))] ?_ ?_ (fun j r ds m' H' => ∃ i b cb k S, j = ns.length - i ∧ r = [(8, .int .i64 (i : Int)), (7, .int .i64 (ns.length : Int)), (6, .slice a ns.length cap), (3, .slice b k cb)] ∧ ds = [] ∧ m = m' ∧ H' = .row b cb 5 1 (S.map bV) :: H ∧ (i ≤ ns.length) ∧ (k = (S.map bV).length) ∧ (S = formsOf (ns.take i)) ∧ (S.length ≤ 4 * i)) (ns.length - (0)) ⟨0, none, 0, 0, [], rfl, rfl, rfl, rfl, rfl, by omega, rfl, rfl, by simp⟩ ?_
  · (repeat (first | exact Env.Sub.nil | refine Env.Sub.cons rfl ?_))
  · exact (fun w h => Pick.sat (by iterate 60 (try (first | exact Pick.all | (apply Pick.take; (· (repeat (first | exact Out.here | apply Out.there)))) | apply Pick.drop))) h)
  rintro j r ds m' H' ⟨i, b, cb, k, S, rfl, rfl, rfl, rfl, rfl, hi, rfl, hS, hSl⟩
  have hml : (S.map bV).length = S.length := by simp
  by_cases hlt : i < ns.length
  · obtain ⟨x, hx, hget, htk, hmem, hdr⟩ := at_idx (f := rI) hlt
    have hf := fmb_length (rn x)
    have hw := wd_pos (rn x)
    have hr2 : RowR w0 m (.row b cb 5 1 (S.map bV) :: H) 1 a (ns.map rI) := hr.more
    refine WC.rSome hr2 (by simp; omega) ?_
    rintro a0 rfl
    (refine st_R16_3 ?_; intros; rename_i b2 cb2)
    rw [← bV_append]
    refine WQ.next (ns.length - (i + 1)) ⟨i + 1, b2, cb2, _, S ++ fmb (rn x), rfl, rfl, rfl, rfl, rfl, ?_, ?_, ?_, ?_⟩ (by omega) (by (repeat (first | exact Env.Sub.nil | refine Env.Sub.cons rfl ?_))) (fun w h => Pick.sat (by iterate 60 (try (first | exact Pick.all | (apply Pick.take; (· (repeat (first | exact Out.here | apply Out.there)))) | apply Pick.drop))) h)
    · omega
    · simp
    · rw [htk, formsOf_append, ← hS]; simp [formsOf]
    · simp; omega
  · obtain rfl : i = ns.length := by omega
    rw [List.take_length] at hS
    subst hS
    (try (refine st_R16_3 ?_; intros))
    refine WL.rowStr (s := formsOf ns) rfl hml (by (repeat (first | exact List.Mem.head _ | apply List.Mem.tail))) rfl rfl rfl rfl rfl ?_
    (try (refine st_R16_3 ?_; intros))
    (refine q_fin0 ?_)
    exact Gives.mk rfl
theorem refOf_any {a : Option Addr} {cap : Nat} {ns : List Int} {w0 : World} {m : Mem} {H : SHeap} (hl : ns.length ≤ 5000000000000) (hr : RowR w0 m H 1 a (ns.map rI)) :
    Does Try.prog 33 #[.slice a ns.length cap] w0 m H (Gives (str (formsOf ns)) m H) := by
  refine Does.of_body (args := [.slice a ns.length cap]) Try.func33 rfl Try.ntmps33 rfl ?_
  (try (refine st_R16_3 ?_; intros))
  refine WC.newRow (T := 5) (sz := 1) ?_
  refine WC.loopH [(8, .int .i64 ((0) : Int)), (7, .int .i64 (ns.length : Int)), (6, .slice a ns.length cap), (3, .slice (none) (0) (0))] ?_ ?_ (fun j r ds m' H' => ∃ i b cb k S, j = ns.length - i ∧ r = [(8, .int .i64 (i : Int)), (7, .int .i64 (ns.length : Int)), (6, .slice a ns.length cap), (3, .slice b k cb)] ∧ ds = [] ∧ m = m' ∧ H' = .row b cb 5 1 (S.map bV) :: H ∧ (i ≤ ns.length) ∧ (k = (S.map bV).length) ∧ (S = formsOf (ns.take i)) ∧ (S.length ≤ 4 * i)) (ns.length - (0)) ⟨0, none, 0, 0, [], rfl, rfl, rfl, rfl, rfl, by omega, rfl, rfl, by simp⟩ ?_
  · (repeat (first | exact Env.Sub.nil | refine Env.Sub.cons rfl ?_))
  · exact (fun w h => Pick.sat (by iterate 60 (try (first | exact Pick.all | (apply Pick.take; (· (repeat (first | exact Out.here | apply Out.there)))) | apply Pick.drop))) h)
  rintro j r ds m' H' ⟨i, b, cb, k, S, rfl, rfl, rfl, rfl, rfl, hi, rfl, hS, hSl⟩
  have hml : (S.map bV).length = S.length := by simp
  by_cases hlt : i < ns.length
  · obtain ⟨x, hx, hget, htk, hmem, hdr⟩ := at_idx (f := rI) hlt
    have hf := fmb_length (rn x)
    have hw := wd_pos (rn x)
    have hr2 : RowR w0 m (.row b cb 5 1 (S.map bV) :: H) 1 a (ns.map rI) := hr.more
    refine WC.rSome hr2 (by simp; omega) ?_
    rintro a0 rfl
    (refine st_R16_3 ?_; intros; rename_i b2 cb2)
    rw [← bV_append]
    refine WQ.next (ns.length - (i + 1)) ⟨i + 1, b2, cb2, _, S ++ fmb (rn x), rfl, rfl, rfl, rfl, rfl, ?_, ?_, ?_, ?_⟩ (by omega) (by (repeat (first | exact Env.Sub.nil | refine Env.Sub.cons rfl ?_))) (fun w h => Pick.sat (by iterate 60 (try (first | exact Pick.all | (apply Pick.take; (· (repeat (first | exact Out.here | apply Out.there)))) | apply Pick.drop))) h)
    · omega
    · simp
    · rw [htk, formsOf_append, ← hS]; simp [formsOf]
    · simp; omega
  · obtain rfl : i = ns.length := by omega
    rw [List.take_length] at hS
    subst hS
    (try (refine st_R16_3 ?_; intros))
    refine WL.rowStr (s := formsOf ns) rfl hml (by (repeat (first | exact List.Mem.head _ | apply List.Mem.tail))) rfl rfl rfl rfl rfl ?_
    (try (refine st_R16_3 ?_; intros))
    (refine q_fin0 ?_)
    exact Gives.mk rfl
end Go.Proofs.Ytdmdabjaboigcaa

