/-
  Parts of a walk, joined: RT7 RT4 RT8 ER1 ER2 ET15 RT9 RT16 RT17 ET16 E31 EN1 EN2. No condition.
-/
import Derived.Test.YtelgegefmjlimaaDoorP4
import Derived.Test.YtelgegefmjlimaaDoorP2
set_option linter.all false
/-
  Plain facts: pieces that two texts have alike, their order; a rune's first piece. No condition.
-/
set_option linter.all false
namespace Go.Eng
open Go
/-- a piece's place in the order of pieces -/
def wt (l : List UInt8) (p : Pc) : Nat := if p.b then 16777216 + gb l p.at_ else p.r
def cm : List Nat → List Nat → Nat
  | x :: X, y :: Y => if x = y then cm X Y + 1 else 0
  | _, _ => 0
def cmpL : List Nat → List Nat → Int
  | [], [] => 0
  | [], _ :: _ => -1
  | _ :: _, [] => 1
  | x :: X, y :: Y => if x = y then cmpL X Y else if x < y then -1 else 1
theorem cm_pre : ∀ (P X Y : List Nat), cm (P ++ X) (P ++ Y) = P.length + cm X Y
  | [], X, Y => by simp
  | p :: P, X, Y => by simp [cm, cm_pre P X Y]; omega
theorem cmpL_pre : ∀ (P X Y : List Nat), cmpL (P ++ X) (P ++ Y) = cmpL X Y
  | [], X, Y => rfl
  | p :: P, X, Y => by simp [cmpL, cmpL_pre P X Y]
/-- two rows that have nothing alike at their heads -/
def stop : List Nat → List Nat → Prop
  | x :: _, y :: _ => x ≠ y
  | _, _ => True
theorem readP_cases {l : List UInt8} {k : Nat} (hk : k < l.length) : ((readP l k).b = true ∧ (readP l k).w = 1 ∧ (readP l k).r = 65533) ∨ ((readP l k).b = false ∧ (readP l k).w = wd (readP l k).r ∧ (readP l k).r ≤ 1114111) := by
  unfold readP
  split
  · exact .inl ⟨rfl, rfl, rfl⟩
  · rename_i h
    rcases dl_cases (l.drop k) (by simp; omega) with ⟨h1, h2, _⟩ | ⟨h2, _⟩
    · exact .inr ⟨rfl, h2, okr_le h1⟩
    · exact absurd h2 h
theorem wt_read {l : List UInt8} {k : Nat} : wt l (readP l k) = if (readP l k).b then 16777216 + gb l k else (readP l k).r := by unfold wt; rw [readP_at]
/-- so far all is alike -/
def Sh (a b : List UInt8) (n k : Nat) : Prop := ∃ pa pb, pieces a = pa ++ from_ a k ∧ pieces b = pb ++ from_ b k ∧ pa.length = n ∧ pb.length = n ∧ pa.map (wt a) = pb.map (wt b) ∧ k ≤ a.length ∧ k ≤ b.length
theorem Sh.start (a b : List UInt8) : Sh a b 0 0 := ⟨[], [], rfl, rfl, rfl, rfl, rfl, by omega, by omega⟩
theorem wt_same {a b : List UInt8} {k : Nat} (ha : k < a.length) (hb : k < b.length) : wt a (readP a k) = wt b (readP b k) ↔ readP a k = readP b k ∧ ((readP a k).b = true → gb a k = gb b k) := by
  rw [wt_read, wt_read]
  have h1 := readP_at a k
  have h2 := readP_at b k
  have h3 := gb_lt a k
  have h4 := gb_lt b k
  have e1 := readP_cases ha
  have e2 := readP_cases hb
  generalize readP a k = p at *
  generalize readP b k = q at *
  obtain ⟨pa, pw, pr, pb⟩ := p
  obtain ⟨qa, qw, qr, qb⟩ := q
  simp only at *
  subst h1; subst h2
  simp only [Pc.mk.injEq]
  rcases e1 with ⟨rfl, rfl, rfl⟩ | ⟨rfl, rfl, h5⟩ <;> rcases e2 with ⟨rfl, rfl, rfl⟩ | ⟨rfl, rfl, h6⟩
  · simp
  · simp; omega
  · simp; omega
  · simp; intro h; rw [h]
theorem Sh.next {a b : List UInt8} {n k : Nat} (h : Sh a b n k) (ha : k < a.length) (hb : k < b.length) (hw : wt a (readP a k) = wt b (readP b k)) : Sh a b (n + 1) (k + (readP a k).w) := by
  obtain ⟨pa, pb, h1, h2, h3, h4, h5, h6, h7⟩ := h
  have he := ((wt_same ha hb).1 hw).1
  rw [from_cons ha] at h1
  rw [from_cons hb] at h2
  have w1 := readP_w ha
  have w2 := readP_w hb
  refine ⟨pa ++ [readP a k], pb ++ [readP b k], by simpa using h1, by rw [he]; simpa using h2, by simp [h3], by simp [h4], by simp [h5, hw], by omega, by rw [he]; omega⟩
theorem Sh.done {a b : List UInt8} {n k : Nat} (h : Sh a b n k) (hs : k = a.length ∨ k = b.length ∨ wt a (readP a k) ≠ wt b (readP b k)) :
    n = cm ((pieces a).map (wt a)) ((pieces b).map (wt b)) ∧ cmpL ((pieces a).map (wt a)) ((pieces b).map (wt b)) = if k = a.length ∧ k = b.length then 0 else if k = a.length then -1 else if k = b.length then 1 else if wt a (readP a k) < wt b (readP b k) then -1 else 1 := by
  obtain ⟨pa, pb, h1, h2, h3, h4, h5, h6, h7⟩ := h
  rw [h1, h2, List.map_append, List.map_append, ← h5, cm_pre, cmpL_pre, List.length_map, h3]
  rcases Nat.lt_or_eq_of_le h6 with ha | ha
  · rw [from_cons ha]
    rcases Nat.lt_or_eq_of_le h7 with hb | hb
    · rw [from_cons hb]
      have hne : wt a (readP a k) ≠ wt b (readP b k) := by omega
      simp only [List.map_cons, cm, cmpL, if_neg hne]
      refine ⟨by omega, ?_⟩
      simp [show ¬ k = a.length by omega, show ¬ k = b.length by omega]
    · rw [from_nil (l := b) (k := k) (by omega)]
      simp only [List.map_cons, List.map_nil, cm, cmpL]
      refine ⟨by omega, ?_⟩
      rw [if_neg (by omega), if_neg (by omega), if_pos hb]
  · rw [from_nil (l := a) (k := k) (by omega)]
    rcases Nat.lt_or_eq_of_le h7 with hb | hb
    · rw [from_cons hb]
      simp only [List.map_cons, List.map_nil, cm, cmpL]
      refine ⟨by omega, ?_⟩
      rw [if_neg (by omega), if_pos ha]
    · rw [from_nil (l := b) (k := k) (by omega)]
      simp only [List.map_nil, cm, cmpL]
      refine ⟨by omega, ?_⟩
      rw [if_pos ⟨ha, hb⟩]
/-- the place of a rune's first piece -/
def idx : List Pc → Int → Int
  | [], _ => -1
  | p :: ps, r => if (p.r : Int) = r ∧ p.b = false then (p.at_ : Int) else idx ps r
def noIdx (ps : List Pc) (r : Int) : Prop := ∀ p ∈ ps, ¬ ((p.r : Int) = r ∧ p.b = false)
end Go.Eng

/-
  Plain facts on the pieces of a text, fourth part: the boundaries as a row of numbers, and the ones next to a place. No condition.
-/
set_option linter.all false
namespace Go.Eng
open Go
set_option linter.all false
/-- the boundaries of a text -/
def endsOf (l : List UInt8) : List Nat := (pieces l).map Pc.at_ ++ [l.length]
def leOf (k : Nat) : List Nat → Nat → Nat
  | [], a => a
  | x :: xs, a => leOf k xs (if x ≤ k then x else a)
def geOf (k : Nat) : List Nat → Nat → Nat
  | [], a => a
  | x :: xs, a => if k ≤ x then x else geOf k xs a
end Go.Eng

/-
  Plain facts: pieces of a text's beginning; a text's pieces as texts; from the end on. No condition.
-/
set_option linter.all false
namespace Go.Eng
open Go
theorem begins_take {l : List UInt8} {c n : Nat} (h : begins (l.take n) c) : begins l c := by
  obtain ⟨h1, h2⟩ := h
  simp only [List.length_take] at h1
  refine ⟨by omega, fun k hk => ?_⟩
  rw [← h2 k hk]
  simp only [nb, gb, List.getD_eq_getElem?_getD, List.length_take]
  rw [List.getElem?_take_of_lt (by omega)]
theorem begins_of_take {l : List UInt8} {c n : Nat} (h : begins l c) (hn : wd c ≤ n) : begins (l.take n) c := by
  obtain ⟨h1, h2⟩ := h
  refine ⟨by simp only [List.length_take]; omega, fun k hk => ?_⟩
  rw [← h2 k hk]
  simp only [nb, gb, List.getD_eq_getElem?_getD, List.length_take]
  rw [List.getElem?_take_of_lt (by omega)]
theorem read_take {l : List UInt8} {k n : Nat} (hk : k + (readP l k).w ≤ n) (hn : n ≤ l.length) (hkl : k < l.length) : readP (l.take n) k = readP l k := by
  have hw := readP_w hkl
  have hd : (l.take n).drop k = (l.drop k).take (n - k) := by rw [List.drop_take]
  have hlen : ((l.drop k).take (n - k)).length = n - k := by simp; omega
  have key : dl ((l.drop k).take (n - k)) = dl (l.drop k) := by
    rcases dl_cases (l.drop k) (by simp; omega) with ⟨h1, h2, h3⟩ | ⟨h1, h2⟩
    · have hwd : (readP l k).w = wd (dl (l.drop k)).1 := by rw [readP_w_eq, h2]
      rw [dl_of_begins h1 (begins_of_take h3 (by omega)), ← h2]
    · rw [h1]
      rcases dl_cases ((l.drop k).take (n - k)) (by omega) with ⟨g1, _, g3⟩ | ⟨g1, _⟩
      · exact absurd (begins_take g3) (h2 _ g1)
      · exact g1
  unfold readP
  rw [hd, key]
theorem from_take {l : List UInt8} {n : Nat} (hn : n ≤ l.length) : ∀ (pre : List Pc) (k : Nat), from_ l k = pre ++ from_ l n → k ≤ n → from_ (l.take n) k = pre
  | [], k, h, hk => by
    rcases Nat.lt_or_eq_of_le hk with hlt | rfl
    · exfalso
      simp only [List.nil_append] at h
      rw [from_cons (by omega)] at h
      by_cases hnl : n < l.length
      · rw [from_cons hnl] at h
        have := congrArg (fun x => (x.head?.map Pc.at_)) h
        simp only [List.head?_cons, Option.map_some, readP_at, Option.some.injEq] at this
        omega
      · rw [from_nil (k := n) hnl] at h; cases h
    · rw [from_nil (by simp; omega)]
  | p :: pre, k, h, hk => by
    have hkl : k < l.length := by
      rcases Nat.lt_or_ge k l.length with h1 | h1
      · exact h1
      · rw [from_nil (by omega)] at h; cases h
    rw [from_cons hkl, List.cons_append] at h
    simp only [List.cons.injEq] at h
    obtain ⟨rfl, h⟩ := h
    have hw := readP_w hkl
    have hle : k + (readP l k).w ≤ n := by
      rcases Nat.lt_or_ge n (k + (readP l k).w) with hlt | hge
      · exfalso
        -- no piece behind k begins at n
        rcases Nat.lt_or_eq_of_le hn with hnl | hnl
        · have hm : readP l n ∈ from_ l (k + (readP l k).w) := by rw [h, from_cons hnl]; exact List.mem_append_right _ List.mem_cons_self
          obtain ⟨A, B, e⟩ := List.append_of_mem hm
          have := (from_split l l.length _ (by omega) _ _ _ e).1
          rw [readP_at] at this; omega
        · omega
      · exact hge
    have hlt : k < (l.take n).length := by simp; omega
    rw [from_cons hlt, read_take hle hn hkl, from_take hn pre _ h hle]
theorem pieces_take {l : List UInt8} {n : Nat} {pre : List Pc} (hn : n ≤ l.length) (h : pieces l = pre ++ from_ l n) : pieces (l.take n) = pre := from_take hn pre 0 h (Nat.zero_le _)
/-- a piece's bytes -/
def txt (l : List UInt8) (p : Pc) : List UInt8 := (l.take (p.at_ + p.w)).drop p.at_
theorem mem_w {l : List UInt8} {p : Pc} (h : p ∈ pieces l) : p.at_ < l.length ∧ 1 ≤ p.w ∧ p.w ≤ 4 ∧ p.at_ + p.w ≤ l.length := by
  obtain ⟨_, h2, h3⟩ := reach_of_mem h
  have := readP_w h2
  rw [← h3] at this
  omega
def mendOf (l w : List UInt8) (ps : List Pc) : List UInt8 := ps.flatMap fun p => if p.b then w else txt l p
def textsOf (l : List UInt8) (ps : List Pc) : List UInt8 := ps.flatMap (txt l)
/-- where the first so many pieces end -/
def cutK (l : List UInt8) (n : Int) : Nat := if n ≤ 0 then 0 else (endsOf l).getD n.toNat l.length
end Go.Eng

/-
  The walks of runes.last, Before, shared, Common and Cut, for a seat that does not reach the rest of runes. No condition.
-/
namespace Go.Proofs.YtelgegefmjlimaaDoor
open Go Go.Eng
set_option maxRecDepth 100000
set_option maxHeartbeats 4000000
set_option linter.all false
attribute [local irreducible] WL WC WQ QFun QLoop Does Q1 QRound QAssign Go.Addr.add
theorem sq_ER1_1 {G : Prop} (h : G := by (repeat (first | (refine sp ?_; (repeat intro zzc)) | (refine iF 84 rfl ?_; refine w_callG Tryd.func84 ?_ (hs := read_z _ (by (first | with_reducible exact natz _ | with_reducible exact natz0 | with_reducible exact natz1 | with_reducible exact natz2 | with_reducible exact natz3 | with_reducible exact natz4 | with_reducible exact natz8 | (apply natz_add; (· first | with_reducible exact natz _ | with_reducible exact natz0 | with_reducible exact natz1 | with_reducible exact natz2 | with_reducible exact natz3 | with_reducible exact natz4 | with_reducible exact natz8); (· first | with_reducible exact natz _ | with_reducible exact natz0 | with_reducible exact natz1 | with_reducible exact natz2 | with_reducible exact natz3 | with_reducible exact natz4 | with_reducible exact natz8)) | (apply natz_sub; (· first | with_reducible exact natz _ | with_reducible exact natz0 | with_reducible exact natz1 | with_reducible exact natz2 | with_reducible exact natz3 | with_reducible exact natz4 | with_reducible exact natz8); (· first | with_reducible exact natz _ | with_reducible exact natz0 | with_reducible exact natz1 | with_reducible exact natz2 | with_reducible exact natz3 | with_reducible exact natz4 | with_reducible exact natz8); (· omega)) | exact (Int.toNat_of_nonneg (by omega)).symm)) (by omega) (by omega) _ _ _)))); exact WQ.q1 rfl) : G := h
theorem st_ER1_1 {G G' : Prop} (next : G') (h : Bx G' → G := by intro zzn; (first | ((refine st ?_; (repeat intro zzc)); (try ((first | (refine iF 84 rfl ?_; refine w_callG Tryd.func84 ?_ (hs := read_z _ (by (first | with_reducible exact natz _ | with_reducible exact natz0 | with_reducible exact natz1 | with_reducible exact natz2 | with_reducible exact natz3 | with_reducible exact natz4 | with_reducible exact natz8 | (apply natz_add; (· first | with_reducible exact natz _ | with_reducible exact natz0 | with_reducible exact natz1 | with_reducible exact natz2 | with_reducible exact natz3 | with_reducible exact natz4 | with_reducible exact natz8); (· first | with_reducible exact natz _ | with_reducible exact natz0 | with_reducible exact natz1 | with_reducible exact natz2 | with_reducible exact natz3 | with_reducible exact natz4 | with_reducible exact natz8)) | (apply natz_sub; (· first | with_reducible exact natz _ | with_reducible exact natz0 | with_reducible exact natz1 | with_reducible exact natz2 | with_reducible exact natz3 | with_reducible exact natz4 | with_reducible exact natz8); (· first | with_reducible exact natz _ | with_reducible exact natz0 | with_reducible exact natz1 | with_reducible exact natz2 | with_reducible exact natz3 | with_reducible exact natz4 | with_reducible exact natz8); (· omega)) | exact (Int.toNat_of_nonneg (by omega)).symm)) (by omega) (by omega) _ _ _)) | ((refine iDraw ?_; (first | refine WC.drawAll rfl (by decide +kernel) ?_ | refine WC.draw 1 rfl (by decide +kernel) ?_ | refine WC.draw 2 rfl (by decide +kernel) ?_ | refine WC.draw 3 rfl (by decide +kernel) ?_ | refine WC.draw 4 rfl (by decide +kernel) ?_ | refine WC.draw 5 rfl (by decide +kernel) ?_ | refine WC.draw 6 rfl (by decide +kernel) ?_ | refine WC.draw 7 rfl (by decide +kernel) ?_ | refine WC.draw 8 rfl (by decide +kernel) ?_ | refine WC.draw 9 rfl (by decide +kernel) ?_ | refine WC.draw 10 rfl (by decide +kernel) ?_ | refine WC.draw 11 rfl (by decide +kernel) ?_ | refine WC.draw 12 rfl (by decide +kernel) ?_ | refine WC.draw 13 rfl (by decide +kernel) ?_ | refine WC.draw 14 rfl (by decide +kernel) ?_ | refine WC.draw 15 rfl (by decide +kernel) ?_ | refine WC.draw 16 rfl (by decide +kernel) ?_ | refine WC.draw 17 rfl (by decide +kernel) ?_ | refine WC.draw 18 rfl (by decide +kernel) ?_ | refine WC.draw 19 rfl (by decide +kernel) ?_ | refine WC.draw 20 rfl (by decide +kernel) ?_ | refine WC.draw 21 rfl (by decide +kernel) ?_ | refine WC.draw 22 rfl (by decide +kernel) ?_ | refine WC.draw 23 rfl (by decide +kernel) ?_ | refine WC.draw 24 rfl (by decide +kernel) ?_)); (repeat (refine WD.cons rfl (fun c h => by cases h) sq_ER1_1 ?_)); refine WD.nil ?_)); (try (refine st ?_; (repeat intro zzc)))))) | ((first | (refine iF 84 rfl ?_; refine w_callG Tryd.func84 ?_ (hs := read_z _ (by (first | with_reducible exact natz _ | with_reducible exact natz0 | with_reducible exact natz1 | with_reducible exact natz2 | with_reducible exact natz3 | with_reducible exact natz4 | with_reducible exact natz8 | (apply natz_add; (· first | with_reducible exact natz _ | with_reducible exact natz0 | with_reducible exact natz1 | with_reducible exact natz2 | with_reducible exact natz3 | with_reducible exact natz4 | with_reducible exact natz8); (· first | with_reducible exact natz _ | with_reducible exact natz0 | with_reducible exact natz1 | with_reducible exact natz2 | with_reducible exact natz3 | with_reducible exact natz4 | with_reducible exact natz8)) | (apply natz_sub; (· first | with_reducible exact natz _ | with_reducible exact natz0 | with_reducible exact natz1 | with_reducible exact natz2 | with_reducible exact natz3 | with_reducible exact natz4 | with_reducible exact natz8); (· first | with_reducible exact natz _ | with_reducible exact natz0 | with_reducible exact natz1 | with_reducible exact natz2 | with_reducible exact natz3 | with_reducible exact natz4 | with_reducible exact natz8); (· omega)) | exact (Int.toNat_of_nonneg (by omega)).symm)) (by omega) (by omega) _ _ _)) | ((refine iDraw ?_; (first | refine WC.drawAll rfl (by decide +kernel) ?_ | refine WC.draw 1 rfl (by decide +kernel) ?_ | refine WC.draw 2 rfl (by decide +kernel) ?_ | refine WC.draw 3 rfl (by decide +kernel) ?_ | refine WC.draw 4 rfl (by decide +kernel) ?_ | refine WC.draw 5 rfl (by decide +kernel) ?_ | refine WC.draw 6 rfl (by decide +kernel) ?_ | refine WC.draw 7 rfl (by decide +kernel) ?_ | refine WC.draw 8 rfl (by decide +kernel) ?_ | refine WC.draw 9 rfl (by decide +kernel) ?_ | refine WC.draw 10 rfl (by decide +kernel) ?_ | refine WC.draw 11 rfl (by decide +kernel) ?_ | refine WC.draw 12 rfl (by decide +kernel) ?_ | refine WC.draw 13 rfl (by decide +kernel) ?_ | refine WC.draw 14 rfl (by decide +kernel) ?_ | refine WC.draw 15 rfl (by decide +kernel) ?_ | refine WC.draw 16 rfl (by decide +kernel) ?_ | refine WC.draw 17 rfl (by decide +kernel) ?_ | refine WC.draw 18 rfl (by decide +kernel) ?_ | refine WC.draw 19 rfl (by decide +kernel) ?_ | refine WC.draw 20 rfl (by decide +kernel) ?_ | refine WC.draw 21 rfl (by decide +kernel) ?_ | refine WC.draw 22 rfl (by decide +kernel) ?_ | refine WC.draw 23 rfl (by decide +kernel) ?_ | refine WC.draw 24 rfl (by decide +kernel) ?_)); (repeat (refine WD.cons rfl (fun c h => by cases h) sq_ER1_1 ?_)); refine WD.nil ?_)); (try (refine st ?_; (repeat intro zzc))))); (repeat ((first | (refine iF 84 rfl ?_; refine w_callG Tryd.func84 ?_ (hs := read_z _ (by (first | with_reducible exact natz _ | with_reducible exact natz0 | with_reducible exact natz1 | with_reducible exact natz2 | with_reducible exact natz3 | with_reducible exact natz4 | with_reducible exact natz8 | (apply natz_add; (· first | with_reducible exact natz _ | with_reducible exact natz0 | with_reducible exact natz1 | with_reducible exact natz2 | with_reducible exact natz3 | with_reducible exact natz4 | with_reducible exact natz8); (· first | with_reducible exact natz _ | with_reducible exact natz0 | with_reducible exact natz1 | with_reducible exact natz2 | with_reducible exact natz3 | with_reducible exact natz4 | with_reducible exact natz8)) | (apply natz_sub; (· first | with_reducible exact natz _ | with_reducible exact natz0 | with_reducible exact natz1 | with_reducible exact natz2 | with_reducible exact natz3 | with_reducible exact natz4 | with_reducible exact natz8); (· first | with_reducible exact natz _ | with_reducible exact natz0 | with_reducible exact natz1 | with_reducible exact natz2 | with_reducible exact natz3 | with_reducible exact natz4 | with_reducible exact natz8); (· omega)) | exact (Int.toNat_of_nonneg (by omega)).symm)) (by omega) (by omega) _ _ _)) | ((refine iDraw ?_; (first | refine WC.drawAll rfl (by decide +kernel) ?_ | refine WC.draw 1 rfl (by decide +kernel) ?_ | refine WC.draw 2 rfl (by decide +kernel) ?_ | refine WC.draw 3 rfl (by decide +kernel) ?_ | refine WC.draw 4 rfl (by decide +kernel) ?_ | refine WC.draw 5 rfl (by decide +kernel) ?_ | refine WC.draw 6 rfl (by decide +kernel) ?_ | refine WC.draw 7 rfl (by decide +kernel) ?_ | refine WC.draw 8 rfl (by decide +kernel) ?_ | refine WC.draw 9 rfl (by decide +kernel) ?_ | refine WC.draw 10 rfl (by decide +kernel) ?_ | refine WC.draw 11 rfl (by decide +kernel) ?_ | refine WC.draw 12 rfl (by decide +kernel) ?_ | refine WC.draw 13 rfl (by decide +kernel) ?_ | refine WC.draw 14 rfl (by decide +kernel) ?_ | refine WC.draw 15 rfl (by decide +kernel) ?_ | refine WC.draw 16 rfl (by decide +kernel) ?_ | refine WC.draw 17 rfl (by decide +kernel) ?_ | refine WC.draw 18 rfl (by decide +kernel) ?_ | refine WC.draw 19 rfl (by decide +kernel) ?_ | refine WC.draw 20 rfl (by decide +kernel) ?_ | refine WC.draw 21 rfl (by decide +kernel) ?_ | refine WC.draw 22 rfl (by decide +kernel) ?_ | refine WC.draw 23 rfl (by decide +kernel) ?_ | refine WC.draw 24 rfl (by decide +kernel) ?_)); (repeat (refine WD.cons rfl (fun c h => by cases h) sq_ER1_1 ?_)); refine WD.nil ?_)); (try (refine st ?_; (repeat intro zzc))))); (repeat revert zzc); exact zzn.out) : G := h ⟨next⟩
theorem read_z (l : List UInt8) {z : Int} {k : Nat} (hz : z = (k : Int)) (hl : l.length ≤ 9223372036854775804) (hk : k < l.length) (w0 : World) (m : Mem) (H : SHeap) :
    Does Tryd.prog 84 #[str l, .int .i64 z] w0 m H (Gives (readP l k).v m H) := by subst hz; exact read_any l k hl hk w0 m H
theorem last_any (l : List UInt8) (hl : l.length ≤ 9223372036854775804) (h0 : 0 < l.length) (w0 : World) (m : Mem) (H : SHeap) :
    Does Tryd.prog 85 #[str l] w0 m H (Gives (lastP l).v m H) := by
  refine Does.of_body (args := [str l]) Tryd.func85 rfl Tryd.ntmps85 rfl ?_
  (refine st_ER1_1 ?_; intros; rename_i bk)
  refine WC.loopW [(4, .int .i64 2), (3, .int .i64 (l.length : Int)), (0, str l), (2, .pointer (some ⟨bk, 0, none⟩))] ?_ (fun j r ds m' H' => ∃ w : Nat, j = 5 - w ∧ 2 ≤ w ∧ w ≤ 5 ∧ r = [(4, .int .i64 (w : Int)), (3, .int .i64 (l.length : Int)), (0, str l), (2, .pointer (some ⟨bk, 0, none⟩))] ∧ ds = [] ∧ m' = m ∧ H' = .blk bk (.cells [.int .i64 0, .int .i64 0, .int .i32 0, .bool false].toArray 126 (0, 0)) :: H ∧
      ∀ v, 2 ≤ v → v < w → v ≤ l.length → ¬ ((readP l (l.length - v)).b = false ∧ (readP l (l.length - v)).w = v)) 3 ⟨2, rfl, by omega, by omega, rfl, rfl, rfl, rfl, fun v h1 h2 => by omega⟩ ?_
  · (repeat (first | exact Env.Sub.nil | refine Env.Sub.cons rfl ?_))
  rintro j r ds m' H' ⟨w, rfl, h1, h2, rfl, rfl, rfl, rfl, hno⟩
  (try (refine st_ER1_1 ?_; intros))
  (first | refine c_ways (fun h3 => ?_) (fun h3 => ?_) | refine c_nways (fun h3 => ?_) (fun h3 => ?_) | refine w_gways (fun h3 => ?_) (fun h3 => ?_) | refine w_gnways (fun h3 => ?_) (fun h3 => ?_))
  · (try (refine st_ER1_1 ?_; intros))
    (first | refine c_ways (fun h4 => ?_) (fun h4 => ?_) | refine c_nways (fun h4 => ?_) (fun h4 => ?_) | refine w_gways (fun h4 => ?_) (fun h4 => ?_) | refine w_gnways (fun h4 => ?_) (fun h4 => ?_))
    · cases hb : (readP l (l.length - w)).b with
      | true =>
        (try (refine st_ER1_1 ?_; intros))
        refine WL.rename 25 (u := .bool false) rfl (by rw [hb]; rfl) ?_
        (try (refine st_ER1_1 ?_; intros))
        exact WQ.next (5 - (w + 1)) ⟨w + 1, rfl, by omega, by omega, rfl, rfl, rfl, rfl, fun v g1 g2 g3 => by
          rcases Nat.lt_or_ge v w with g | g
          · exact hno v g1 g g3
          · obtain rfl : v = w := by omega
            exact fun h => by rw [hb] at h; exact absurd h.1 (by simp)⟩ (by omega) zsb (fun w h => h.drop)
      | false =>
        (try (refine st_ER1_1 ?_; intros))
        refine WL.rename 25 (u := .bool true) rfl (by rw [hb]; rfl) ?_
        (try (refine st_ER1_1 ?_; intros))
        (first | refine c_ways (fun h5 => ?_) (fun h5 => ?_) | refine c_nways (fun h5 => ?_) (fun h5 => ?_) | refine w_gways (fun h5 => ?_) (fun h5 => ?_) | refine w_gnways (fun h5 => ?_) (fun h5 => ?_))
        · (try (refine st_ER1_1 ?_; intros))
          (refine q_fin0 ?_)
          rw [lastP_whole (w := w) (by omega) (by omega) hb (by omega)]
          exact Gives.mk rfl
        · (try (refine st_ER1_1 ?_; intros))
          exact WQ.next (5 - (w + 1)) ⟨w + 1, rfl, by omega, by omega, rfl, rfl, rfl, rfl, fun v g1 g2 g3 => by
          rcases Nat.lt_or_ge v w with g | g
          · exact hno v g1 g g3
          · obtain rfl : v = w := by omega
            exact fun h => h5 (by rw [h.2])⟩ (by omega) zsb (fun w h => h.drop)
    · (try (refine st_ER1_1 ?_; intros))
      (refine q_fin0 ?_)
      rw [← lastP_one h0 (fun v g1 g2 g3 => hno v g1 (by omega) g3)]
      exact Gives.mk rfl
  · (try (refine st_ER1_1 ?_; intros))
    (refine q_fin0 ?_)
    rw [← lastP_one h0 (fun v g1 g2 g3 => hno v g1 (by omega) g3)]
    exact Gives.mk rfl
theorem sq_ER1_2 {G : Prop} (h : G := by (repeat (first | (refine sp ?_; (repeat intro zzc)) | (refine iF 84 rfl ?_; refine w_callG Tryd.func84 ?_ (hs := read_z _ (by (first | with_reducible exact natz _ | with_reducible exact natz0 | with_reducible exact natz1 | with_reducible exact natz2 | with_reducible exact natz3 | with_reducible exact natz4 | with_reducible exact natz8 | (apply natz_add; (· first | with_reducible exact natz _ | with_reducible exact natz0 | with_reducible exact natz1 | with_reducible exact natz2 | with_reducible exact natz3 | with_reducible exact natz4 | with_reducible exact natz8); (· first | with_reducible exact natz _ | with_reducible exact natz0 | with_reducible exact natz1 | with_reducible exact natz2 | with_reducible exact natz3 | with_reducible exact natz4 | with_reducible exact natz8)) | (apply natz_sub; (· first | with_reducible exact natz _ | with_reducible exact natz0 | with_reducible exact natz1 | with_reducible exact natz2 | with_reducible exact natz3 | with_reducible exact natz4 | with_reducible exact natz8); (· first | with_reducible exact natz _ | with_reducible exact natz0 | with_reducible exact natz1 | with_reducible exact natz2 | with_reducible exact natz3 | with_reducible exact natz4 | with_reducible exact natz8); (· omega)) | exact (Int.toNat_of_nonneg (by omega)).symm)) (by omega) (by omega) _ _ _)) | (refine iF 85 rfl ?_; refine w_callG Tryd.func85 ?_ (hs := last_any _ (by simp; omega) (by simp; omega) _ _ _)))); exact WQ.q1 rfl) : G := h
theorem st_ER1_2 {G G' : Prop} (next : G') (h : Bx G' → G := by intro zzn; (first | ((refine st ?_; (repeat intro zzc)); (try ((first | (refine iF 84 rfl ?_; refine w_callG Tryd.func84 ?_ (hs := read_z _ (by (first | with_reducible exact natz _ | with_reducible exact natz0 | with_reducible exact natz1 | with_reducible exact natz2 | with_reducible exact natz3 | with_reducible exact natz4 | with_reducible exact natz8 | (apply natz_add; (· first | with_reducible exact natz _ | with_reducible exact natz0 | with_reducible exact natz1 | with_reducible exact natz2 | with_reducible exact natz3 | with_reducible exact natz4 | with_reducible exact natz8); (· first | with_reducible exact natz _ | with_reducible exact natz0 | with_reducible exact natz1 | with_reducible exact natz2 | with_reducible exact natz3 | with_reducible exact natz4 | with_reducible exact natz8)) | (apply natz_sub; (· first | with_reducible exact natz _ | with_reducible exact natz0 | with_reducible exact natz1 | with_reducible exact natz2 | with_reducible exact natz3 | with_reducible exact natz4 | with_reducible exact natz8); (· first | with_reducible exact natz _ | with_reducible exact natz0 | with_reducible exact natz1 | with_reducible exact natz2 | with_reducible exact natz3 | with_reducible exact natz4 | with_reducible exact natz8); (· omega)) | exact (Int.toNat_of_nonneg (by omega)).symm)) (by omega) (by omega) _ _ _)) | (refine iF 85 rfl ?_; refine w_callG Tryd.func85 ?_ (hs := last_any _ (by simp; omega) (by simp; omega) _ _ _)) | ((refine iDraw ?_; (first | refine WC.drawAll rfl (by decide +kernel) ?_ | refine WC.draw 1 rfl (by decide +kernel) ?_ | refine WC.draw 2 rfl (by decide +kernel) ?_ | refine WC.draw 3 rfl (by decide +kernel) ?_ | refine WC.draw 4 rfl (by decide +kernel) ?_ | refine WC.draw 5 rfl (by decide +kernel) ?_ | refine WC.draw 6 rfl (by decide +kernel) ?_ | refine WC.draw 7 rfl (by decide +kernel) ?_ | refine WC.draw 8 rfl (by decide +kernel) ?_ | refine WC.draw 9 rfl (by decide +kernel) ?_ | refine WC.draw 10 rfl (by decide +kernel) ?_ | refine WC.draw 11 rfl (by decide +kernel) ?_ | refine WC.draw 12 rfl (by decide +kernel) ?_ | refine WC.draw 13 rfl (by decide +kernel) ?_ | refine WC.draw 14 rfl (by decide +kernel) ?_ | refine WC.draw 15 rfl (by decide +kernel) ?_ | refine WC.draw 16 rfl (by decide +kernel) ?_ | refine WC.draw 17 rfl (by decide +kernel) ?_ | refine WC.draw 18 rfl (by decide +kernel) ?_ | refine WC.draw 19 rfl (by decide +kernel) ?_ | refine WC.draw 20 rfl (by decide +kernel) ?_ | refine WC.draw 21 rfl (by decide +kernel) ?_ | refine WC.draw 22 rfl (by decide +kernel) ?_ | refine WC.draw 23 rfl (by decide +kernel) ?_ | refine WC.draw 24 rfl (by decide +kernel) ?_)); (repeat (refine WD.cons rfl (fun c h => by cases h) sq_ER1_2 ?_)); refine WD.nil ?_)); (try (refine st ?_; (repeat intro zzc)))))) | ((first | (refine iF 84 rfl ?_; refine w_callG Tryd.func84 ?_ (hs := read_z _ (by (first | with_reducible exact natz _ | with_reducible exact natz0 | with_reducible exact natz1 | with_reducible exact natz2 | with_reducible exact natz3 | with_reducible exact natz4 | with_reducible exact natz8 | (apply natz_add; (· first | with_reducible exact natz _ | with_reducible exact natz0 | with_reducible exact natz1 | with_reducible exact natz2 | with_reducible exact natz3 | with_reducible exact natz4 | with_reducible exact natz8); (· first | with_reducible exact natz _ | with_reducible exact natz0 | with_reducible exact natz1 | with_reducible exact natz2 | with_reducible exact natz3 | with_reducible exact natz4 | with_reducible exact natz8)) | (apply natz_sub; (· first | with_reducible exact natz _ | with_reducible exact natz0 | with_reducible exact natz1 | with_reducible exact natz2 | with_reducible exact natz3 | with_reducible exact natz4 | with_reducible exact natz8); (· first | with_reducible exact natz _ | with_reducible exact natz0 | with_reducible exact natz1 | with_reducible exact natz2 | with_reducible exact natz3 | with_reducible exact natz4 | with_reducible exact natz8); (· omega)) | exact (Int.toNat_of_nonneg (by omega)).symm)) (by omega) (by omega) _ _ _)) | (refine iF 85 rfl ?_; refine w_callG Tryd.func85 ?_ (hs := last_any _ (by simp; omega) (by simp; omega) _ _ _)) | ((refine iDraw ?_; (first | refine WC.drawAll rfl (by decide +kernel) ?_ | refine WC.draw 1 rfl (by decide +kernel) ?_ | refine WC.draw 2 rfl (by decide +kernel) ?_ | refine WC.draw 3 rfl (by decide +kernel) ?_ | refine WC.draw 4 rfl (by decide +kernel) ?_ | refine WC.draw 5 rfl (by decide +kernel) ?_ | refine WC.draw 6 rfl (by decide +kernel) ?_ | refine WC.draw 7 rfl (by decide +kernel) ?_ | refine WC.draw 8 rfl (by decide +kernel) ?_ | refine WC.draw 9 rfl (by decide +kernel) ?_ | refine WC.draw 10 rfl (by decide +kernel) ?_ | refine WC.draw 11 rfl (by decide +kernel) ?_ | refine WC.draw 12 rfl (by decide +kernel) ?_ | refine WC.draw 13 rfl (by decide +kernel) ?_ | refine WC.draw 14 rfl (by decide +kernel) ?_ | refine WC.draw 15 rfl (by decide +kernel) ?_ | refine WC.draw 16 rfl (by decide +kernel) ?_ | refine WC.draw 17 rfl (by decide +kernel) ?_ | refine WC.draw 18 rfl (by decide +kernel) ?_ | refine WC.draw 19 rfl (by decide +kernel) ?_ | refine WC.draw 20 rfl (by decide +kernel) ?_ | refine WC.draw 21 rfl (by decide +kernel) ?_ | refine WC.draw 22 rfl (by decide +kernel) ?_ | refine WC.draw 23 rfl (by decide +kernel) ?_ | refine WC.draw 24 rfl (by decide +kernel) ?_)); (repeat (refine WD.cons rfl (fun c h => by cases h) sq_ER1_2 ?_)); refine WD.nil ?_)); (try (refine st ?_; (repeat intro zzc))))); (repeat ((first | (refine iF 84 rfl ?_; refine w_callG Tryd.func84 ?_ (hs := read_z _ (by (first | with_reducible exact natz _ | with_reducible exact natz0 | with_reducible exact natz1 | with_reducible exact natz2 | with_reducible exact natz3 | with_reducible exact natz4 | with_reducible exact natz8 | (apply natz_add; (· first | with_reducible exact natz _ | with_reducible exact natz0 | with_reducible exact natz1 | with_reducible exact natz2 | with_reducible exact natz3 | with_reducible exact natz4 | with_reducible exact natz8); (· first | with_reducible exact natz _ | with_reducible exact natz0 | with_reducible exact natz1 | with_reducible exact natz2 | with_reducible exact natz3 | with_reducible exact natz4 | with_reducible exact natz8)) | (apply natz_sub; (· first | with_reducible exact natz _ | with_reducible exact natz0 | with_reducible exact natz1 | with_reducible exact natz2 | with_reducible exact natz3 | with_reducible exact natz4 | with_reducible exact natz8); (· first | with_reducible exact natz _ | with_reducible exact natz0 | with_reducible exact natz1 | with_reducible exact natz2 | with_reducible exact natz3 | with_reducible exact natz4 | with_reducible exact natz8); (· omega)) | exact (Int.toNat_of_nonneg (by omega)).symm)) (by omega) (by omega) _ _ _)) | (refine iF 85 rfl ?_; refine w_callG Tryd.func85 ?_ (hs := last_any _ (by simp; omega) (by simp; omega) _ _ _)) | ((refine iDraw ?_; (first | refine WC.drawAll rfl (by decide +kernel) ?_ | refine WC.draw 1 rfl (by decide +kernel) ?_ | refine WC.draw 2 rfl (by decide +kernel) ?_ | refine WC.draw 3 rfl (by decide +kernel) ?_ | refine WC.draw 4 rfl (by decide +kernel) ?_ | refine WC.draw 5 rfl (by decide +kernel) ?_ | refine WC.draw 6 rfl (by decide +kernel) ?_ | refine WC.draw 7 rfl (by decide +kernel) ?_ | refine WC.draw 8 rfl (by decide +kernel) ?_ | refine WC.draw 9 rfl (by decide +kernel) ?_ | refine WC.draw 10 rfl (by decide +kernel) ?_ | refine WC.draw 11 rfl (by decide +kernel) ?_ | refine WC.draw 12 rfl (by decide +kernel) ?_ | refine WC.draw 13 rfl (by decide +kernel) ?_ | refine WC.draw 14 rfl (by decide +kernel) ?_ | refine WC.draw 15 rfl (by decide +kernel) ?_ | refine WC.draw 16 rfl (by decide +kernel) ?_ | refine WC.draw 17 rfl (by decide +kernel) ?_ | refine WC.draw 18 rfl (by decide +kernel) ?_ | refine WC.draw 19 rfl (by decide +kernel) ?_ | refine WC.draw 20 rfl (by decide +kernel) ?_ | refine WC.draw 21 rfl (by decide +kernel) ?_ | refine WC.draw 22 rfl (by decide +kernel) ?_ | refine WC.draw 23 rfl (by decide +kernel) ?_ | refine WC.draw 24 rfl (by decide +kernel) ?_)); (repeat (refine WD.cons rfl (fun c h => by cases h) sq_ER1_2 ?_)); refine WD.nil ?_)); (try (refine st ?_; (repeat intro zzc))))); (repeat revert zzc); exact zzn.out) : G := h ⟨next⟩
theorem before_in (l : List UInt8) (k : Nat) (hl : l.length ≤ 9223372036854775804) (h1 : 1 ≤ k) (hk : k ≤ l.length) (w0 : World) (m : Mem) (H : SHeap) :
    Does Tryd.prog 72 #[str l, .int .i64 (k : Int)] w0 m H (Gives (.tuple #[(lastP (l.take k)).v, .int .i64 0]) m H) := by
  refine Does.of_body (args := [str l, .int .i64 (k : Int)]) Tryd.func72 rfl Tryd.ntmps72 rfl ?_
  (try (refine st_ER1_2 ?_; intros))
  (refine q_fin0 ?_)
  exact Gives.mk rfl
end Go.Proofs.YtelgegefmjlimaaDoor

/-
  The walks of runes.last, Before, shared, Common and Cut, for a seat that does not reach the rest of runes. No condition.
-/
namespace Go.Proofs.YtelgegefmjlimaaDoor
open Go Go.Eng
set_option maxRecDepth 100000
set_option maxHeartbeats 4000000
set_option linter.all false
attribute [local irreducible] WL WC WQ QFun QLoop Does Q1 QRound QAssign Go.Addr.add
theorem from_length (l : List UInt8) : ∀ d k, l.length - k ≤ d → (from_ l k).length ≤ l.length - k
  | 0, k, h => by rw [from_nil (by omega)]; simp
  | d + 1, k, h => by
    by_cases hk : k < l.length
    · have hw := readP_w hk
      rw [from_cons hk, List.length_cons]
      have := from_length l d (k + (readP l k).w) (by omega)
      omega
    · rw [from_nil hk]; simp
theorem pieces_length (l : List UInt8) : (pieces l).length ≤ l.length := from_length l l.length 0 (by omega)
theorem eq_piece (a b c a' b' c' : Int) (d d' : Bool) : eqB Tryd.prog 8 126 (.agg #[.int .i64 a, .int .i64 b, .int .i32 c, .bool d]) (.agg #[.int .i64 a', .int .i64 b', .int .i32 c', .bool d']) = some (dcd (a = a' ∧ b = b' ∧ c = c' ∧ d = d')) := by
  have h : eqB Tryd.prog 8 126 (.agg #[.int .i64 a, .int .i64 b, .int .i32 c, .bool d]) (.agg #[.int .i64 a', .int .i64 b', .int .i32 c', .bool d']) = some (a == a' && (b == b' && (c == c' && (d == d' && true)))) := by kernel_rfl
  rw [h]
  by_cases hp : a = a' ∧ b = b' ∧ c = c' ∧ d = d'
  · rw [dcd_true hp]; obtain ⟨rfl, rfl, rfl, rfl⟩ := hp; simp
  · rw [dcd_false hp]
    simp only [Bool.and_true, Option.some.injEq, Bool.and_eq_false_iff, beq_eq_false_iff_ne]
    by_cases h1 : a = a' <;> by_cases h2 : b = b' <;> by_cases h3 : c = c' <;> by_cases h4 : d = d' <;> simp_all
theorem eq_pc (p q : Pc) : eqB Tryd.prog 8 126 (.agg p.cs.toArray) (.agg q.cs.toArray) = some (dcd (p = q)) := by
  refine (eq_piece _ _ _ _ _ _ _ _).trans ?_
  by_cases h : p = q
  · subst h; rw [dcd_true rfl, dcd_true ⟨rfl, rfl, rfl, rfl⟩]
  · rw [dcd_false h, dcd_false]
    rintro ⟨h1, h2, h3, h4⟩
    apply h
    obtain ⟨a, b, c, d⟩ := p
    obtain ⟨a', b', c', d'⟩ := q
    simp only at h1 h2 h3 h4
    simp only [Pc.mk.injEq]
    exact ⟨by omega, by omega, by omega, h4⟩
attribute [local irreducible] readP pieces dl wt
theorem sq_ER2_1 {G : Prop} (h : G := by (repeat (first | (refine sp ?_; (repeat intro zzc)) | (refine iB_eql rfl ?_; refine w_eqlV ?_ (he := eq_pc (readP _ _) (readP _ _))) | (refine iB_neq rfl ?_; refine w_neqV ?_ (he := eq_pc (readP _ _) (readP _ _))) | (refine WL.pickIsT rfl (by assumption) rfl rfl ?_) | (refine WL.pickIsF rfl (by assumption) rfl rfl ?_) | (refine iF 84 rfl ?_; refine w_callG Tryd.func84 ?_ (hs := read_z _ (by (first | with_reducible exact natz _ | with_reducible exact natz0 | with_reducible exact natz1 | with_reducible exact natz2 | with_reducible exact natz3 | with_reducible exact natz4 | with_reducible exact natz8 | (apply natz_add; (· first | with_reducible exact natz _ | with_reducible exact natz0 | with_reducible exact natz1 | with_reducible exact natz2 | with_reducible exact natz3 | with_reducible exact natz4 | with_reducible exact natz8); (· first | with_reducible exact natz _ | with_reducible exact natz0 | with_reducible exact natz1 | with_reducible exact natz2 | with_reducible exact natz3 | with_reducible exact natz4 | with_reducible exact natz8)) | (apply natz_sub; (· first | with_reducible exact natz _ | with_reducible exact natz0 | with_reducible exact natz1 | with_reducible exact natz2 | with_reducible exact natz3 | with_reducible exact natz4 | with_reducible exact natz8); (· first | with_reducible exact natz _ | with_reducible exact natz0 | with_reducible exact natz1 | with_reducible exact natz2 | with_reducible exact natz3 | with_reducible exact natz4 | with_reducible exact natz8); (· omega)) | exact (Int.toNat_of_nonneg (by omega)).symm)) (by omega) (by omega) _ _ _)))); exact WQ.q1 rfl) : G := h
theorem st_ER2_1 {G G' : Prop} (next : G') (h : Bx G' → G := by intro zzn; (first | ((refine st ?_; (repeat intro zzc)); (try ((first | (refine iB_eql rfl ?_; refine w_eqlV ?_ (he := eq_pc (readP _ _) (readP _ _))) | (refine iB_neq rfl ?_; refine w_neqV ?_ (he := eq_pc (readP _ _) (readP _ _))) | (refine WL.pickIsT rfl (by assumption) rfl rfl ?_) | (refine WL.pickIsF rfl (by assumption) rfl rfl ?_) | (refine iF 84 rfl ?_; refine w_callG Tryd.func84 ?_ (hs := read_z _ (by (first | with_reducible exact natz _ | with_reducible exact natz0 | with_reducible exact natz1 | with_reducible exact natz2 | with_reducible exact natz3 | with_reducible exact natz4 | with_reducible exact natz8 | (apply natz_add; (· first | with_reducible exact natz _ | with_reducible exact natz0 | with_reducible exact natz1 | with_reducible exact natz2 | with_reducible exact natz3 | with_reducible exact natz4 | with_reducible exact natz8); (· first | with_reducible exact natz _ | with_reducible exact natz0 | with_reducible exact natz1 | with_reducible exact natz2 | with_reducible exact natz3 | with_reducible exact natz4 | with_reducible exact natz8)) | (apply natz_sub; (· first | with_reducible exact natz _ | with_reducible exact natz0 | with_reducible exact natz1 | with_reducible exact natz2 | with_reducible exact natz3 | with_reducible exact natz4 | with_reducible exact natz8); (· first | with_reducible exact natz _ | with_reducible exact natz0 | with_reducible exact natz1 | with_reducible exact natz2 | with_reducible exact natz3 | with_reducible exact natz4 | with_reducible exact natz8); (· omega)) | exact (Int.toNat_of_nonneg (by omega)).symm)) (by omega) (by omega) _ _ _)) | ((refine iDraw ?_; (first | refine WC.drawAll rfl (by decide +kernel) ?_ | refine WC.draw 1 rfl (by decide +kernel) ?_ | refine WC.draw 2 rfl (by decide +kernel) ?_ | refine WC.draw 3 rfl (by decide +kernel) ?_ | refine WC.draw 4 rfl (by decide +kernel) ?_ | refine WC.draw 5 rfl (by decide +kernel) ?_ | refine WC.draw 6 rfl (by decide +kernel) ?_ | refine WC.draw 7 rfl (by decide +kernel) ?_ | refine WC.draw 8 rfl (by decide +kernel) ?_ | refine WC.draw 9 rfl (by decide +kernel) ?_ | refine WC.draw 10 rfl (by decide +kernel) ?_ | refine WC.draw 11 rfl (by decide +kernel) ?_ | refine WC.draw 12 rfl (by decide +kernel) ?_ | refine WC.draw 13 rfl (by decide +kernel) ?_ | refine WC.draw 14 rfl (by decide +kernel) ?_ | refine WC.draw 15 rfl (by decide +kernel) ?_ | refine WC.draw 16 rfl (by decide +kernel) ?_ | refine WC.draw 17 rfl (by decide +kernel) ?_ | refine WC.draw 18 rfl (by decide +kernel) ?_ | refine WC.draw 19 rfl (by decide +kernel) ?_ | refine WC.draw 20 rfl (by decide +kernel) ?_ | refine WC.draw 21 rfl (by decide +kernel) ?_ | refine WC.draw 22 rfl (by decide +kernel) ?_ | refine WC.draw 23 rfl (by decide +kernel) ?_ | refine WC.draw 24 rfl (by decide +kernel) ?_)); (repeat (refine WD.cons rfl (fun c h => by cases h) sq_ER2_1 ?_)); refine WD.nil ?_)); (try (refine st ?_; (repeat intro zzc)))))) | ((first | (refine iB_eql rfl ?_; refine w_eqlV ?_ (he := eq_pc (readP _ _) (readP _ _))) | (refine iB_neq rfl ?_; refine w_neqV ?_ (he := eq_pc (readP _ _) (readP _ _))) | (refine WL.pickIsT rfl (by assumption) rfl rfl ?_) | (refine WL.pickIsF rfl (by assumption) rfl rfl ?_) | (refine iF 84 rfl ?_; refine w_callG Tryd.func84 ?_ (hs := read_z _ (by (first | with_reducible exact natz _ | with_reducible exact natz0 | with_reducible exact natz1 | with_reducible exact natz2 | with_reducible exact natz3 | with_reducible exact natz4 | with_reducible exact natz8 | (apply natz_add; (· first | with_reducible exact natz _ | with_reducible exact natz0 | with_reducible exact natz1 | with_reducible exact natz2 | with_reducible exact natz3 | with_reducible exact natz4 | with_reducible exact natz8); (· first | with_reducible exact natz _ | with_reducible exact natz0 | with_reducible exact natz1 | with_reducible exact natz2 | with_reducible exact natz3 | with_reducible exact natz4 | with_reducible exact natz8)) | (apply natz_sub; (· first | with_reducible exact natz _ | with_reducible exact natz0 | with_reducible exact natz1 | with_reducible exact natz2 | with_reducible exact natz3 | with_reducible exact natz4 | with_reducible exact natz8); (· first | with_reducible exact natz _ | with_reducible exact natz0 | with_reducible exact natz1 | with_reducible exact natz2 | with_reducible exact natz3 | with_reducible exact natz4 | with_reducible exact natz8); (· omega)) | exact (Int.toNat_of_nonneg (by omega)).symm)) (by omega) (by omega) _ _ _)) | ((refine iDraw ?_; (first | refine WC.drawAll rfl (by decide +kernel) ?_ | refine WC.draw 1 rfl (by decide +kernel) ?_ | refine WC.draw 2 rfl (by decide +kernel) ?_ | refine WC.draw 3 rfl (by decide +kernel) ?_ | refine WC.draw 4 rfl (by decide +kernel) ?_ | refine WC.draw 5 rfl (by decide +kernel) ?_ | refine WC.draw 6 rfl (by decide +kernel) ?_ | refine WC.draw 7 rfl (by decide +kernel) ?_ | refine WC.draw 8 rfl (by decide +kernel) ?_ | refine WC.draw 9 rfl (by decide +kernel) ?_ | refine WC.draw 10 rfl (by decide +kernel) ?_ | refine WC.draw 11 rfl (by decide +kernel) ?_ | refine WC.draw 12 rfl (by decide +kernel) ?_ | refine WC.draw 13 rfl (by decide +kernel) ?_ | refine WC.draw 14 rfl (by decide +kernel) ?_ | refine WC.draw 15 rfl (by decide +kernel) ?_ | refine WC.draw 16 rfl (by decide +kernel) ?_ | refine WC.draw 17 rfl (by decide +kernel) ?_ | refine WC.draw 18 rfl (by decide +kernel) ?_ | refine WC.draw 19 rfl (by decide +kernel) ?_ | refine WC.draw 20 rfl (by decide +kernel) ?_ | refine WC.draw 21 rfl (by decide +kernel) ?_ | refine WC.draw 22 rfl (by decide +kernel) ?_ | refine WC.draw 23 rfl (by decide +kernel) ?_ | refine WC.draw 24 rfl (by decide +kernel) ?_)); (repeat (refine WD.cons rfl (fun c h => by cases h) sq_ER2_1 ?_)); refine WD.nil ?_)); (try (refine st ?_; (repeat intro zzc))))); (repeat ((first | (refine iB_eql rfl ?_; refine w_eqlV ?_ (he := eq_pc (readP _ _) (readP _ _))) | (refine iB_neq rfl ?_; refine w_neqV ?_ (he := eq_pc (readP _ _) (readP _ _))) | (refine WL.pickIsT rfl (by assumption) rfl rfl ?_) | (refine WL.pickIsF rfl (by assumption) rfl rfl ?_) | (refine iF 84 rfl ?_; refine w_callG Tryd.func84 ?_ (hs := read_z _ (by (first | with_reducible exact natz _ | with_reducible exact natz0 | with_reducible exact natz1 | with_reducible exact natz2 | with_reducible exact natz3 | with_reducible exact natz4 | with_reducible exact natz8 | (apply natz_add; (· first | with_reducible exact natz _ | with_reducible exact natz0 | with_reducible exact natz1 | with_reducible exact natz2 | with_reducible exact natz3 | with_reducible exact natz4 | with_reducible exact natz8); (· first | with_reducible exact natz _ | with_reducible exact natz0 | with_reducible exact natz1 | with_reducible exact natz2 | with_reducible exact natz3 | with_reducible exact natz4 | with_reducible exact natz8)) | (apply natz_sub; (· first | with_reducible exact natz _ | with_reducible exact natz0 | with_reducible exact natz1 | with_reducible exact natz2 | with_reducible exact natz3 | with_reducible exact natz4 | with_reducible exact natz8); (· first | with_reducible exact natz _ | with_reducible exact natz0 | with_reducible exact natz1 | with_reducible exact natz2 | with_reducible exact natz3 | with_reducible exact natz4 | with_reducible exact natz8); (· omega)) | exact (Int.toNat_of_nonneg (by omega)).symm)) (by omega) (by omega) _ _ _)) | ((refine iDraw ?_; (first | refine WC.drawAll rfl (by decide +kernel) ?_ | refine WC.draw 1 rfl (by decide +kernel) ?_ | refine WC.draw 2 rfl (by decide +kernel) ?_ | refine WC.draw 3 rfl (by decide +kernel) ?_ | refine WC.draw 4 rfl (by decide +kernel) ?_ | refine WC.draw 5 rfl (by decide +kernel) ?_ | refine WC.draw 6 rfl (by decide +kernel) ?_ | refine WC.draw 7 rfl (by decide +kernel) ?_ | refine WC.draw 8 rfl (by decide +kernel) ?_ | refine WC.draw 9 rfl (by decide +kernel) ?_ | refine WC.draw 10 rfl (by decide +kernel) ?_ | refine WC.draw 11 rfl (by decide +kernel) ?_ | refine WC.draw 12 rfl (by decide +kernel) ?_ | refine WC.draw 13 rfl (by decide +kernel) ?_ | refine WC.draw 14 rfl (by decide +kernel) ?_ | refine WC.draw 15 rfl (by decide +kernel) ?_ | refine WC.draw 16 rfl (by decide +kernel) ?_ | refine WC.draw 17 rfl (by decide +kernel) ?_ | refine WC.draw 18 rfl (by decide +kernel) ?_ | refine WC.draw 19 rfl (by decide +kernel) ?_ | refine WC.draw 20 rfl (by decide +kernel) ?_ | refine WC.draw 21 rfl (by decide +kernel) ?_ | refine WC.draw 22 rfl (by decide +kernel) ?_ | refine WC.draw 23 rfl (by decide +kernel) ?_ | refine WC.draw 24 rfl (by decide +kernel) ?_)); (repeat (refine WD.cons rfl (fun c h => by cases h) sq_ER2_1 ?_)); refine WD.nil ?_)); (try (refine st ?_; (repeat intro zzc))))); (repeat revert zzc); exact zzn.out) : G := h ⟨next⟩
theorem shared_any (a b : List UInt8) (ha : a.length ≤ 1000000000) (hb : b.length ≤ 1000000000) (w0 : World) (m : Mem) (H : SHeap) :
    Does Tryd.prog 71 #[str a, str b] w0 m H (fun v m' H' => ∃ n k : Nat, v = .tuple #[.int .i64 (n : Int), .int .i64 (k : Int)] ∧ m' = m ∧ H' = H ∧ Sh a b n k ∧ (k = a.length ∨ k = b.length ∨ wt a (readP a k) ≠ wt b (readP b k))) := by
  refine Does.of_body (args := [str a, str b]) Tryd.func71 rfl Tryd.ntmps71 rfl ?_
  (try (refine st_ER2_1 ?_; intros))
  refine WC.loopH [(7, .int .i64 ((0) : Int)), (6, .int .i64 ((0) : Int)), (0, str a), (1, str b)] ?_ ?_ (fun j r ds m' H' => ∃ (k : Nat) (n : Nat), j = a.length - k ∧ r = [(7, .int .i64 (k : Int)), (6, .int .i64 (n : Int)), (0, str a), (1, str b)] ∧ ds = [] ∧ m = m' ∧ H' = H ∧ (n ≤ k) ∧ (Sh a b n k)) (a.length - (0)) ⟨0, 0, rfl, rfl, rfl, rfl, rfl, by omega, Sh.start a b⟩ ?_
  · (repeat (first | exact Env.Sub.nil | refine Env.Sub.cons rfl ?_))
  · exact zpk
  rintro j r ds m' H' ⟨k, n, rfl, rfl, rfl, rfl, rfl, hn, hS⟩
  have hka : k ≤ a.length := by obtain ⟨_, _, _, _, _, _, _, h, _⟩ := hS; exact h
  have hkb : k ≤ b.length := by obtain ⟨_, _, _, _, _, _, _, _, h⟩ := hS; exact h
  by_cases h1 : k < a.length
  · by_cases h2 : k < b.length
    · have w1 := readP_w h1
      have w2 := readP_w h2
      have hws := wt_same h1 h2
      by_cases hw : wt a (readP a k) = wt b (readP b k)
      · obtain ⟨he, hg⟩ := hws.1 hw
        have hSn := hS.next h1 h2 hw
        cases hbr : (readP a k).b with
        | true =>
          have hg' := hg hbr
          (try (refine st_ER2_1 ?_; intros))
          refine WQ.next (a.length - (k + (readP a k).w)) ⟨k + (readP a k).w, n + 1, rfl, rfl, rfl, rfl, rfl, ?_, ?_⟩ (by omega) zsb zpk
          · omega
          · exact hSn
        | false =>
          (try (refine st_ER2_1 ?_; intros))
          refine WQ.next (a.length - (k + (readP a k).w)) ⟨k + (readP a k).w, n + 1, rfl, rfl, rfl, rfl, rfl, ?_, ?_⟩ (by omega) zsb zpk
          · omega
          · exact hSn
      · by_cases he : readP a k = readP b k
        · have hbr : (readP a k).b = true := by
            cases hb : (readP a k).b with
            | true => rfl
            | false => exact absurd (hws.2 ⟨he, fun h => by rw [hb] at h; cases h⟩) hw
          have hg : ¬ gb a k = gb b k := fun h => hw (hws.2 ⟨he, fun _ => h⟩)
          (try (refine st_ER2_1 ?_; intros))
          (refine q_fin0 ?_)
          exact ⟨n, k, rfl, rfl, rfl, hS, .inr (.inr hw)⟩
        · (try (refine st_ER2_1 ?_; intros))
          (refine q_fin0 ?_)
          exact ⟨n, k, rfl, rfl, rfl, hS, .inr (.inr hw)⟩
    · (try (refine st_ER2_1 ?_; intros))
      (refine q_fin0 ?_)
      exact ⟨n, k, rfl, rfl, rfl, hS, .inr (.inl (by omega))⟩
  · (try (refine st_ER2_1 ?_; intros))
    (refine q_fin0 ?_)
    exact ⟨n, k, rfl, rfl, rfl, hS, .inl (by omega)⟩
def W (l : List UInt8) : List Nat := (pieces l).map (wt l)
theorem W_length (l : List UInt8) : (W l).length = (pieces l).length := by simp [W]
theorem common_any (a b : List UInt8) (ha : a.length ≤ 1000000000) (hb : b.length ≤ 1000000000) (w0 : World) (m : Mem) (H : SHeap) :
    Does Tryd.prog 50 #[str a, str b] w0 m H (Gives (.int .i64 (cm (W a) (W b) : Int)) m H) := by
  refine Does.of_body (args := [str a, str b]) Tryd.func50 rfl Tryd.ntmps50 rfl ?_
  (try (refine st_ER2_1 ?_; intros))
  refine w_callF Tryd.func71 ?_ (hs := shared_any a b ha hb _ _ _)
  rintro _ m H ⟨n, k, rfl, rfl, rfl, hS, hstop⟩
  (try (refine st_ER2_1 ?_; intros))
  (refine q_fin0 ?_)
  refine Gives.mk (vi ?_)
  rw [(hS.done hstop).1]; rfl
theorem cut_any (l : List UInt8) (n : Int) (hl : l.length ≤ 1000000000) (hn : -9223372036854775808 ≤ n ∧ n ≤ 9223372036854775807) (w0 : World) (m : Mem) (H : SHeap) :
    Does Tryd.prog 49 #[str l, .int .i64 n] w0 m H (Gives (.tuple #[str (l.take (cutK l n)), str (l.drop (cutK l n))]) m H) := by
  refine Does.of_body (args := [str l, .int .i64 n]) Tryd.func49 rfl Tryd.ntmps49 rfl ?_
  by_cases h0 : n ≤ 0
  · have hk : cutK l n = 0 := by rw [cutK, if_pos h0]
    rw [hk]
    (try (refine st_ER2_1 ?_; intros))
    (refine q_fin0 ?_)
    exact Gives.mk (by simp)
  · obtain ⟨N, rfl⟩ : ∃ N : Nat, n = N := ⟨n.toNat, by omega⟩
    have hk : cutK l N = (endsOf l).getD N l.length := by rw [cutK, if_neg h0]; simp
    rw [hk]
    (refine st_ER2_1 ?_; intros; rename_i it)
    refine WC.loopH [(11, .pointer (some ⟨it, 0, none⟩)), (0, str l), (1, .int .i64 ((N : Int)))] ?_ ?_ (fun j r ds m' H' => ∃ (k : Nat) (pre : (List Pc)) (c : Int), j = l.length - k ∧ r = [(11, .pointer (some ⟨it, 0, none⟩)), (0, str l), (1, .int .i64 c)] ∧ ds = [] ∧ m = m' ∧ H' = .blk it (.stringIter ⟨l.toArray⟩ k) :: H ∧ (pieces l = pre ++ from_ l k) ∧ (pre.length ≤ N) ∧ (c = (N : Int) - pre.length) ∧ (k ≤ l.length)) (l.length - (0)) ⟨0, [], (N : Int), rfl, rfl, rfl, rfl, rfl, by unfold pieces; rfl, by simp, by simp, by omega⟩ ?_
    · (repeat (first | exact Env.Sub.nil | refine Env.Sub.cons rfl ?_))
    · exact zpk
    rintro j r ds m' H' ⟨k, pre, c, rfl, rfl, rfl, rfl, rfl, hp, hN, hc, hkl⟩
    have hpl := pieces_length l
    by_cases hkl2 : k < l.length
    · have hw := readP_w hkl2
      have hwe := readP_w_eq l k
      rw [from_cons hkl2] at hp
      have hpre : pre.length ≤ (pieces l).length := by rw [hp]; simp
      by_cases hz : c = 0
      · have hk2 : (endsOf l).getD N l.length = k := by
          have e : N = pre.length := by omega
          rw [e, endsOf, hp]
          simp [List.getD_eq_getElem?_getD, readP_at]
        rw [hk2]
        (try (refine st_ER2_1 ?_; intros))
        (refine q_fin0 ?_)
        exact Gives.mk rfl
      · (try (refine st_ER2_1 ?_; intros))
        refine WQ.next (l.length - (k + (dl (l.drop k)).2)) ⟨k + (dl (l.drop k)).2, pre ++ [readP l k], _, rfl, rfl, rfl, rfl, rfl, ?_, ?_, ?_, ?_⟩ (by omega) zsb zpk
        · rw [hp, ← hwe]; simp
        · simp; omega
        · simp; omega
        · omega
    · rw [from_nil hkl2, List.append_nil] at hp
      have hk2 : (endsOf l).getD N l.length = l.length := by
        rw [endsOf, hp, List.getD_eq_getElem?_getD]
        by_cases e : N = pre.length
        · rw [e]; simp
        · rw [List.getElem?_eq_none (by simp; omega)]; rfl
      rw [hk2]
      (try (refine st_ER2_1 ?_; intros))
      (refine q_fin0 ?_)
      exact Gives.mk (by simp)
end Go.Proofs.YtelgegefmjlimaaDoor

/-
  Plain facts on changes: turned about; their one form. No condition.
-/
namespace Go.Eng
open Go
def Atm.inv : Atm → Atm
  | .k => .k
  | .d b => .p b
  | .p b => .d b
def Stp.inv (s : Stp) : Stp := ⟨s.k, s.p, s.d⟩
def Gap.inv (g : Gap) : Gap := ⟨g.d, g.p⟩
def Gs.inv (g : Gs) : Gs := ⟨g.done.map Gap.inv, g.cur.inv⟩
end Go.Eng

/-
  Plain facts: the pieces so far are the text's beginning; places within a form. No condition.
-/
set_option linter.all false
namespace Go.Eng
open Go
theorem texts_from {l : List UInt8} {n : Nat} (hn : n ≤ l.length) : ∀ (pre : List Pc) (k : Nat), from_ l k = pre ++ from_ l n → k ≤ n → textsOf l pre = (l.take n).drop k
  | [], k, h, hk => by
    have e := from_take hn [] k h hk
    rcases Nat.lt_or_eq_of_le hk with hlt | rfl
    · rw [from_cons (by simp; omega)] at e; cases e
    · simp [textsOf]
  | p :: pre, k, h, hk => by
    have hkl : k < l.length := by
      rcases Nat.lt_or_ge k l.length with h1 | h1
      · exact h1
      · rw [from_nil (by omega)] at h; cases h
    have h0 := from_take hn (p :: pre) k h hk
    rw [from_cons hkl, List.cons_append] at h
    simp only [List.cons.injEq] at h
    obtain ⟨rfl, h⟩ := h
    have hw := readP_w hkl
    have hle : k + (readP l k).w ≤ n := by
      have hkn : k < (l.take n).length := by
        rcases Nat.lt_or_ge k (l.take n).length with g | g
        · exact g
        · rw [from_nil (by omega)] at h0; cases h0
      rw [from_cons hkn] at h0
      have h1 := readP_w hkn
      simp only [List.cons.injEq] at h0
      have h2 : (l.take n).length ≤ n := by simp; omega
      rw [h0.1] at h1
      omega
    have ih := texts_from hn pre _ h hle
    have e : textsOf l (readP l k :: pre) = txt l (readP l k) ++ textsOf l pre := by simp [textsOf]
    rw [e, ih, txt, readP_at]
    have h3 : (l.take n).drop k = ((l.take n).take (k + (readP l k).w)).drop k ++ (l.take n).drop (k + (readP l k).w) := by
      rw [← List.take_append_drop (k + (readP l k).w) (l.take n)]
      rw [List.drop_append_of_le_length (by simp; omega)]
      simp
    rw [h3, List.take_take, Nat.min_eq_left hle]
theorem texts_take {l : List UInt8} {n : Nat} {pre : List Pc} (hn : n ≤ l.length) (h : pieces l = pre ++ from_ l n) : textsOf l pre = l.take n := by
  have := texts_from hn pre 0 h (Nat.zero_le _)
  rwa [List.drop_zero] at this
end Go.Eng

/-
  Plain facts on pieces: their order, and the pieces of a text's end. No condition.
-/
set_option linter.all false
namespace Go.Eng
open Go
theorem readP_drop (l : List UInt8) (n k : Nat) : readP (l.drop n) k = ⟨k, (readP l (n + k)).w, (readP l (n + k)).r, (readP l (n + k)).b⟩ := by
  unfold readP
  rw [List.drop_drop]
  split <;> rfl
/-- a piece, told from further on -/
def Pc.sub (p : Pc) (n : Nat) : Pc := ⟨p.at_ - n, p.w, p.r, p.b⟩
theorem from_drop (l : List UInt8) (n : Nat) : ∀ (d k : Nat), l.length - (n + k) ≤ d → from_ (l.drop n) k = (from_ l (n + k)).map fun p => p.sub n
  | d, k, h => by
    by_cases hk : n + k < l.length
    · have hw := readP_w hk
      rw [from_cons (show k < (l.drop n).length by rw [List.length_drop]; omega), from_cons hk, List.map_cons]
      have e : readP (l.drop n) k = (readP l (n + k)).sub n := by
        rw [readP_drop, Pc.sub, readP_at]
        congr 1; omega
      rw [e]
      congr 1
      cases d with
      | zero => omega
      | succ d =>
        have := from_drop l n d (k + (readP l (n + k)).w) (by omega)
        rw [show ((readP l (n + k)).sub n).w = (readP l (n + k)).w from rfl, this]
        congr 2; omega
    · rw [from_nil (show ¬ k < (l.drop n).length by rw [List.length_drop]; omega), from_nil hk]; rfl
theorem pieces_drop (l : List UInt8) (n : Nat) : pieces (l.drop n) = (from_ l n).map fun p => p.sub n := from_drop l n _ 0 (Nat.le_refl _)
end Go.Eng

/-
  Plain facts: what two texts have alike at their heads and at their ends, piece by piece. No condition.
-/
set_option linter.all false
namespace Go.Eng
open Go
def chunks (l : List UInt8) : List (List UInt8) := (pieces l).map (txt l)
theorem txt_length {l : List UInt8} {p : Pc} (h : p ∈ pieces l) : (txt l p).length = p.w := by
  obtain ⟨_, _, _, h4⟩ := mem_w h
  simp only [txt, List.length_drop, List.length_take]; omega
theorem txt_sub {l : List UInt8} {n : Nat} {p : Pc} (h : n ≤ p.at_) : txt (l.drop n) (p.sub n) = txt l p := by
  unfold txt Pc.sub
  simp only
  rw [List.drop_take, List.drop_take, List.drop_drop]
  congr 1
  · omega
  · congr 1; omega
theorem chunks_drop {l : List UInt8} {n : Nat} (h : Reach l n) : chunks (l.drop n) = (from_ l n).map (txt l) := by
  obtain ⟨pre, h1, h2, h3⟩ := reach_parts h
  unfold chunks
  rw [pieces_drop, List.map_map]
  refine List.map_congr_left fun p hp => ?_
  exact txt_sub (h3 p hp)
theorem chunks_take {l : List UInt8} {n : Nat} {pre : List Pc} (hn : n ≤ l.length) (h : pieces l = pre ++ from_ l n) : chunks (l.take n) = pre.map (txt l) := by
  have hp := pieces_take hn h
  unfold chunks
  rw [hp]
  refine List.map_congr_left fun p hpm => ?_
  rw [← hp] at hpm
  obtain ⟨_, _, _, h4⟩ := mem_w hpm
  rw [List.length_take] at h4
  unfold txt
  rw [List.take_take, Nat.min_eq_left (by omega)]
theorem chunks_split {l : List UInt8} {n : Nat} (h : Reach l n) (hn : n ≤ l.length) : chunks l = chunks (l.take n) ++ chunks (l.drop n) := by
  rw [chunks_drop h]
  obtain ⟨pre, hp⟩ := h
  rw [chunks_take hn hp, ← List.map_append, ← hp]; rfl
theorem chunks_nil {l : List UInt8} (h : l.length = 0) : chunks l = [] := by
  have : l = [] := List.eq_nil_of_length_eq_zero h
  subst this
  unfold chunks pieces
  rw [from_nil (by simp)]; rfl
/-- the last piece -/
theorem chunks_last {l : List UInt8} (h : 0 < l.length) : chunks l = chunks (l.take (lastP l).at_) ++ [txt l (lastP l)] ∧ (txt l (lastP l)).length = (lastP l).w ∧ (lastP l).at_ + (lastP l).w = l.length ∧ 1 ≤ (lastP l).w ∧ Reach l (lastP l).at_ := by
  obtain ⟨j, hj, hjl, he⟩ := exists_last l l.length 0 (by omega) h (Reach.zero l)
  have hlast := lastP_of hj hjl he
  have hw := readP_w hjl
  have hfr : from_ l j = [readP l j] := by rw [from_cons hjl, he, from_nil (by omega)]
  have hm := reach_mem hj hjl
  rw [hlast, readP_at]
  refine ⟨?_, txt_length hm, he, hw.1, hj⟩
  have hd := chunks_drop hj
  rw [chunks_split hj (by omega), hd, hfr]; rfl
def cplen : List (List UInt8) → List (List UInt8) → Nat
  | x :: X, y :: Y => if x = y then x.length + cplen X Y else 0
  | _, _ => 0
/-- how many bytes two texts have alike from their ends on, by whole pieces -/
def tailOf (s t : List UInt8) : Nat := cplen (chunks s).reverse (chunks t).reverse
theorem tail_nil {s t : List UInt8} (h : s.length = 0 ∨ t.length = 0) : tailOf s t = 0 := by
  unfold tailOf
  rcases h with h | h
  · rw [chunks_nil h]; rfl
  · rw [chunks_nil h]; cases (chunks s).reverse <;> rfl
theorem tail_step {s t : List UInt8} (hs : 0 < s.length) (ht : 0 < t.length) : tailOf s t = if txt s (lastP s) = txt t (lastP t) then (lastP s).w + tailOf (s.take (lastP s).at_) (t.take (lastP t).at_) else 0 := by
  obtain ⟨h1, h2, _⟩ := chunks_last hs
  obtain ⟨g1, g2, _⟩ := chunks_last ht
  unfold tailOf
  rw [h1, g1, List.reverse_append, List.reverse_append, List.reverse_singleton, List.reverse_singleton, List.singleton_append, List.singleton_append, cplen, h2]
theorem txt_length_at {l : List UInt8} {k : Nat} (hk : k < l.length) : (txt l (readP l k)).length = (readP l k).w := by
  have hw := readP_w hk
  simp only [txt, readP_at, List.length_drop, List.length_take]; omega
/-- pieces of the same bytes weigh the same -/
theorem txt_wt {a b : List UInt8} {k : Nat} (ha : k < a.length) (hb : k < b.length) : txt a (readP a k) = txt b (readP b k) ↔ wt a (readP a k) = wt b (readP b k) := by
  have key : ∀ {l : List UInt8}, k < l.length → (readP l k).b = false → okr (readP l k).r ∧ txt l (readP l k) = fmb (readP l k).r ∧ (readP l k).w = wd (readP l k).r := by
    intro l hl hbf
    rcases dl_cases (l.drop k) (by simp; omega) with ⟨h1, h2, h3⟩ | ⟨h1, _⟩
    · have hr := readP_r_eq l k
      have hw := readP_w_eq l k
      rw [hr, hw]
      refine ⟨h1, ?_, h2⟩
      have hbg := (begins_iff _ _ (okr_le h1)).1 h3
      unfold txt
      rw [readP_at, hw, h2, List.drop_take, show k + wd (dl (l.drop k)).1 - k = wd (dl (l.drop k)).1 by omega]
      exact hbg
    · exfalso
      unfold readP at hbf
      rw [if_pos h1] at hbf
      cases hbf
  have one : ∀ {l : List UInt8}, k < l.length → (readP l k).b = true → txt l (readP l k) = [l[k]!] ∧ gb l k = (l[k]!).toNat := by
    intro l hl hbt
    rcases readP_cases hl with ⟨_, h2, _⟩ | ⟨h1, _⟩
    · unfold txt
      rw [readP_at, h2, List.drop_take, show k + 1 - k = 1 by omega]
      have e1 : (l.drop k).take 1 = [l[k]] := by rw [List.drop_eq_getElem_cons hl]; rfl
      have e2 : l[k]! = l[k] := by simp [getElem!_def, List.getElem?_eq_getElem hl]
      rw [e1, e2]
      refine ⟨rfl, ?_⟩
      unfold gb; rw [List.getD_eq_getElem?_getD, List.getElem?_eq_getElem hl]; rfl
    · rw [hbt] at h1; cases h1
  have cross : ∀ {a b : List UInt8}, k < a.length → k < b.length → (readP a k).b = false → txt a (readP a k) = txt b (readP b k) → (readP b k).b = false ∧ (readP b k).r = (readP a k).r := by
    intro a b ha hb h1 h2
    obtain ⟨k1, k2, k3⟩ := key ha h1
    have hlen : (readP b k).w = wd (readP a k).r := by
      have e1 := txt_length_at hb
      rw [← h2, k2, fmb_length] at e1
      exact e1.symm
    have hbg : begins (b.drop k) (readP a k).r := by
      rw [begins_iff _ _ (okr_le k1), ← k2, h2]
      unfold txt
      rw [readP_at, List.drop_take, hlen, show k + wd (readP a k).r - k = wd (readP a k).r by omega]
    have hd := dl_of_begins k1 hbg
    have hne : ¬ dl (b.drop k) = (65533, 1) := by
      rw [hd]
      intro h
      have h3 : (readP a k).r = 65533 := congrArg Prod.fst h
      have h4 : wd (readP a k).r = 1 := congrArg Prod.snd h
      rw [h3] at h4
      exact absurd h4 (by decide)
    have he : readP b k = ⟨k, (dl (b.drop k)).2, (dl (b.drop k)).1, false⟩ := by unfold readP; rw [if_neg hne]
    rw [he, hd]
    exact ⟨rfl, rfl⟩
  rw [wt_read, wt_read]
  constructor
  · intro h
    cases h1 : (readP a k).b with
    | false =>
      obtain ⟨g1, g2⟩ := cross ha hb h1 h
      rw [g1, g2]; rfl
    | true =>
      cases h2 : (readP b k).b with
      | false =>
        obtain ⟨g1, _⟩ := cross hb ha h2 h.symm
        rw [h1] at g1; cases g1
      | true =>
        obtain ⟨e1, e2⟩ := one ha h1
        obtain ⟨e3, e4⟩ := one hb h2
        rw [e1, e3] at h
        have : a[k]! = b[k]! := by simpa using h
        rw [e2, e4, this]; simp
  · intro h
    have h' := (wt_same ha hb).1 (by rw [wt_read, wt_read]; exact h)
    obtain ⟨e1, e2⟩ := h'
    cases h1 : (readP a k).b with
    | false =>
      have h2 : (readP b k).b = false := by rw [← e1]; exact h1
      rw [(key ha h1).2.1, (key hb h2).2.1, e1]
    | true =>
      have h2 : (readP b k).b = true := by rw [← e1]; exact h1
      obtain ⟨f1, f2⟩ := one ha h1
      obtain ⟨f3, f4⟩ := one hb h2
      have h3 := e2 h1
      rw [f2, f4] at h3
      rw [f1, f3, UInt8.toNat_inj.1 h3]
end Go.Eng
namespace Go.Eng
open Go
theorem take_more {l : List UInt8} {k : Nat} (hk : k < l.length) : l.take (k + (readP l k).w) = l.take k ++ txt l (readP l k) := by
  unfold txt
  rw [readP_at]
  have h := List.take_append_drop k (l.take (k + (readP l k).w))
  rw [List.take_take, Nat.min_eq_left (by omega)] at h
  exact h.symm
theorem sh_take {a b : List UInt8} {n k : Nat} (h : Sh a b n k) : cutK a n = k := by
  obtain ⟨pa, pb, h1, h2, h3, h4, h5, h6, h7⟩ := h
  unfold cutK
  by_cases h0 : n = 0
  · subst h0
    rw [if_pos (by omega)]
    have hp : pa = [] := List.eq_nil_of_length_eq_zero h3
    have ht := texts_take h6 h1
    rw [hp] at ht
    have hl := congrArg List.length ht
    rw [show textsOf a [] = [] from rfl, List.length_nil, List.length_take] at hl
    omega
  · rw [if_neg (by omega), Int.toNat_natCast]
    unfold endsOf
    rw [h1, List.map_append, List.append_assoc, List.getD_eq_getElem?_getD, List.getElem?_append_right (by rw [List.length_map]; omega), List.length_map, h3, Nat.sub_self]
    rcases Nat.lt_or_eq_of_le h6 with g | g
    · rw [from_cons g, List.map_cons, readP_at]; rfl
    · rw [from_nil (by omega)]
      simp [g]
/-- a head that two texts have alike, to its end -/
theorem sh_exists (a b : List UInt8) : ∀ (d n k : Nat), a.length - k ≤ d → Sh a b n k → a.take k = b.take k → ∃ n' k', Sh a b n' k' ∧ a.take k' = b.take k' ∧ (k' = a.length ∨ k' = b.length ∨ wt a (readP a k') ≠ wt b (readP b k'))
  | d, n, k, hd, h, ht => by
    have hb : k ≤ a.length ∧ k ≤ b.length := by obtain ⟨_, _, _, _, _, _, _, h6, h7⟩ := h; exact ⟨h6, h7⟩
    by_cases h1 : k = a.length
    · exact ⟨n, k, h, ht, .inl h1⟩
    · by_cases h2 : k = b.length
      · exact ⟨n, k, h, ht, .inr (.inl h2)⟩
      · by_cases h3 : wt a (readP a k) = wt b (readP b k)
        · have ha : k < a.length := by omega
          have hbl : k < b.length := by omega
          have hw := readP_w ha
          have he := ((wt_same ha hbl).1 h3).1
          cases d with
          | zero => omega
          | succ d =>
            refine sh_exists a b d (n + 1) (k + (readP a k).w) (by omega) (h.next ha hbl h3) ?_
            rw [take_more ha, show k + (readP a k).w = k + (readP b k).w by rw [he], take_more hbl, ht, (txt_wt ha hbl).2 h3]
        · exact ⟨n, k, h, ht, .inr (.inr h3)⟩
theorem sh_reach {a b : List UInt8} {n k : Nat} (h : Sh a b n k) : Reach a k ∧ Reach b k ∧ k ≤ a.length ∧ k ≤ b.length := by
  obtain ⟨pa, pb, h1, h2, _, _, _, h6, h7⟩ := h
  exact ⟨⟨pa, h1⟩, ⟨pb, h2⟩, h6, h7⟩
/-- a boundary of a text's end is one of the text -/
theorem reach_of_drop {l : List UInt8} {n k : Nat} (hn : Reach l n) (hk : Reach (l.drop n) k) (hkl : n + k ≤ l.length) : Reach l (n + k) := by
  rcases Nat.lt_or_eq_of_le hkl with hlt | heq
  · obtain ⟨pre, hp⟩ := hn
    obtain ⟨pk, hq⟩ := hk
    rw [pieces_drop, from_cons (show k < (l.drop n).length by rw [List.length_drop]; omega)] at hq
    obtain ⟨A, B, e1, e2, e3⟩ := List.map_eq_append_iff.1 hq
    obtain ⟨p, B', e4, e5, e6⟩ := List.map_eq_cons_iff.1 e3
    rw [e4] at e1
    have hsp := from_split l l.length n (by omega) A p B' e1
    have hat : p.at_ - n = k := by have := congrArg Pc.at_ e5; rwa [readP_at] at this
    have hpe : p.at_ = n + k := by omega
    refine ⟨pre ++ A, ?_⟩
    rw [hp, e1, hsp.2.2.2.1, hpe, List.append_assoc]
  · rw [heq]; exact ⟨pieces l, by rw [from_nil (by omega), List.append_nil]⟩
theorem reach_of_take {l : List UInt8} {n k : Nat} (hn : Reach l n) (hnl : n ≤ l.length) (hkn : k ≤ n) (hk : Reach (l.take n) k) : Reach l k := by
  rcases Nat.lt_or_eq_of_le hkn with hlt | heq
  · obtain ⟨pre, hp⟩ := hn
    obtain ⟨pk, hq⟩ := hk
    rw [pieces_take hnl hp, from_cons (show k < (l.take n).length by rw [List.length_take]; omega)] at hq
    rw [hq, List.append_assoc, List.cons_append] at hp
    have hsp := from_split l l.length 0 (by omega) pk _ _ hp
    rw [readP_at] at hsp
    exact ⟨pk, by rw [hp, hsp.2.2.2.1]⟩
  · rw [heq]; exact hn
theorem drop_split (L : List UInt8) (n j : Nat) (hj : j ≤ n) (hn : n ≤ L.length) : L.drop j = (L.take n).drop j ++ L.drop n := by
  have := List.drop_append_of_le_length (l₁ := L.take n) (l₂ := L.drop n) (i := j) (by rw [List.length_take]; omega)
  rwa [List.take_append_drop] at this
/-- what the ends have alike -/
theorem tail_facts : ∀ (d : Nat) (s t : List UInt8), s.length ≤ d → tailOf s t ≤ s.length ∧ tailOf s t ≤ t.length ∧ s.drop (s.length - tailOf s t) = t.drop (t.length - tailOf s t) ∧ Reach s (s.length - tailOf s t) ∧ Reach t (t.length - tailOf s t)
  | d, s, t, hd => by
    have rend : ∀ l : List UInt8, Reach l l.length := fun l => ⟨pieces l, by rw [from_nil (by omega), List.append_nil]⟩
    by_cases h0 : s.length = 0 ∨ t.length = 0
    · rw [tail_nil h0]
      exact ⟨Nat.zero_le _, Nat.zero_le _, by rw [Nat.sub_zero, Nat.sub_zero, List.drop_length, List.drop_length], rend s, rend t⟩
    · have hs : 0 < s.length := by omega
      have ht : 0 < t.length := by omega
      rw [tail_step hs ht]
      split
      · rename_i he
        obtain ⟨a1, a2, a3, a4, a5⟩ := chunks_last hs
        obtain ⟨b1, b2, b3, b4, b5⟩ := chunks_last ht
        have hw : (lastP s).w = (lastP t).w := by rw [← a2, ← b2, he]
        cases d with
        | zero => omega
        | succ d =>
          obtain ⟨c1, c2, c3, c4, c5⟩ := tail_facts d (s.take (lastP s).at_) (t.take (lastP t).at_) (by rw [List.length_take]; omega)
          rw [List.length_take, Nat.min_eq_left (by omega)] at c1 c3 c4
          rw [List.length_take, Nat.min_eq_left (by omega)] at c2 c3 c5
          generalize tailOf (s.take (lastP s).at_) (t.take (lastP t).at_) = m at *
          refine ⟨by omega, by omega, ?_, ?_, ?_⟩
          · have e1 : s.drop (s.length - ((lastP s).w + m)) = (s.take (lastP s).at_).drop ((lastP s).at_ - m) ++ txt s (lastP s) := by
              have h2 : txt s (lastP s) = s.drop (lastP s).at_ := by unfold txt; rw [List.take_of_length_le (by omega)]
              rw [h2, show s.length - ((lastP s).w + m) = (lastP s).at_ - m by omega]
              exact drop_split _ _ _ (by omega) (by omega)
            have e2 : t.drop (t.length - ((lastP s).w + m)) = (t.take (lastP t).at_).drop ((lastP t).at_ - m) ++ txt t (lastP t) := by
              have h2 : txt t (lastP t) = t.drop (lastP t).at_ := by unfold txt; rw [List.take_of_length_le (by omega)]
              rw [h2, show t.length - ((lastP s).w + m) = (lastP t).at_ - m by omega]
              exact drop_split _ _ _ (by omega) (by omega)
            rw [e1, e2, c3, he]
          · rw [show s.length - ((lastP s).w + m) = (lastP s).at_ - m by omega]
            exact reach_of_take a5 (by omega) (by omega) c4
          · rw [show t.length - ((lastP s).w + m) = (lastP t).at_ - m by omega]
            exact reach_of_take b5 (by omega) (by omega) c5
      · rw [Nat.sub_zero, Nat.sub_zero]
        exact ⟨Nat.zero_le _, Nat.zero_le _, by rw [List.drop_length, List.drop_length], rend s, rend t⟩
end Go.Eng

/-
  Plain facts on changes: from one text to another one. No condition.
-/
namespace Go.Eng
open Go
def headOf (s t : List UInt8) : Nat := cutK s (cm ((pieces s).map (wt s)) ((pieces t).map (wt t)) : Nat)
theorem head_facts (s t : List UInt8) : ∃ n, Sh s t n (headOf s t) ∧ s.take (headOf s t) = t.take (headOf s t) ∧ (headOf s t = s.length ∨ headOf s t = t.length ∨ wt s (readP s (headOf s t)) ≠ wt t (readP t (headOf s t))) := by
  obtain ⟨n, k, h1, h2, h3⟩ := sh_exists s t s.length 0 0 (by omega) (Sh.start s t) (by simp)
  have hn := (h1.done h3).1
  have hk := sh_take h1
  rw [hn] at hk
  have e : headOf s t = k := hk
  rw [e]
  exact ⟨n, h1, h2, h3⟩
def footOf (s t : List UInt8) : Nat := tailOf (s.drop (headOf s t)) (t.drop (headOf s t))
def betA (s t : List UInt8) : List Atm := List.replicate (headOf s t) .k ++ ((t.take (t.length - footOf s t)).drop (headOf s t)).map .p ++ ((s.take (s.length - footOf s t)).drop (headOf s t)).map .d ++ List.replicate (footOf s t) .k
/-- the numbers of it -/
theorem bet_facts (s t : List UInt8) : headOf s t ≤ s.length ∧ headOf s t ≤ t.length ∧ headOf s t + footOf s t ≤ s.length ∧ headOf s t + footOf s t ≤ t.length ∧ s.take (headOf s t) = t.take (headOf s t) ∧ s.drop (s.length - footOf s t) = t.drop (t.length - footOf s t) ∧
    Reach s (headOf s t) ∧ Reach t (headOf s t) ∧ Reach s (s.length - footOf s t) ∧ Reach t (t.length - footOf s t) := by
  obtain ⟨n, h1, h2, _⟩ := head_facts s t
  obtain ⟨r1, r2, l1, l2⟩ := sh_reach h1
  obtain ⟨f1, f2, f3, f4, f5⟩ := tail_facts _ (s.drop (headOf s t)) (t.drop (headOf s t)) (Nat.le_refl _)
  have e : tailOf (s.drop (headOf s t)) (t.drop (headOf s t)) = footOf s t := rfl
  rw [e] at f1 f2 f3 f4 f5
  rw [List.length_drop] at f1 f2 f3 f4 f5
  rw [List.length_drop] at f3
  generalize headOf s t = k at *
  generalize footOf s t = m at *
  rw [List.drop_drop, List.drop_drop] at f3
  refine ⟨l1, l2, by omega, by omega, h2, ?_, r1, r2, ?_, ?_⟩
  · rw [show s.length - m = k + (s.length - k - m) by omega, show t.length - m = k + (t.length - k - m) by omega]; exact f3
  · rw [show s.length - m = k + (s.length - k - m) by omega]; exact reach_of_drop r1 f4 (by omega)
  · rw [show t.length - m = k + (t.length - k - m) by omega]; exact reach_of_drop r2 f5 (by omega)
/-- the builder's way -/
theorem bet_list (s t : List UInt8) : listOf (betA s t) = ((⟨(Bld.start.keep (headOf s t : Int)).l, (t.take (t.length - footOf s t)).drop (headOf s t), (s.take (s.length - footOf s t)).drop (headOf s t)⟩ : Bld).keep (footOf s t : Int)).close.l := by
  unfold listOf betA
  rw [run_append, run_append, run_append, run_k, run_p, run_d, run_k]
  have hp : ∀ k : Nat, (Bld.start.keep (k : Int)).p = [] ∧ (Bld.start.keep (k : Int)).d = [] := by
    intro k
    by_cases h : k = 0
    · subst h; exact ⟨rfl, rfl⟩
    · exact keep_pd _ _ (by omega)
  obtain ⟨h1, h2⟩ := hp (headOf s t)
  simp only [h1, h2, List.nil_append]
end Go.Eng

/-
  The walks of the program's back and Between. No condition.
-/
namespace Go.Eng
theorem cm_le : ∀ X Y : List Nat, cm X Y ≤ X.length
  | [], Y => by cases Y <;> exact Nat.le_refl _
  | x :: X, [] => Nat.zero_le _
  | x :: X, y :: Y => by
    have := cm_le X Y
    unfold cm
    split
    · simp only [List.length_cons]; omega
    · exact Nat.zero_le _
end Go.Eng
namespace Go.Proofs.YtelgegefmjlimaaDoor
open Go Go.Eng
set_option maxRecDepth 100000
set_option maxHeartbeats 4000000
set_option linter.all false
attribute [local irreducible] WL WC WQ QFun QLoop Does Q1 QRound QAssign Go.Addr.add
attribute [local irreducible] readP pieces dl from_ lastP tailOf txt
theorem eback_any (s t : List UInt8) (hs : s.length ≤ 1000000) (ht : t.length ≤ 1000000) (w0 : World) (m : Mem) (H : SHeap) :
    Does Tryd.prog 51 #[str s, str t] w0 m H (Gives (.int .i64 (tailOf s t : Int)) m H) := by
  refine Does.of_body (args := [str s, str t]) Tryd.func51 rfl Tryd.ntmps51 rfl ?_
  (try (refine st ?_; intros))
  refine WC.loopH [(5, .int .i64 ((0) : Int)), (0, str s), (1, str t)] ?_ ?_ (fun j r ds m' H' => ∃ (n : Nat), j = s.length - n ∧ r = [(5, .int .i64 (n : Int)), (0, str s), (1, str t)] ∧ ds = [] ∧ m = m' ∧ H' = H ∧ (n ≤ s.length ∧ n ≤ t.length) ∧ (n + tailOf (s.take (s.length - n)) (t.take (t.length - n)) = tailOf s t)) (s.length - (0)) ⟨0, rfl, rfl, rfl, rfl, rfl, ⟨Nat.zero_le _, Nat.zero_le _⟩, by simp⟩ ?_
  · (repeat (first | exact Env.Sub.nil | refine Env.Sub.cons rfl ?_))
  · exact zpk
  rintro j r ds m' H' ⟨n, rfl, rfl, rfl, rfl, rfl, hn, hT⟩
  generalize H' = H
  by_cases h1 : n < s.length
  · by_cases h2 : n < t.length
    · have hS : (s.take (s.length - n)).length = s.length - n := by rw [List.length_take]; omega
      have hTl : (t.take (t.length - n)).length = t.length - n := by rw [List.length_take]; omega
      have es : (s.length : Int) - (n : Int) = ((s.length - n : Nat) : Int) := by omega
      have et : (t.length : Int) - (n : Int) = ((t.length - n : Nat) : Int) := by omega
      rw [tail_step (by omega) (by omega)] at hT
      obtain ⟨_, a2, a3, a4, _⟩ := chunks_last (l := s.take (s.length - n)) (by omega)
      obtain ⟨_, b2, b3, b4, _⟩ := chunks_last (l := t.take (t.length - n)) (by omega)
      rw [hS] at a3
      rw [hTl] at b3
      (try (refine st ?_; intros))
      rw [es]
      refine w_callF Tryd.func72 ?_ (hs := before_in s (s.length - n) (by omega) (by omega) (by omega) _ _ _)
      rintro v m H ⟨rfl, rfl, rfl⟩
      generalize hp : lastP (s.take (s.length - n)) = p at *
      generalize hq : lastP (t.take (t.length - n)) = q at *
      rw [show p.v = .agg #[.int .i64 (p.at_ : Int), .int .i64 (p.w : Int), .int .i32 (p.r : Int), .bool p.b] from rfl]
      (refine st ?_; intros; rename_i bp)
      rw [et]
      refine w_callF Tryd.func72 ?_ (hs := before_in t (t.length - n) (by omega) (by omega) (by omega) _ _ _)
      rintro v m H ⟨rfl, rfl, rfl⟩
      rw [hq, show q.v = .agg #[.int .i64 (q.at_ : Int), .int .i64 (q.w : Int), .int .i32 (q.r : Int), .bool q.b] from rfl]
      have ep : (s.take (p.at_ + p.w)).drop p.at_ = txt (s.take (s.length - n)) p := by
        unfold txt; rw [List.take_take, Nat.min_eq_left (by omega)]
      have eq : (t.take (q.at_ + q.w)).drop q.at_ = txt (t.take (t.length - n)) q := by
        unfold txt; rw [List.take_take, Nat.min_eq_left (by omega)]
      by_cases hw : p.w = q.w
      · by_cases hx : txt (s.take (s.length - n)) p = txt (t.take (t.length - n)) q
        · rw [if_pos hx] at hT
          have hx2 : (s.take (p.at_ + p.w)).drop p.at_ = (t.take (q.at_ + q.w)).drop q.at_ := by rw [ep, eq, hx]
          (refine st ?_; intros; rename_i bq)
          refine WQ.next (s.length - (n + p.w)) ⟨n + p.w, rfl, rfl, rfl, rfl, rfl, ?_, ?_⟩ (by omega) zsb zpk
          · omega
          · rw [List.take_take, List.take_take, Nat.min_eq_left (by omega), Nat.min_eq_left (by omega)] at hT
            rw [show s.length - (n + p.w) = p.at_ by omega, show t.length - (n + p.w) = q.at_ by omega]; omega
        · rw [if_neg hx] at hT
          have hx2 : ¬ (s.take (p.at_ + p.w)).drop p.at_ = (t.take (q.at_ + q.w)).drop q.at_ := by rw [ep, eq]; exact hx
          (refine st ?_; intros; rename_i bq)
          exact q_fin0 (H0 := H) (Gives.mk (show Value.int .i64 (n : Int) = .int .i64 (tailOf s t : Int) by rw [← hT, Nat.add_zero])) (hd := zpk)
      · have hx : ¬ txt (s.take (s.length - n)) p = txt (t.take (t.length - n)) q := by
          intro h; rw [← h, a2] at b2; exact hw b2
        rw [if_neg hx] at hT
        (refine st ?_; intros; rename_i bq)
        exact q_fin0 (H0 := H) (Gives.mk (show Value.int .i64 (n : Int) = .int .i64 (tailOf s t : Int) by rw [← hT, Nat.add_zero])) (hd := zpk)
    · rw [tail_nil (by right; rw [List.length_take]; omega)] at hT
      (try (refine st ?_; intros))
      exact q_fin0 (H0 := H) (Gives.mk (show Value.int .i64 (n : Int) = .int .i64 (tailOf s t : Int) by rw [← hT, Nat.add_zero])) (hd := zpk)
  · rw [tail_nil (by left; rw [List.length_take]; omega)] at hT
    (try (refine st ?_; intros))
    exact q_fin0 (H0 := H) (Gives.mk (show Value.int .i64 (n : Int) = .int .i64 (tailOf s t : Int) by rw [← hT, Nat.add_zero])) (hd := zpk)
attribute [local irreducible] headOf footOf listOf
theorem sq_E31_1 {G : Prop} (h : G := by (repeat (first | (refine sp ?_; (repeat intro zzc)) | (refine iF 51 rfl ?_; refine w_callG Tryd.func51 ?_ (hs := eback_any _ _ (by simp; omega) (by simp; omega) _ _ _)))); exact WQ.q1 rfl) : G := h
theorem cm_E31_1 {G G' : Prop} (next : G') (h : Bx G' → G := by intro zzn; (try (refine wcal 0 ?_ (hwl := by intro zm zF zle; exact sq_E31_1))); (try (refine wcal 1 ?_ (hwl := by intro zm zF zle; exact sq_E31_1))); (try (refine wcal 2 ?_ (hwl := by intro zm zF zle; exact sq_E31_1))); (try (refine wcal 3 ?_ (hwl := by intro zm zF zle; exact sq_E31_1))); (try (refine wcal 4 ?_ (hwl := by intro zm zF zle; exact sq_E31_1))); (try (refine wcal 5 ?_ (hwl := by intro zm zF zle; exact sq_E31_1))); (try (refine wcal 6 ?_ (hwl := by intro zm zF zle; exact sq_E31_1))); (try (refine wcal 7 ?_ (hwl := by intro zm zF zle; exact sq_E31_1))); (try (refine wcal 8 ?_ (hwl := by intro zm zF zle; exact sq_E31_1))); (try (refine wcal 9 ?_ (hwl := by intro zm zF zle; exact sq_E31_1))); (try (refine wcal 10 ?_ (hwl := by intro zm zF zle; exact sq_E31_1))); (try (refine wcal 11 ?_ (hwl := by intro zm zF zle; exact sq_E31_1))); (try (refine wcal 12 ?_ (hwl := by intro zm zF zle; exact sq_E31_1))); (try (refine wcal 13 ?_ (hwl := by intro zm zF zle; exact sq_E31_1))); (try (refine wcal 14 ?_ (hwl := by intro zm zF zle; exact sq_E31_1))); (try (refine wcal 15 ?_ (hwl := by intro zm zF zle; exact sq_E31_1))); (try (refine wcal 16 ?_ (hwl := by intro zm zF zle; exact sq_E31_1))); (try (refine wcal 17 ?_ (hwl := by intro zm zF zle; exact sq_E31_1))); (try (refine wcal 18 ?_ (hwl := by intro zm zF zle; exact sq_E31_1))); (try (refine wcal 19 ?_ (hwl := by intro zm zF zle; exact sq_E31_1))); (try (refine wcal 20 ?_ (hwl := by intro zm zF zle; exact sq_E31_1))); (try (refine wcal 21 ?_ (hwl := by intro zm zF zle; exact sq_E31_1))); (try (refine wcal 22 ?_ (hwl := by intro zm zF zle; exact sq_E31_1))); (try (refine wcal 23 ?_ (hwl := by intro zm zF zle; exact sq_E31_1))); (try (refine wcal 24 ?_ (hwl := by intro zm zF zle; exact sq_E31_1))); (try (refine wcal 25 ?_ (hwl := by intro zm zF zle; exact sq_E31_1))); (try (refine wcal 26 ?_ (hwl := by intro zm zF zle; exact sq_E31_1))); (try (refine wcal 27 ?_ (hwl := by intro zm zF zle; exact sq_E31_1))); (try (refine wcal 28 ?_ (hwl := by intro zm zF zle; exact sq_E31_1))); (try (refine wcal 29 ?_ (hwl := by intro zm zF zle; exact sq_E31_1))); (try (refine wcal 30 ?_ (hwl := by intro zm zF zle; exact sq_E31_1))); (try (refine wcal 31 ?_ (hwl := by intro zm zF zle; exact sq_E31_1))); (try (refine wcal 32 ?_ (hwl := by intro zm zF zle; exact sq_E31_1))); (try (refine wcal 33 ?_ (hwl := by intro zm zF zle; exact sq_E31_1))); (try (refine wcal 34 ?_ (hwl := by intro zm zF zle; exact sq_E31_1))); (try (refine wcal 35 ?_ (hwl := by intro zm zF zle; exact sq_E31_1))); (try (refine wcal 36 ?_ (hwl := by intro zm zF zle; exact sq_E31_1))); (try (refine wcal 37 ?_ (hwl := by intro zm zF zle; exact sq_E31_1))); (try (refine wcal 38 ?_ (hwl := by intro zm zF zle; exact sq_E31_1))); (try (refine wcal 39 ?_ (hwl := by intro zm zF zle; exact sq_E31_1))); (try (refine wcal 40 ?_ (hwl := by intro zm zF zle; exact sq_E31_1))); (try (refine wcal 41 ?_ (hwl := by intro zm zF zle; exact sq_E31_1))); exact zzn.out) : G := h ⟨next⟩
theorem st_E31_1 {G G' : Prop} (next : G') (h : Bx G' → G := by intro zzn; (first | ((refine st ?_; (repeat intro zzc)); (try ((first | (refine iF 51 rfl ?_; refine w_callG Tryd.func51 ?_ (hs := eback_any _ _ (by simp; omega) (by simp; omega) _ _ _)) | ((refine iDraw ?_; (first | refine WC.drawAll rfl (by decide +kernel) ?_ | refine WC.draw 1 rfl (by decide +kernel) ?_ | refine WC.draw 2 rfl (by decide +kernel) ?_ | refine WC.draw 3 rfl (by decide +kernel) ?_ | refine WC.draw 4 rfl (by decide +kernel) ?_ | refine WC.draw 5 rfl (by decide +kernel) ?_ | refine WC.draw 6 rfl (by decide +kernel) ?_ | refine WC.draw 7 rfl (by decide +kernel) ?_ | refine WC.draw 8 rfl (by decide +kernel) ?_ | refine WC.draw 9 rfl (by decide +kernel) ?_ | refine WC.draw 10 rfl (by decide +kernel) ?_ | refine WC.draw 11 rfl (by decide +kernel) ?_ | refine WC.draw 12 rfl (by decide +kernel) ?_ | refine WC.draw 13 rfl (by decide +kernel) ?_ | refine WC.draw 14 rfl (by decide +kernel) ?_ | refine WC.draw 15 rfl (by decide +kernel) ?_ | refine WC.draw 16 rfl (by decide +kernel) ?_ | refine WC.draw 17 rfl (by decide +kernel) ?_ | refine WC.draw 18 rfl (by decide +kernel) ?_ | refine WC.draw 19 rfl (by decide +kernel) ?_ | refine WC.draw 20 rfl (by decide +kernel) ?_ | refine WC.draw 21 rfl (by decide +kernel) ?_ | refine WC.draw 22 rfl (by decide +kernel) ?_ | refine WC.draw 23 rfl (by decide +kernel) ?_ | refine WC.draw 24 rfl (by decide +kernel) ?_)); (repeat (refine WD.cons rfl (fun c h => by cases h) sq_E31_1 ?_)); refine WD.nil ?_)); (try (refine st ?_; (repeat intro zzc)))))) | ((first | (refine iF 51 rfl ?_; refine w_callG Tryd.func51 ?_ (hs := eback_any _ _ (by simp; omega) (by simp; omega) _ _ _)) | ((refine iDraw ?_; (first | refine WC.drawAll rfl (by decide +kernel) ?_ | refine WC.draw 1 rfl (by decide +kernel) ?_ | refine WC.draw 2 rfl (by decide +kernel) ?_ | refine WC.draw 3 rfl (by decide +kernel) ?_ | refine WC.draw 4 rfl (by decide +kernel) ?_ | refine WC.draw 5 rfl (by decide +kernel) ?_ | refine WC.draw 6 rfl (by decide +kernel) ?_ | refine WC.draw 7 rfl (by decide +kernel) ?_ | refine WC.draw 8 rfl (by decide +kernel) ?_ | refine WC.draw 9 rfl (by decide +kernel) ?_ | refine WC.draw 10 rfl (by decide +kernel) ?_ | refine WC.draw 11 rfl (by decide +kernel) ?_ | refine WC.draw 12 rfl (by decide +kernel) ?_ | refine WC.draw 13 rfl (by decide +kernel) ?_ | refine WC.draw 14 rfl (by decide +kernel) ?_ | refine WC.draw 15 rfl (by decide +kernel) ?_ | refine WC.draw 16 rfl (by decide +kernel) ?_ | refine WC.draw 17 rfl (by decide +kernel) ?_ | refine WC.draw 18 rfl (by decide +kernel) ?_ | refine WC.draw 19 rfl (by decide +kernel) ?_ | refine WC.draw 20 rfl (by decide +kernel) ?_ | refine WC.draw 21 rfl (by decide +kernel) ?_ | refine WC.draw 22 rfl (by decide +kernel) ?_ | refine WC.draw 23 rfl (by decide +kernel) ?_ | refine WC.draw 24 rfl (by decide +kernel) ?_)); (repeat (refine WD.cons rfl (fun c h => by cases h) sq_E31_1 ?_)); refine WD.nil ?_)); (try (refine st ?_; (repeat intro zzc))))); (repeat ((first | (refine iF 51 rfl ?_; refine w_callG Tryd.func51 ?_ (hs := eback_any _ _ (by simp; omega) (by simp; omega) _ _ _)) | ((refine iDraw ?_; (first | refine WC.drawAll rfl (by decide +kernel) ?_ | refine WC.draw 1 rfl (by decide +kernel) ?_ | refine WC.draw 2 rfl (by decide +kernel) ?_ | refine WC.draw 3 rfl (by decide +kernel) ?_ | refine WC.draw 4 rfl (by decide +kernel) ?_ | refine WC.draw 5 rfl (by decide +kernel) ?_ | refine WC.draw 6 rfl (by decide +kernel) ?_ | refine WC.draw 7 rfl (by decide +kernel) ?_ | refine WC.draw 8 rfl (by decide +kernel) ?_ | refine WC.draw 9 rfl (by decide +kernel) ?_ | refine WC.draw 10 rfl (by decide +kernel) ?_ | refine WC.draw 11 rfl (by decide +kernel) ?_ | refine WC.draw 12 rfl (by decide +kernel) ?_ | refine WC.draw 13 rfl (by decide +kernel) ?_ | refine WC.draw 14 rfl (by decide +kernel) ?_ | refine WC.draw 15 rfl (by decide +kernel) ?_ | refine WC.draw 16 rfl (by decide +kernel) ?_ | refine WC.draw 17 rfl (by decide +kernel) ?_ | refine WC.draw 18 rfl (by decide +kernel) ?_ | refine WC.draw 19 rfl (by decide +kernel) ?_ | refine WC.draw 20 rfl (by decide +kernel) ?_ | refine WC.draw 21 rfl (by decide +kernel) ?_ | refine WC.draw 22 rfl (by decide +kernel) ?_ | refine WC.draw 23 rfl (by decide +kernel) ?_ | refine WC.draw 24 rfl (by decide +kernel) ?_)); (repeat (refine WD.cons rfl (fun c h => by cases h) sq_E31_1 ?_)); refine WD.nil ?_)); (try (refine st ?_; (repeat intro zzc))))); (repeat revert zzc); exact zzn.out) : G := h ⟨next⟩
theorem between_any (s t : List UInt8) (hs : s.length ≤ 65536) (ht : t.length ≤ 65536) (w0 : World) (m : Mem) (H : SHeap) :
    Does Tryd.prog 20 #[str s, str t] w0 m H (ListP 39 (.inr (listOf (betA s t))) .i64 m H) := by
  refine Does.of_body (args := [str s, str t]) Tryd.func20 rfl Tryd.ntmps20 rfl ?_
  obtain ⟨h1, h2, h3, h4, _⟩ := bet_facts s t
  have hl := bet_list s t
  have hk : cutK s (cm (W s) (W t) : Nat) = headOf s t := by unfold headOf W; rfl
  have hf : tailOf (s.drop (headOf s t)) (t.drop (headOf s t)) = footOf s t := by unfold footOf; rfl
  have hcm : (cm (W s) (W t) : Int) ≤ 9223372036854775807 := by
    have := cm_le (W s) (W t)
    have := W_length s
    have := pieces_length s
    omega
  generalize listOf (betA s t) = R at *
  (try (refine st_E31_1 ?_; intros))
  refine w_callF Tryd.func50 ?_ (hs := common_any s t (by omega) (by omega) _ _ _)
  rintro v m H1 ⟨rfl, rfl, rfl⟩
  (try (refine st_E31_1 ?_; intros))
  refine w_callF Tryd.func49 ?_ (hs := cut_any s (cm (W s) (W t) : Nat) (by omega) ⟨by omega, hcm⟩ _ _ _)
  rintro v m H1 ⟨rfl, rfl, rfl⟩
  rw [hk]
  have hkl : (s.take (headOf s t)).length = headOf s t := by rw [List.length_take]; omega
  (refine st_E31_1 ?_; intros; rename_i b)
  rw [hkl, hf]
  refine WL.newRow (T := 39) (sz := 3) ?_
  refine WL.heap (H' := .blk b (.cells [.slice none Bld.start.l.length 0, str Bld.start.p, str Bld.start.d].toArray 94 (0, 0)) :: .row none 0 39 3 (Bld.start.l.map Stp.cs) :: H1) zpk ?_
  refine w_callF Tryd.func45 ?_ (hs := keep_any Bld.start (headOf s t) (by omega) (BFit.start.mono (by omega)) _ _ _)
  rintro v m H2 ⟨rfl, rfl, c1, cp1, rfl⟩
  have hB0 := BFit.start.keep (n := headOf s t)
  generalize Bld.start.keep (headOf s t : Int) = B0 at *
  (try (refine st_E31_1 ?_; intros))
  refine WC.drawE 18 ([]) (.blk b (.cells [.slice c1 B0.l.length cp1, str B0.p, str B0.d].toArray 94 (0, 0)) :: .row c1 cp1 39 3 (B0.l.map Stp.cs) :: H1) rfl (by decide +kernel) zpk ?_
  (refine cm_E31_1 ?_)
  refine WE.act0 15 (by decide +kernel) rfl rfl (fun c h => by cases h) ?_
  (try (refine st_E31_1 ?_; intros))
  refine WQ.stored (B := []) (U := .blk b (.cells [.slice c1 B0.l.length cp1, str ((t.take (t.length - footOf s t)).drop (headOf s t)), str B0.d].toArray 94 (0, 0)) :: .row c1 cp1 39 3 (B0.l.map Stp.cs) :: H1) (Mem.le.refl _) zpk ?_
  (refine cm_E31_1 ?_)
  refine WE.act0 17 (by decide +kernel) rfl rfl (fun c h => by cases h) ?_
  (try (refine st_E31_1 ?_; intros))
  refine WQ.stored (B := []) (U := .blk b (.cells [.slice c1 B0.l.length cp1, str ((t.take (t.length - footOf s t)).drop (headOf s t)), str ((s.take (s.length - footOf s t)).drop (headOf s t))].toArray 94 (0, 0)) :: .row c1 cp1 39 3 (B0.l.map Stp.cs) :: H1) (Mem.le.refl _) zpk ?_
  refine WE.done (by decide +kernel) ?_
  (try (refine st_E31_1 ?_; intros))
  have hP : ((t.take (t.length - footOf s t)).drop (headOf s t)).length ≤ 65536 := by rw [List.length_drop, List.length_take]; omega
  have hD : ((s.take (s.length - footOf s t)).drop (headOf s t)).length ≤ 65536 := by rw [List.length_drop, List.length_take]; omega
  generalize (t.take (t.length - footOf s t)).drop (headOf s t) = P at *
  generalize (s.take (s.length - footOf s t)).drop (headOf s t) = D at *
  have hB1 : BFit 1000000 (⟨B0.l, P, D⟩ : Bld) := ⟨by have := hB0.len; simp only; omega, fun x hx => by have := hB0.k x hx; omega, by simp only; omega, by simp only; omega⟩
  have hB2 := hB1.keep (n := footOf s t)
  have hB2l := hB2.len
  refine WL.heap (H' := .blk b (.cells [.slice c1 (⟨B0.l, P, D⟩ : Bld).l.length cp1, str (⟨B0.l, P, D⟩ : Bld).p, str (⟨B0.l, P, D⟩ : Bld).d].toArray 94 (0, 0)) :: .row c1 cp1 39 3 ((⟨B0.l, P, D⟩ : Bld).l.map Stp.cs) :: H1) zpk ?_
  refine w_callF Tryd.func45 ?_ (hs := keep_any ⟨B0.l, P, D⟩ (footOf s t) (by omega) (hB1.mono (by omega)) _ _ _)
  rintro v m H2 ⟨rfl, rfl, c2, cp2, rfl⟩
  rw [hl]
  generalize (⟨B0.l, P, D⟩ : Bld).keep (footOf s t : Int) = B2 at *
  (try (refine st_E31_1 ?_; intros))
  refine w_callF Tryd.func46 ?_ (hs := done_any B2 (by omega) _ _ _)
  rintro v m H2 ⟨rfl, c3, cp3, rfl, rfl⟩
  (try (refine st_E31_1 ?_; intros))
  exact q_fin0 (H0 := .row c3 cp3 39 3 (B2.close.l.map Stp.cs) :: H1) ⟨rfl, c3, cp3, rfl, rfl⟩ (hd := zpk)
end Go.Proofs.YtelgegefmjlimaaDoor

/-
  The walks of the law EditNames: the calls on no sheet, of too long texts, and the whole. No condition.
-/
namespace Go.Eng
open Go Go.RowKit
theorem bet_none {Z : List UInt8} (h : Z ≠ []) : listOf (betA Z []) = [⟨0, Z, []⟩] := by
  obtain ⟨_, h2, _, h4, _⟩ := bet_facts Z []
  rw [bet_list]
  have e1 : headOf Z [] = 0 := Nat.le_zero.1 h2
  have e2 : footOf Z [] = 0 := by simp only [List.length_nil] at h4; omega
  rw [e1, e2]
  simp only [Bld.start, Bld.keep, Bld.close]
  simp [h]
theorem zeros (K : Nat) : ∃ Z : List UInt8, Z.length = K ∧ List.replicate K [Value.int .u8 0] = Z.map fun b => [Value.int .u8 (b.toNat : Int)] :=
  ⟨List.replicate K 0, List.length_replicate, by rw [List.map_replicate]; rfl⟩
end Go.Eng
namespace Go.Proofs.YtelgegefmjlimaaDoor
open Go Go.Eng
set_option maxRecDepth 100000
set_option maxHeartbeats 4000000
set_option linter.all false
attribute [local irreducible] WL WC WQ QFun QLoop Does Q1 QRound QAssign Go.Addr.add
attribute [local irreducible] sizesOf sizesF applyV listOf plainOf applyA betA
theorem sheetAt0_any (w0 : World) (m : Mem) (H : SHeap) : Does Tryd.prog 15 #[.pointer none, .int .i64 0] w0 m H (Gives (.tuple #[str [], .int .i64 1]) m H) := by
  refine Does.of_body (args := [.pointer none, .int .i64 0]) Tryd.func15 rfl Tryd.ntmps15 rfl ?_
  (try (refine st ?_; intros))
  exact q_fin0 (H0 := H) (Gives.mk rfl) (hd := zpk)
theorem sheetHand0_any (w0 : World) (m : Mem) (H : SHeap) : Does Tryd.prog 16 #[.pointer none, .int .i64 0] w0 m H (Gives (.tuple #[.int .i64 0, .int .i64 1]) m H) := by
  refine Does.of_body (args := [.pointer none, .int .i64 0]) Tryd.func16 rfl Tryd.ntmps16 rfl ?_
  (try (refine st ?_; intros))
  exact q_fin0 (H0 := H) (Gives.mk rfl) (hd := zpk)
theorem sheetUndo0_any (w0 : World) (m : Mem) (H : SHeap) : Does Tryd.prog 14 #[.pointer none, .int .i64 (-1)] w0 m H (Gives (.tuple #[.slice none 0 0, .int .i64 1]) m H) := by
  refine Does.of_body (args := [.pointer none, .int .i64 (-1)]) Tryd.func14 rfl Tryd.ntmps14 rfl ?_
  (try (refine st ?_; intros))
  exact q_fin0 (H0 := H) (Gives.mk rfl) (hd := zpk)
theorem sheetRevision0_any (w0 : World) (m : Mem) (H : SHeap) : Does Tryd.prog 21 #[.pointer none] w0 m H (Gives (.int .i64 0) m H) := by
  refine Does.of_body (args := [.pointer none]) Tryd.func21 rfl Tryd.ntmps21 rfl ?_
  (try (refine st ?_; intros))
  exact q_fin0 (H0 := H) (Gives.mk rfl) (hd := zpk)
theorem newLong_any {s : List UInt8} (hs : 65536 < s.length) (h2 : s.length ≤ 1000000000) (w0 : World) (m : Mem) (H : SHeap) : Does Tryd.prog 19 #[str s] w0 m H (Gives (.tuple #[.pointer none, .int .i64 3]) m H) := by
  refine Does.of_body (args := [str s]) Tryd.func19 rfl Tryd.ntmps19 rfl ?_
  (try (refine st ?_; intros))
  exact q_fin0 (H0 := H) (Gives.mk rfl) (hd := zpk)
theorem betweenLong_any {s t : List UInt8} (hs : 65536 < s.length ∨ 65536 < t.length) (h2 : s.length ≤ 1000000000) (h3 : t.length ≤ 1000000000) (w0 : World) (m : Mem) (H : SHeap) : Does Tryd.prog 20 #[str s, str t] w0 m H (Gives (.tuple #[.slice none 0 0, .int .i64 3]) m H) := by
  refine Does.of_body (args := [str s, str t]) Tryd.func20 rfl Tryd.ntmps20 rfl ?_
  by_cases h : 65536 < s.length
  · (try (refine st ?_; intros))
    exact q_fin0 (H0 := H) (Gives.mk rfl) (hd := zpk)
  · (try (refine st ?_; intros))
    exact q_fin0 (H0 := H) (Gives.mk rfl) (hd := zpk)
theorem readLong_any {s : List UInt8} (hs : 1048576 < s.length) (h2 : s.length ≤ 1000000000) (w0 : World) (m : Mem) (H : SHeap) : Does Tryd.prog 8 #[str s] w0 m H (Gives (.tuple #[.slice none 0 0, .agg #[.int .i64 3, .int .i64 1048576]]) m H) := by
  refine Does.of_body (args := [str s]) Tryd.func8 rfl Tryd.ntmps8 rfl ?_
  (try (refine st ?_; intros))
  exact q_fin0 (H0 := H) (Gives.mk rfl) (hd := zpk)
theorem sq_EN1_1 {G : Prop} (h : G := by (repeat (first | (refine sp ?_; (repeat intro zzc)) | (refine iF 15 rfl ?_; refine w_callG Tryd.func15 ?_ (hs := sheetAt0_any _ _ _)))); exact WQ.q1 rfl) : G := h
theorem st_EN1_1 {G G' : Prop} (next : G') (h : Bx G' → G := by intro zzn; (first | ((refine st ?_; (repeat intro zzc)); (try ((first | (refine iF 15 rfl ?_; refine w_callG Tryd.func15 ?_ (hs := sheetAt0_any _ _ _)) | ((refine iDraw ?_; (first | refine WC.drawAll rfl (by decide +kernel) ?_ | refine WC.draw 1 rfl (by decide +kernel) ?_ | refine WC.draw 2 rfl (by decide +kernel) ?_ | refine WC.draw 3 rfl (by decide +kernel) ?_ | refine WC.draw 4 rfl (by decide +kernel) ?_ | refine WC.draw 5 rfl (by decide +kernel) ?_ | refine WC.draw 6 rfl (by decide +kernel) ?_ | refine WC.draw 7 rfl (by decide +kernel) ?_ | refine WC.draw 8 rfl (by decide +kernel) ?_ | refine WC.draw 9 rfl (by decide +kernel) ?_ | refine WC.draw 10 rfl (by decide +kernel) ?_ | refine WC.draw 11 rfl (by decide +kernel) ?_ | refine WC.draw 12 rfl (by decide +kernel) ?_ | refine WC.draw 13 rfl (by decide +kernel) ?_ | refine WC.draw 14 rfl (by decide +kernel) ?_ | refine WC.draw 15 rfl (by decide +kernel) ?_ | refine WC.draw 16 rfl (by decide +kernel) ?_ | refine WC.draw 17 rfl (by decide +kernel) ?_ | refine WC.draw 18 rfl (by decide +kernel) ?_ | refine WC.draw 19 rfl (by decide +kernel) ?_ | refine WC.draw 20 rfl (by decide +kernel) ?_ | refine WC.draw 21 rfl (by decide +kernel) ?_ | refine WC.draw 22 rfl (by decide +kernel) ?_ | refine WC.draw 23 rfl (by decide +kernel) ?_ | refine WC.draw 24 rfl (by decide +kernel) ?_)); (repeat (refine WD.cons rfl (fun c h => by cases h) sq_EN1_1 ?_)); refine WD.nil ?_)); (try (refine st ?_; (repeat intro zzc)))))) | ((first | (refine iF 15 rfl ?_; refine w_callG Tryd.func15 ?_ (hs := sheetAt0_any _ _ _)) | ((refine iDraw ?_; (first | refine WC.drawAll rfl (by decide +kernel) ?_ | refine WC.draw 1 rfl (by decide +kernel) ?_ | refine WC.draw 2 rfl (by decide +kernel) ?_ | refine WC.draw 3 rfl (by decide +kernel) ?_ | refine WC.draw 4 rfl (by decide +kernel) ?_ | refine WC.draw 5 rfl (by decide +kernel) ?_ | refine WC.draw 6 rfl (by decide +kernel) ?_ | refine WC.draw 7 rfl (by decide +kernel) ?_ | refine WC.draw 8 rfl (by decide +kernel) ?_ | refine WC.draw 9 rfl (by decide +kernel) ?_ | refine WC.draw 10 rfl (by decide +kernel) ?_ | refine WC.draw 11 rfl (by decide +kernel) ?_ | refine WC.draw 12 rfl (by decide +kernel) ?_ | refine WC.draw 13 rfl (by decide +kernel) ?_ | refine WC.draw 14 rfl (by decide +kernel) ?_ | refine WC.draw 15 rfl (by decide +kernel) ?_ | refine WC.draw 16 rfl (by decide +kernel) ?_ | refine WC.draw 17 rfl (by decide +kernel) ?_ | refine WC.draw 18 rfl (by decide +kernel) ?_ | refine WC.draw 19 rfl (by decide +kernel) ?_ | refine WC.draw 20 rfl (by decide +kernel) ?_ | refine WC.draw 21 rfl (by decide +kernel) ?_ | refine WC.draw 22 rfl (by decide +kernel) ?_ | refine WC.draw 23 rfl (by decide +kernel) ?_ | refine WC.draw 24 rfl (by decide +kernel) ?_)); (repeat (refine WD.cons rfl (fun c h => by cases h) sq_EN1_1 ?_)); refine WD.nil ?_)); (try (refine st ?_; (repeat intro zzc))))); (repeat ((first | (refine iF 15 rfl ?_; refine w_callG Tryd.func15 ?_ (hs := sheetAt0_any _ _ _)) | ((refine iDraw ?_; (first | refine WC.drawAll rfl (by decide +kernel) ?_ | refine WC.draw 1 rfl (by decide +kernel) ?_ | refine WC.draw 2 rfl (by decide +kernel) ?_ | refine WC.draw 3 rfl (by decide +kernel) ?_ | refine WC.draw 4 rfl (by decide +kernel) ?_ | refine WC.draw 5 rfl (by decide +kernel) ?_ | refine WC.draw 6 rfl (by decide +kernel) ?_ | refine WC.draw 7 rfl (by decide +kernel) ?_ | refine WC.draw 8 rfl (by decide +kernel) ?_ | refine WC.draw 9 rfl (by decide +kernel) ?_ | refine WC.draw 10 rfl (by decide +kernel) ?_ | refine WC.draw 11 rfl (by decide +kernel) ?_ | refine WC.draw 12 rfl (by decide +kernel) ?_ | refine WC.draw 13 rfl (by decide +kernel) ?_ | refine WC.draw 14 rfl (by decide +kernel) ?_ | refine WC.draw 15 rfl (by decide +kernel) ?_ | refine WC.draw 16 rfl (by decide +kernel) ?_ | refine WC.draw 17 rfl (by decide +kernel) ?_ | refine WC.draw 18 rfl (by decide +kernel) ?_ | refine WC.draw 19 rfl (by decide +kernel) ?_ | refine WC.draw 20 rfl (by decide +kernel) ?_ | refine WC.draw 21 rfl (by decide +kernel) ?_ | refine WC.draw 22 rfl (by decide +kernel) ?_ | refine WC.draw 23 rfl (by decide +kernel) ?_ | refine WC.draw 24 rfl (by decide +kernel) ?_)); (repeat (refine WD.cons rfl (fun c h => by cases h) sq_EN1_1 ?_)); refine WD.nil ?_)); (try (refine st ?_; (repeat intro zzc))))); (repeat revert zzc); exact zzn.out) : G := h ⟨next⟩
theorem sheetSince0_any (w0 : World) (m : Mem) (H : SHeap) : Does Tryd.prog 17 #[.pointer none, .int .i64 0] w0 m H (Gives (.tuple #[.slice none 0 0, .int .i64 1]) m H) := by
  refine Does.of_body (args := [.pointer none, .int .i64 0]) Tryd.func17 rfl Tryd.ntmps17 rfl ?_
  (try (refine st_EN1_1 ?_; intros))
  exact q_fin0 (H0 := H) (Gives.mk rfl) (hd := zpk)
theorem sheetFollow0_any (w0 : World) (m : Mem) (H : SHeap) : Does Tryd.prog 18 #[.pointer none, .int .i64 0, .int .i64 0, .bool false] w0 m H (Gives (.tuple #[.int .i64 0, .int .i64 1]) m H) := by
  refine Does.of_body (args := [.pointer none, .int .i64 0, .int .i64 0, .bool false]) Tryd.func18 rfl Tryd.ntmps18 rfl ?_
  (try (refine st_EN1_1 ?_; intros))
  exact q_fin0 (H0 := H) (Gives.mk rfl) (hd := zpk)
end Go.Proofs.YtelgegefmjlimaaDoor

/-
  The walk of the law EditNames. No condition.
-/
namespace Go.Proofs.YtelgegefmjlimaaDoor
open Go Go.Eng
set_option maxRecDepth 100000
set_option maxHeartbeats 4000000
set_option linter.all false
attribute [local irreducible] WL WC WQ QFun QLoop Does Q1 QRound QAssign Go.Addr.add
attribute [local irreducible] sizesOf sizesF applyV listOf plainOf applyA betA
theorem sz_no : szP (sizesOf [⟨0, [], []⟩]) = .tuple #[.int .i64 0, .int .i64 0, .int .i64 2] := by
  rw [show sizesOf [⟨0, [], []⟩] = none by decide +kernel]; rfl
theorem sz_much : szP (sizesOf [⟨65536, [], []⟩, ⟨0, [], [97]⟩]) = .tuple #[.int .i64 0, .int .i64 0, .int .i64 2] := by
  rw [show sizesOf [⟨65536, [], []⟩, ⟨0, [], [97]⟩] = none by decide +kernel]; rfl
theorem send0_any {a : Option Addr} {cap : Nat} (w0 : World) (m : Mem) (H : SHeap) (hr : RowR w0 m H 3 a (([⟨0, [], []⟩] : List Stp).map Stp.cs)) :
    Does Tryd.prog 13 #[.pointer none, .int .i64 (-1), .int .i64 0, .slice a 1 cap] w0 m H (Gives (.tuple #[.slice none 0 0, .int .i64 1]) m H) := by
  refine Does.of_body (args := [.pointer none, .int .i64 (-1), .int .i64 0, .slice a 1 cap]) Tryd.func13 rfl Tryd.ntmps13 rfl ?_
  (refine st ?_; intros; rename_i b)
  refine w_callF Tryd.func32 ?_ (hs := sizes_any (l := [⟨0, [], []⟩]) ⟨by decide, by decide, by decide, by decide⟩ _ _ _ hr.more)
  rintro v m1 H1 ⟨rfl, rfl, rfl⟩
  rw [sz_no]
  (try (refine st ?_; intros))
  exact q_fin0 (H0 := H) (Gives.mk rfl) (hd := zpk)
theorem sendArg_any {a : Option Addr} {cap b : Nat} (w0 : World) (m : Mem) (H : SHeap) (hr : RowR w0 m H 3 a (([⟨65536, [], []⟩, ⟨0, [], [97]⟩] : List Stp).map Stp.cs)) :
    Does Tryd.prog 13 #[.pointer (some ⟨b, 0, none⟩), .int .i64 0, .int .i64 0, .slice a 2 cap] w0 m H (Gives (.tuple #[.slice none 0 0, .int .i64 2]) m H) := by
  refine Does.of_body (args := [.pointer (some ⟨b, 0, none⟩), .int .i64 0, .int .i64 0, .slice a 2 cap]) Tryd.func13 rfl Tryd.ntmps13 rfl ?_
  (refine st ?_; intros; rename_i b)
  refine w_callF Tryd.func32 ?_ (hs := sizes_any (l := [⟨65536, [], []⟩, ⟨0, [], [97]⟩]) ⟨by decide, by decide, by decide, by decide⟩ _ _ _ hr.more)
  rintro v m1 H1 ⟨rfl, rfl, rfl⟩
  rw [sz_much]
  (try (refine st ?_; intros))
  exact q_fin0 (H0 := H) (Gives.mk rfl) (hd := zpk)
theorem sq_EN2_1 {G : Prop} (h : G := by (repeat (first | (refine sp ?_; (repeat intro zzc)) | (refine iF 15 rfl ?_; refine w_callG Tryd.func15 ?_ (hs := sheetAt0_any _ _ _)) | (refine iF 16 rfl ?_; refine w_callG Tryd.func16 ?_ (hs := sheetHand0_any _ _ _)) | (refine iF 14 rfl ?_; refine w_callG Tryd.func14 ?_ (hs := sheetUndo0_any _ _ _)) | (refine iF 17 rfl ?_; refine w_callG Tryd.func17 ?_ (hs := sheetSince0_any _ _ _)) | (refine iF 18 rfl ?_; refine w_callG Tryd.func18 ?_ (hs := sheetFollow0_any _ _ _)) | (refine iF 6 rfl ?_; refine w_callG Tryd.func6 ?_ (hs := live_any _ _ _)))); exact WQ.q1 rfl) : G := h
theorem cm_EN2_1 {G G' : Prop} (next : G') (h : Bx G' → G := by intro zzn; (try (refine wcal 0 ?_ (hwl := by intro zm zF zle; exact sq_EN2_1))); (try (refine wcal 1 ?_ (hwl := by intro zm zF zle; exact sq_EN2_1))); (try (refine wcal 2 ?_ (hwl := by intro zm zF zle; exact sq_EN2_1))); (try (refine wcal 3 ?_ (hwl := by intro zm zF zle; exact sq_EN2_1))); (try (refine wcal 4 ?_ (hwl := by intro zm zF zle; exact sq_EN2_1))); (try (refine wcal 5 ?_ (hwl := by intro zm zF zle; exact sq_EN2_1))); (try (refine wcal 6 ?_ (hwl := by intro zm zF zle; exact sq_EN2_1))); (try (refine wcal 7 ?_ (hwl := by intro zm zF zle; exact sq_EN2_1))); (try (refine wcal 8 ?_ (hwl := by intro zm zF zle; exact sq_EN2_1))); (try (refine wcal 9 ?_ (hwl := by intro zm zF zle; exact sq_EN2_1))); (try (refine wcal 10 ?_ (hwl := by intro zm zF zle; exact sq_EN2_1))); (try (refine wcal 11 ?_ (hwl := by intro zm zF zle; exact sq_EN2_1))); (try (refine wcal 12 ?_ (hwl := by intro zm zF zle; exact sq_EN2_1))); (try (refine wcal 13 ?_ (hwl := by intro zm zF zle; exact sq_EN2_1))); (try (refine wcal 14 ?_ (hwl := by intro zm zF zle; exact sq_EN2_1))); (try (refine wcal 15 ?_ (hwl := by intro zm zF zle; exact sq_EN2_1))); (try (refine wcal 16 ?_ (hwl := by intro zm zF zle; exact sq_EN2_1))); (try (refine wcal 17 ?_ (hwl := by intro zm zF zle; exact sq_EN2_1))); (try (refine wcal 18 ?_ (hwl := by intro zm zF zle; exact sq_EN2_1))); (try (refine wcal 19 ?_ (hwl := by intro zm zF zle; exact sq_EN2_1))); (try (refine wcal 20 ?_ (hwl := by intro zm zF zle; exact sq_EN2_1))); (try (refine wcal 21 ?_ (hwl := by intro zm zF zle; exact sq_EN2_1))); (try (refine wcal 22 ?_ (hwl := by intro zm zF zle; exact sq_EN2_1))); (try (refine wcal 23 ?_ (hwl := by intro zm zF zle; exact sq_EN2_1))); (try (refine wcal 24 ?_ (hwl := by intro zm zF zle; exact sq_EN2_1))); (try (refine wcal 25 ?_ (hwl := by intro zm zF zle; exact sq_EN2_1))); (try (refine wcal 26 ?_ (hwl := by intro zm zF zle; exact sq_EN2_1))); (try (refine wcal 27 ?_ (hwl := by intro zm zF zle; exact sq_EN2_1))); (try (refine wcal 28 ?_ (hwl := by intro zm zF zle; exact sq_EN2_1))); (try (refine wcal 29 ?_ (hwl := by intro zm zF zle; exact sq_EN2_1))); (try (refine wcal 30 ?_ (hwl := by intro zm zF zle; exact sq_EN2_1))); (try (refine wcal 31 ?_ (hwl := by intro zm zF zle; exact sq_EN2_1))); (try (refine wcal 32 ?_ (hwl := by intro zm zF zle; exact sq_EN2_1))); (try (refine wcal 33 ?_ (hwl := by intro zm zF zle; exact sq_EN2_1))); (try (refine wcal 34 ?_ (hwl := by intro zm zF zle; exact sq_EN2_1))); (try (refine wcal 35 ?_ (hwl := by intro zm zF zle; exact sq_EN2_1))); (try (refine wcal 36 ?_ (hwl := by intro zm zF zle; exact sq_EN2_1))); (try (refine wcal 37 ?_ (hwl := by intro zm zF zle; exact sq_EN2_1))); (try (refine wcal 38 ?_ (hwl := by intro zm zF zle; exact sq_EN2_1))); (try (refine wcal 39 ?_ (hwl := by intro zm zF zle; exact sq_EN2_1))); (try (refine wcal 40 ?_ (hwl := by intro zm zF zle; exact sq_EN2_1))); (try (refine wcal 41 ?_ (hwl := by intro zm zF zle; exact sq_EN2_1))); (try (refine wcal 42 ?_ (hwl := by intro zm zF zle; exact sq_EN2_1))); (try (refine wcal 43 ?_ (hwl := by intro zm zF zle; exact sq_EN2_1))); (try (refine wcal 44 ?_ (hwl := by intro zm zF zle; exact sq_EN2_1))); (try (refine wcal 45 ?_ (hwl := by intro zm zF zle; exact sq_EN2_1))); (try (refine wcal 46 ?_ (hwl := by intro zm zF zle; exact sq_EN2_1))); (try (refine wcal 47 ?_ (hwl := by intro zm zF zle; exact sq_EN2_1))); (try (refine wcal 48 ?_ (hwl := by intro zm zF zle; exact sq_EN2_1))); (try (refine wcal 49 ?_ (hwl := by intro zm zF zle; exact sq_EN2_1))); (try (refine wcal 50 ?_ (hwl := by intro zm zF zle; exact sq_EN2_1))); (try (refine wcal 51 ?_ (hwl := by intro zm zF zle; exact sq_EN2_1))); (try (refine wcal 52 ?_ (hwl := by intro zm zF zle; exact sq_EN2_1))); (try (refine wcal 53 ?_ (hwl := by intro zm zF zle; exact sq_EN2_1))); (try (refine wcal 54 ?_ (hwl := by intro zm zF zle; exact sq_EN2_1))); (try (refine wcal 55 ?_ (hwl := by intro zm zF zle; exact sq_EN2_1))); (try (refine wcal 56 ?_ (hwl := by intro zm zF zle; exact sq_EN2_1))); (try (refine wcal 57 ?_ (hwl := by intro zm zF zle; exact sq_EN2_1))); (try (refine wcal 58 ?_ (hwl := by intro zm zF zle; exact sq_EN2_1))); (try (refine wcal 59 ?_ (hwl := by intro zm zF zle; exact sq_EN2_1))); (try (refine wcal 60 ?_ (hwl := by intro zm zF zle; exact sq_EN2_1))); (try (refine wcal 61 ?_ (hwl := by intro zm zF zle; exact sq_EN2_1))); (try (refine wcal 62 ?_ (hwl := by intro zm zF zle; exact sq_EN2_1))); (try (refine wcal 63 ?_ (hwl := by intro zm zF zle; exact sq_EN2_1))); (try (refine wcal 64 ?_ (hwl := by intro zm zF zle; exact sq_EN2_1))); (try (refine wcal 65 ?_ (hwl := by intro zm zF zle; exact sq_EN2_1))); (try (refine wcal 66 ?_ (hwl := by intro zm zF zle; exact sq_EN2_1))); (try (refine wcal 67 ?_ (hwl := by intro zm zF zle; exact sq_EN2_1))); (try (refine wcal 68 ?_ (hwl := by intro zm zF zle; exact sq_EN2_1))); (try (refine wcal 69 ?_ (hwl := by intro zm zF zle; exact sq_EN2_1))); (try (refine wcal 70 ?_ (hwl := by intro zm zF zle; exact sq_EN2_1))); (try (refine wcal 71 ?_ (hwl := by intro zm zF zle; exact sq_EN2_1))); (try (refine wcal 72 ?_ (hwl := by intro zm zF zle; exact sq_EN2_1))); (try (refine wcal 73 ?_ (hwl := by intro zm zF zle; exact sq_EN2_1))); (try (refine wcal 74 ?_ (hwl := by intro zm zF zle; exact sq_EN2_1))); (try (refine wcal 75 ?_ (hwl := by intro zm zF zle; exact sq_EN2_1))); (try (refine wcal 76 ?_ (hwl := by intro zm zF zle; exact sq_EN2_1))); (try (refine wcal 77 ?_ (hwl := by intro zm zF zle; exact sq_EN2_1))); (try (refine wcal 78 ?_ (hwl := by intro zm zF zle; exact sq_EN2_1))); (try (refine wcal 79 ?_ (hwl := by intro zm zF zle; exact sq_EN2_1))); (try (refine wcal 80 ?_ (hwl := by intro zm zF zle; exact sq_EN2_1))); (try (refine wcal 81 ?_ (hwl := by intro zm zF zle; exact sq_EN2_1))); (try (refine wcal 82 ?_ (hwl := by intro zm zF zle; exact sq_EN2_1))); (try (refine wcal 83 ?_ (hwl := by intro zm zF zle; exact sq_EN2_1))); (try (refine wcal 84 ?_ (hwl := by intro zm zF zle; exact sq_EN2_1))); (try (refine wcal 85 ?_ (hwl := by intro zm zF zle; exact sq_EN2_1))); (try (refine wcal 86 ?_ (hwl := by intro zm zF zle; exact sq_EN2_1))); (try (refine wcal 87 ?_ (hwl := by intro zm zF zle; exact sq_EN2_1))); (try (refine wcal 88 ?_ (hwl := by intro zm zF zle; exact sq_EN2_1))); (try (refine wcal 89 ?_ (hwl := by intro zm zF zle; exact sq_EN2_1))); (try (refine wcal 90 ?_ (hwl := by intro zm zF zle; exact sq_EN2_1))); (try (refine wcal 91 ?_ (hwl := by intro zm zF zle; exact sq_EN2_1))); (try (refine wcal 92 ?_ (hwl := by intro zm zF zle; exact sq_EN2_1))); (try (refine wcal 93 ?_ (hwl := by intro zm zF zle; exact sq_EN2_1))); (try (refine wcal 94 ?_ (hwl := by intro zm zF zle; exact sq_EN2_1))); (try (refine wcal 95 ?_ (hwl := by intro zm zF zle; exact sq_EN2_1))); (try (refine wcal 96 ?_ (hwl := by intro zm zF zle; exact sq_EN2_1))); (try (refine wcal 97 ?_ (hwl := by intro zm zF zle; exact sq_EN2_1))); (try (refine wcal 98 ?_ (hwl := by intro zm zF zle; exact sq_EN2_1))); (try (refine wcal 99 ?_ (hwl := by intro zm zF zle; exact sq_EN2_1))); (try (refine wcal 100 ?_ (hwl := by intro zm zF zle; exact sq_EN2_1))); (try (refine wcal 101 ?_ (hwl := by intro zm zF zle; exact sq_EN2_1))); (try (refine wcal 102 ?_ (hwl := by intro zm zF zle; exact sq_EN2_1))); (try (refine wcal 103 ?_ (hwl := by intro zm zF zle; exact sq_EN2_1))); (try (refine wcal 104 ?_ (hwl := by intro zm zF zle; exact sq_EN2_1))); (try (refine wcal 105 ?_ (hwl := by intro zm zF zle; exact sq_EN2_1))); (try (refine wcal 106 ?_ (hwl := by intro zm zF zle; exact sq_EN2_1))); (try (refine wcal 107 ?_ (hwl := by intro zm zF zle; exact sq_EN2_1))); (try (refine wcal 108 ?_ (hwl := by intro zm zF zle; exact sq_EN2_1))); (try (refine wcal 109 ?_ (hwl := by intro zm zF zle; exact sq_EN2_1))); (try (refine wcal 110 ?_ (hwl := by intro zm zF zle; exact sq_EN2_1))); (try (refine wcal 111 ?_ (hwl := by intro zm zF zle; exact sq_EN2_1))); (try (refine wcal 112 ?_ (hwl := by intro zm zF zle; exact sq_EN2_1))); (try (refine wcal 113 ?_ (hwl := by intro zm zF zle; exact sq_EN2_1))); (try (refine wcal 114 ?_ (hwl := by intro zm zF zle; exact sq_EN2_1))); (try (refine wcal 115 ?_ (hwl := by intro zm zF zle; exact sq_EN2_1))); (try (refine wcal 116 ?_ (hwl := by intro zm zF zle; exact sq_EN2_1))); (try (refine wcal 117 ?_ (hwl := by intro zm zF zle; exact sq_EN2_1))); (try (refine wcal 118 ?_ (hwl := by intro zm zF zle; exact sq_EN2_1))); (try (refine wcal 119 ?_ (hwl := by intro zm zF zle; exact sq_EN2_1))); (try (refine wcal 120 ?_ (hwl := by intro zm zF zle; exact sq_EN2_1))); (try (refine wcal 121 ?_ (hwl := by intro zm zF zle; exact sq_EN2_1))); (try (refine wcal 122 ?_ (hwl := by intro zm zF zle; exact sq_EN2_1))); (try (refine wcal 123 ?_ (hwl := by intro zm zF zle; exact sq_EN2_1))); (try (refine wcal 124 ?_ (hwl := by intro zm zF zle; exact sq_EN2_1))); (try (refine wcal 125 ?_ (hwl := by intro zm zF zle; exact sq_EN2_1))); (try (refine wcal 126 ?_ (hwl := by intro zm zF zle; exact sq_EN2_1))); (try (refine wcal 127 ?_ (hwl := by intro zm zF zle; exact sq_EN2_1))); (try (refine wcal 128 ?_ (hwl := by intro zm zF zle; exact sq_EN2_1))); (try (refine wcal 129 ?_ (hwl := by intro zm zF zle; exact sq_EN2_1))); exact zzn.out) : G := h ⟨next⟩
theorem st_EN2_1 {G G' : Prop} (next : G') (h : Bx G' → G := by intro zzn; (first | ((refine st ?_; (repeat intro zzc)); (try ((first | (refine iF 15 rfl ?_; refine w_callG Tryd.func15 ?_ (hs := sheetAt0_any _ _ _)) | (refine iF 16 rfl ?_; refine w_callG Tryd.func16 ?_ (hs := sheetHand0_any _ _ _)) | (refine iF 14 rfl ?_; refine w_callG Tryd.func14 ?_ (hs := sheetUndo0_any _ _ _)) | (refine iF 17 rfl ?_; refine w_callG Tryd.func17 ?_ (hs := sheetSince0_any _ _ _)) | (refine iF 18 rfl ?_; refine w_callG Tryd.func18 ?_ (hs := sheetFollow0_any _ _ _)) | (refine iF 6 rfl ?_; refine w_callG Tryd.func6 ?_ (hs := live_any _ _ _)) | ((refine iDraw ?_; (first | refine WC.drawAll rfl (by decide +kernel) ?_ | refine WC.draw 1 rfl (by decide +kernel) ?_ | refine WC.draw 2 rfl (by decide +kernel) ?_ | refine WC.draw 3 rfl (by decide +kernel) ?_ | refine WC.draw 4 rfl (by decide +kernel) ?_ | refine WC.draw 5 rfl (by decide +kernel) ?_ | refine WC.draw 6 rfl (by decide +kernel) ?_ | refine WC.draw 7 rfl (by decide +kernel) ?_ | refine WC.draw 8 rfl (by decide +kernel) ?_ | refine WC.draw 9 rfl (by decide +kernel) ?_ | refine WC.draw 10 rfl (by decide +kernel) ?_ | refine WC.draw 11 rfl (by decide +kernel) ?_ | refine WC.draw 12 rfl (by decide +kernel) ?_ | refine WC.draw 13 rfl (by decide +kernel) ?_ | refine WC.draw 14 rfl (by decide +kernel) ?_ | refine WC.draw 15 rfl (by decide +kernel) ?_ | refine WC.draw 16 rfl (by decide +kernel) ?_ | refine WC.draw 17 rfl (by decide +kernel) ?_ | refine WC.draw 18 rfl (by decide +kernel) ?_ | refine WC.draw 19 rfl (by decide +kernel) ?_ | refine WC.draw 20 rfl (by decide +kernel) ?_ | refine WC.draw 21 rfl (by decide +kernel) ?_ | refine WC.draw 22 rfl (by decide +kernel) ?_ | refine WC.draw 23 rfl (by decide +kernel) ?_ | refine WC.draw 24 rfl (by decide +kernel) ?_)); (repeat (refine WD.cons rfl (fun c h => by cases h) sq_EN2_1 ?_)); refine WD.nil ?_)); (try (refine st ?_; (repeat intro zzc)))))) | ((first | (refine iF 15 rfl ?_; refine w_callG Tryd.func15 ?_ (hs := sheetAt0_any _ _ _)) | (refine iF 16 rfl ?_; refine w_callG Tryd.func16 ?_ (hs := sheetHand0_any _ _ _)) | (refine iF 14 rfl ?_; refine w_callG Tryd.func14 ?_ (hs := sheetUndo0_any _ _ _)) | (refine iF 17 rfl ?_; refine w_callG Tryd.func17 ?_ (hs := sheetSince0_any _ _ _)) | (refine iF 18 rfl ?_; refine w_callG Tryd.func18 ?_ (hs := sheetFollow0_any _ _ _)) | (refine iF 6 rfl ?_; refine w_callG Tryd.func6 ?_ (hs := live_any _ _ _)) | ((refine iDraw ?_; (first | refine WC.drawAll rfl (by decide +kernel) ?_ | refine WC.draw 1 rfl (by decide +kernel) ?_ | refine WC.draw 2 rfl (by decide +kernel) ?_ | refine WC.draw 3 rfl (by decide +kernel) ?_ | refine WC.draw 4 rfl (by decide +kernel) ?_ | refine WC.draw 5 rfl (by decide +kernel) ?_ | refine WC.draw 6 rfl (by decide +kernel) ?_ | refine WC.draw 7 rfl (by decide +kernel) ?_ | refine WC.draw 8 rfl (by decide +kernel) ?_ | refine WC.draw 9 rfl (by decide +kernel) ?_ | refine WC.draw 10 rfl (by decide +kernel) ?_ | refine WC.draw 11 rfl (by decide +kernel) ?_ | refine WC.draw 12 rfl (by decide +kernel) ?_ | refine WC.draw 13 rfl (by decide +kernel) ?_ | refine WC.draw 14 rfl (by decide +kernel) ?_ | refine WC.draw 15 rfl (by decide +kernel) ?_ | refine WC.draw 16 rfl (by decide +kernel) ?_ | refine WC.draw 17 rfl (by decide +kernel) ?_ | refine WC.draw 18 rfl (by decide +kernel) ?_ | refine WC.draw 19 rfl (by decide +kernel) ?_ | refine WC.draw 20 rfl (by decide +kernel) ?_ | refine WC.draw 21 rfl (by decide +kernel) ?_ | refine WC.draw 22 rfl (by decide +kernel) ?_ | refine WC.draw 23 rfl (by decide +kernel) ?_ | refine WC.draw 24 rfl (by decide +kernel) ?_)); (repeat (refine WD.cons rfl (fun c h => by cases h) sq_EN2_1 ?_)); refine WD.nil ?_)); (try (refine st ?_; (repeat intro zzc))))); (repeat ((first | (refine iF 15 rfl ?_; refine w_callG Tryd.func15 ?_ (hs := sheetAt0_any _ _ _)) | (refine iF 16 rfl ?_; refine w_callG Tryd.func16 ?_ (hs := sheetHand0_any _ _ _)) | (refine iF 14 rfl ?_; refine w_callG Tryd.func14 ?_ (hs := sheetUndo0_any _ _ _)) | (refine iF 17 rfl ?_; refine w_callG Tryd.func17 ?_ (hs := sheetSince0_any _ _ _)) | (refine iF 18 rfl ?_; refine w_callG Tryd.func18 ?_ (hs := sheetFollow0_any _ _ _)) | (refine iF 6 rfl ?_; refine w_callG Tryd.func6 ?_ (hs := live_any _ _ _)) | ((refine iDraw ?_; (first | refine WC.drawAll rfl (by decide +kernel) ?_ | refine WC.draw 1 rfl (by decide +kernel) ?_ | refine WC.draw 2 rfl (by decide +kernel) ?_ | refine WC.draw 3 rfl (by decide +kernel) ?_ | refine WC.draw 4 rfl (by decide +kernel) ?_ | refine WC.draw 5 rfl (by decide +kernel) ?_ | refine WC.draw 6 rfl (by decide +kernel) ?_ | refine WC.draw 7 rfl (by decide +kernel) ?_ | refine WC.draw 8 rfl (by decide +kernel) ?_ | refine WC.draw 9 rfl (by decide +kernel) ?_ | refine WC.draw 10 rfl (by decide +kernel) ?_ | refine WC.draw 11 rfl (by decide +kernel) ?_ | refine WC.draw 12 rfl (by decide +kernel) ?_ | refine WC.draw 13 rfl (by decide +kernel) ?_ | refine WC.draw 14 rfl (by decide +kernel) ?_ | refine WC.draw 15 rfl (by decide +kernel) ?_ | refine WC.draw 16 rfl (by decide +kernel) ?_ | refine WC.draw 17 rfl (by decide +kernel) ?_ | refine WC.draw 18 rfl (by decide +kernel) ?_ | refine WC.draw 19 rfl (by decide +kernel) ?_ | refine WC.draw 20 rfl (by decide +kernel) ?_ | refine WC.draw 21 rfl (by decide +kernel) ?_ | refine WC.draw 22 rfl (by decide +kernel) ?_ | refine WC.draw 23 rfl (by decide +kernel) ?_ | refine WC.draw 24 rfl (by decide +kernel) ?_)); (repeat (refine WD.cons rfl (fun c h => by cases h) sq_EN2_1 ?_)); refine WD.nil ?_)); (try (refine st ?_; (repeat intro zzc))))); (repeat revert zzc); exact zzn.out) : G := h ⟨next⟩
theorem editNames_any (w0 : World) (m : Mem) (H : SHeap) : Does Tryd.prog 5 #[] w0 m H (Gives (.bool true) m H) := by
  refine Does.of_body (args := []) Tryd.func5 rfl Tryd.ntmps5 rfl ?_
  obtain ⟨K, hK⟩ : ∃ K : Nat, K = 65537 := ⟨_, rfl⟩
  obtain ⟨K2, hK2⟩ : ∃ K : Nat, K = 1048577 := ⟨_, rfl⟩
  obtain ⟨Z, hZ, eZ⟩ := zeros K
  obtain ⟨Y, hY, eY⟩ := zeros K2
  have hne : Z.drop 1 ≠ [] := by intro h; have := congrArg List.length h; rw [List.length_drop] at this; simp only [List.length_nil] at this; omega
  (refine st_EN2_1 ?_; intros; rename_i b)
  refine w_callF Tryd.func13 ?_ (hs := send0_any _ _ _ (RowR.blk zhs (by decide) rfl))
  rintro v m1 H1 ⟨rfl, rfl, rfl⟩
  have eK : Int.toNat 65537 = K := by rw [hK]; rfl
  have eK2 : Int.toNat 1048577 = K2 := by rw [hK2]; rfl
  (try (refine st_EN2_1 ?_; intros))
  rw [eK, eZ]
  refine WL.rowStr (s := Z) rfl hZ.symm zhs rfl rfl rfl rfl rfl ?_
  (try (refine st_EN2_1 ?_; intros))
  refine w_callF Tryd.func19 ?_ (hs := newLong_any (s := Z) (by omega) (by omega) _ _ _)
  rintro v m1 H1 ⟨rfl, rfl, rfl⟩
  (try (refine st_EN2_1 ?_; intros))
  refine w_callF Tryd.func20 ?_ (hs := betweenLong_any (s := Z) (t := []) (.inl (by omega)) (by omega) (by simp) _ _ _)
  rintro v m1 H1 ⟨rfl, rfl, rfl⟩
  (try (refine st_EN2_1 ?_; intros))
  refine w_callF Tryd.func20 ?_ (hs := betweenLong_any (s := []) (t := Z) (.inr (by omega)) (by simp) (by omega) _ _ _)
  rintro v m1 H1 ⟨rfl, rfl, rfl⟩
  (try (refine st_EN2_1 ?_; intros))
  rw [eK2, eY]
  refine WL.rowStr (s := Y) rfl hY.symm zhs rfl rfl rfl rfl rfl ?_
  (try (refine st_EN2_1 ?_; intros))
  refine w_callF Tryd.func8 ?_ (hs := readLong_any (s := Y) (by omega) (by omega) _ _ _)
  rintro v m1 H1 ⟨rfl, rfl, rfl⟩
  (refine st_EN2_1 ?_; intros; rename_i bs)
  refine w_callF Tryd.func19 ?_ (hs := new_any (s := Z.drop 1) (by simp; omega) _ _ _)
  rintro v m1 H1 ⟨rfl, b2, rfl, rfl⟩
  (refine st_EN2_1 ?_; intros; rename_i bq)
  refine w_callF Tryd.func13 ?_ (hs := sendArg_any _ _ _ (RowR.blk zhs (by decide) rfl))
  rintro v m1 H1 ⟨rfl, rfl, rfl⟩
  (try (refine st_EN2_1 ?_; intros))
  refine w_callF Tryd.func20 ?_ (hs := between_any (Z.drop 1) [] (by simp; omega) (by simp) _ _ _)
  rintro v m1 H1 ⟨rfl, c3, cp3, rfl, rfl⟩
  rw [bet_none hne]
  have hE0 : ([⟨0, Z.drop 1, []⟩] : List Stp).map Stp.cs = [[.int .i64 0, str (Z.drop 1), str []]] := rfl
  rw [hE0]
  have hEl : ([[.int .i64 0, str (Z.drop 1), str []]] : List (List Value)).length = 1 := rfl
  have hEx : ([[.int .i64 0, str (Z.drop 1), str []]] : List (List Value))[0]? = some [.int .i64 0, str (Z.drop 1), str []] := rfl
  generalize ([[.int .i64 0, str (Z.drop 1), str []]] : List (List Value)) = E at *
  (try (refine st_EN2_1 ?_; intros))
  refine WC.rSome (RowR.row zhs) (by rw [hEl]; decide) ?_
  rintro a3 rfl
  refine WC.weak (r' := [(1, .pointer none), (2, .slice none 0 0), (3, .int .i64 1), (4, .slice none 0 0), (5, .int .i64 1), (6, str []), (7, .int .i64 1), (8, .int .i64 0), (9, .int .i64 1), (10, .slice none 0 0), (11, .int .i64 1), (12, .int .i64 0), (13, .int .i64 1), (14, str Z), (15, .pointer none), (16, .int .i64 3), (17, .slice none 0 0), (18, .int .i64 3), (19, .slice none 0 0), (20, .int .i64 3), (21, .slice none 0 0), (22, .pointer (some ⟨bs, 0, none⟩)), (23, .pointer (some ⟨b2, 0, none⟩)), (25, .slice none 0 0), (26, .int .i64 2), (27, .slice (some a3) 1 cp3), (28, .int .i64 0)]) (H' := [.blk bs (.cells [.int .i64 3, .int .i64 1048576].toArray 29 (0, 0)), .row (some a3) cp3 39 3 E] ++ .blk b2 (.cells [str (Z.drop 1), str (Z.drop 1), .slice none 0 0].toArray 85 (0, 0)) :: H) zsb zpk ?_
  refine WC.drawE 129 ([.blk bs (.cells [.int .i64 3, .int .i64 1048576].toArray 29 (0, 0)), .row (some a3) cp3 39 3 E]) (.blk b2 (.cells [str (Z.drop 1), str (Z.drop 1), .slice none 0 0].toArray 85 (0, 0)) :: H) rfl (by decide +kernel) zpk ?_
  (refine cm_EN2_1 ?_)
  refine WE.act1 29 (by decide +kernel) rfl rfl (fun c h => by cases h) ?_
  (try (refine st_EN2_1 ?_; intros))
  refine w_callF Tryd.func21 ?_ (hs := sheetRevision0_any _ _ _)
  rintro v m1 H1 ⟨rfl, rfl, rfl⟩
  (try (refine st_EN2_1 ?_; intros))
  refine WQ.acted (B := []) (U := .blk b2 (.cells [str (Z.drop 1), str (Z.drop 1), .slice none 0 0].toArray 85 (0, 0)) :: H) rfl (Mem.le.refl _) zpk ?_
  (refine cm_EN2_1 ?_)
  refine WE.act1 108 (by decide +kernel) rfl rfl (fun c h => by cases h) ?_
  (try (refine st_EN2_1 ?_; intros))
  refine w_callF Tryd.func21 ?_ (hs := revision_any (s1 := Z.drop 1) (s2 := Z.drop 1) (ra := none) (k := 0) (cra := 0) _ _ _ zhs)
  rintro v m1 H1 ⟨rfl, rfl, rfl⟩
  (try (refine st_EN2_1 ?_; intros))
  refine WQ.acted (B := []) (U := .blk b2 (.cells [str (Z.drop 1), str (Z.drop 1), .slice none 0 0].toArray 85 (0, 0)) :: H) rfl (Mem.le.refl _) zpk ?_
  (refine cm_EN2_1 ?_)
  refine WE.done (by decide +kernel) ?_
  (try (refine st_EN2_1 ?_; intros))
  exact q_fin0 (H0 := H) (Gives.mk (show Value.bool (dcd (Z.drop 1 = Z.drop 1)) = .bool true by rw [dcd_true rfl])) (hd := zpk)
end Go.Proofs.YtelgegefmjlimaaDoor

