/-
  Parts of a walk, joined: RT11 RT13 RT14 EngD EngE EngF. No condition.
-/
import Derived.Test.YtdmdabjaboigcaaP1
import Derived.Laws.Cells
import Derived.Laws.CopyRow
import Derived.Deep.AppendSrc
import Derived.Laws.BytesString
import Derived.Laws.Tables
/-
  Plain facts on the ends of texts that begin forms. No condition.
-/
set_option linter.all false
namespace Go.Eng
open Go
/-- how many bytes a form has whose first byte this is; 0: none has -/
def ldN (c : Nat) : Nat := if c < 194 ∨ 244 < c then 0 else if c < 224 then 2 else if c < 240 then 3 else 4
theorem ldN_le (c : Nat) : ldN c ≤ 4 := by unfold ldN; split <;> (try split) <;> (try split) <;> omega
def loN (c : Nat) : Nat := if c = 224 then 160 else if c = 240 then 144 else 128
def hiN (c : Nat) : Nat := if c = 237 then 159 else if c = 244 then 143 else 191
/-- a beginning of a form, and no more -/
def begOk (b : List UInt8) : Prop := b.length < ldN (nb b 0) ∧ (1 < b.length → loN (nb b 0) ≤ nb b 1 ∧ nb b 1 ≤ hiN (nb b 0)) ∧ (2 < b.length → 128 ≤ nb b 2 ∧ nb b 2 ≤ 191)
instance (b : List UInt8) : Decidable (begOk b) := by unfold begOk; infer_instance
def lackOf (b : List UInt8) : Nat := if begOk b then ldN (nb b 0) - b.length else 0
theorem nb_pad {b : List UInt8} {n : Nat} {c : UInt8} {k : Nat} : nb (b ++ List.replicate n c) k = if k < b.length then nb b k else if k < b.length + n then c.toNat else 0 := by
  simp only [nb, gb, List.getD_eq_getElem?_getD]
  by_cases h : k < b.length
  · rw [List.getElem?_append_left h, if_pos h]
  · rw [List.getElem?_append_right (by omega), if_neg h]
    by_cases h2 : k < b.length + n
    · rw [if_pos h2, List.getElem?_replicate, if_pos (by omega)]; rfl
    · rw [if_neg h2, List.getElem?_replicate, if_neg (by omega)]; rfl
def refN (c : Nat) : Nat := if 240 ≤ c then 4 else if 224 ≤ c then 3 else if 192 ≤ c then 2 else 0
theorem nb_lt (l : List UInt8) (k : Nat) : nb l k < 256 := gb_lt l k
theorem valid_false {c : Nat} : Utf8.valid (c : Int) = false ↔ ¬ okr c := by rw [← valid_nat]; simp
theorem dl_two (l : List UInt8) : (dl l).2 = 2 ↔ nb l 0 / 32 = 6 ∧ nb l 1 / 64 = 2 ∧ 128 ≤ (nb l 0 % 32) * 64 + nb l 1 % 64 := by
  have h0 := nb_lt l 0
  unfold dl
  simp only [nb_cont, Bool.and_eq_true, beq_iff_eq, ge_iff_le, decide_eq_true_eq]
  repeat' split
  all_goals first | exact ⟨fun _ => by omega, fun _ => rfl⟩ | exact ⟨fun h => absurd h (by simp), fun h => by omega⟩
theorem dl_three (l : List UInt8) : (dl l).2 = 3 ↔ nb l 0 / 16 = 14 ∧ nb l 1 / 64 = 2 ∧ nb l 2 / 64 = 2 ∧ 2048 ≤ (nb l 0 % 16) * 4096 + (nb l 1 % 64) * 64 + nb l 2 % 64 ∧ okr ((nb l 0 % 16) * 4096 + (nb l 1 % 64) * 64 + nb l 2 % 64) := by
  have h0 := nb_lt l 0
  unfold dl
  simp only [nb_cont, Bool.and_eq_true, beq_iff_eq, ge_iff_le, decide_eq_true_eq, valid_nat, okr]
  repeat' split
  all_goals first | exact ⟨fun _ => by omega, fun _ => rfl⟩ | exact ⟨fun h => absurd h (by simp), fun h => by omega⟩
theorem dl_four (l : List UInt8) : (dl l).2 = 4 ↔ nb l 0 / 8 = 30 ∧ nb l 1 / 64 = 2 ∧ nb l 2 / 64 = 2 ∧ nb l 3 / 64 = 2 ∧ 65536 ≤ (nb l 0 % 8) * 262144 + (nb l 1 % 64) * 4096 + (nb l 2 % 64) * 64 + nb l 3 % 64 ∧ okr ((nb l 0 % 8) * 262144 + (nb l 1 % 64) * 4096 + (nb l 2 % 64) * 64 + nb l 3 % 64) := by
  have h0 := nb_lt l 0
  unfold dl
  simp only [nb_cont, Bool.and_eq_true, beq_iff_eq, ge_iff_le, decide_eq_true_eq, valid_nat, okr]
  repeat' split
  all_goals first | exact ⟨fun _ => by omega, fun _ => rfl⟩ | exact ⟨fun h => absurd h (by simp), fun h => by omega⟩
def padded (b : List UInt8) (c : UInt8) : List UInt8 := b ++ List.replicate (refN (nb b 0) - b.length) c
set_option maxRecDepth 100000 in
theorem pad_iff {b : List UInt8} (h0 : 0 < b.length) (h : b.length < refN (nb b 0)) : begOk b ↔ (dl (padded b 128)).2 = refN (nb b 0) ∨ (dl (padded b 191)).2 = refN (nb b 0) := by
  have g0 := nb_lt b 0
  have g1 := nb_lt b 1
  have g2 := nb_lt b 2
  have hp : ∀ c k, k < refN (nb b 0) → nb (padded b c) k = if k < b.length then nb b k else c.toNat := fun c k hk => by
    rw [padded, nb_pad]
    by_cases h1 : k < b.length
    · rw [if_pos h1, if_pos h1]
    · rw [if_neg h1, if_neg h1, if_pos (by omega)]
  have e1 : (128 : UInt8).toNat = 128 := rfl
  have e2 : (191 : UInt8).toNat = 191 := rfl
  unfold begOk
  have hr : refN (nb b 0) = 2 ∧ 192 ≤ nb b 0 ∧ nb b 0 < 224 ∨ refN (nb b 0) = 3 ∧ 224 ≤ nb b 0 ∧ nb b 0 < 240 ∨ refN (nb b 0) = 4 ∧ 240 ≤ nb b 0 := by
    by_cases c1 : 240 ≤ nb b 0
    · exact .inr (.inr ⟨by simp [refN, c1], c1⟩)
    · by_cases c2 : 224 ≤ nb b 0
      · exact .inr (.inl ⟨by simp [refN, c1, c2], c2, by omega⟩)
      · by_cases c3 : 192 ≤ nb b 0
        · exact .inl ⟨by simp [refN, c1, c2, c3], c3, by omega⟩
        · simp [refN, c1, c2, c3] at h
  rcases hr with ⟨hr, k1, k2⟩ | ⟨hr, k1, k2⟩ | ⟨hr, k1⟩
  · rw [hr] at h hp ⊢
    rw [dl_two, dl_two, hp _ 0 (by omega), hp _ 1 (by omega), hp _ 0 (by omega), hp _ 1 (by omega)]
    have hb : b.length = 1 := by omega
    unfold ldN
    generalize nb b 0 = x at *
    by_cases q1 : x < 194
    · simp [hb, e1, e2, q1]; omega
    · simp [hb, e1, e2, q1, show ¬ 244 < x by omega, show x < 224 by omega]; omega
  · rw [hr] at h hp ⊢
    rw [dl_three, dl_three, hp _ 0 (by omega), hp _ 1 (by omega), hp _ 2 (by omega), hp _ 0 (by omega), hp _ 1 (by omega), hp _ 2 (by omega)]
    have q0 : ldN (nb b 0) = 3 := by unfold ldN; rw [if_neg (by omega), if_neg (by omega), if_pos (by omega)]
    rw [q0]
    unfold okr loN hiN
    generalize nb b 0 = x at *
    generalize nb b 1 = y at *
    rcases (show b.length = 1 ∨ b.length = 2 by omega) with hb | hb
    · simp [hb, e1, e2]; omega
    · by_cases q1 : x = 224
      · subst q1; simp [hb, e1, e2]; omega
      · by_cases q2 : x = 237
        · subst q2; simp [hb, e1, e2]; omega
        · simp [hb, e1, e2, q1, q2, show ¬ x = 240 by omega, show ¬ x = 244 by omega]; omega
  · rw [hr] at h hp ⊢
    rw [dl_four, dl_four, hp _ 0 (by omega), hp _ 1 (by omega), hp _ 2 (by omega), hp _ 3 (by omega), hp _ 0 (by omega), hp _ 1 (by omega), hp _ 2 (by omega), hp _ 3 (by omega)]
    unfold okr loN hiN ldN
    generalize nb b 0 = x at *
    generalize nb b 1 = y at *
    generalize nb b 2 = z at *
    rcases (show b.length = 1 ∨ b.length = 2 ∨ b.length = 3 by omega) with hb | hb | hb
    all_goals
      by_cases q3 : 244 < x
      · simp [hb, e1, e2, q3]; omega
      · by_cases q1 : x = 240
        · subst q1; simp [hb, e1, e2]; try omega
        · by_cases q2 : x = 244
          · subst q2; simp [hb, e1, e2]; try omega
          · simp [hb, e1, e2, q1, q2, q3, show ¬ x < 194 by omega, show ¬ x < 224 by omega, show ¬ x < 240 by omega, show ¬ x = 224 by omega, show ¬ x = 237 by omega]; omega
theorem beg_refN {b : List UInt8} (h : begOk b) : ldN (nb b 0) = refN (nb b 0) ∧ b.length < refN (nb b 0) := by
  have h1 := h.1
  have : ldN (nb b 0) = refN (nb b 0) := by
    unfold ldN refN at *
    split at h1
    · omega
    · repeat' split
      all_goals omega
  exact ⟨this, by omega⟩
theorem lack_pad {b : List UInt8} (h0 : 0 < b.length) (h : b.length < refN (nb b 0)) : lackOf b = if (dl (padded b 128)).2 = refN (nb b 0) ∨ (dl (padded b 191)).2 = refN (nb b 0) then refN (nb b 0) - b.length else 0 := by
  have h1 := pad_iff h0 h
  unfold lackOf
  by_cases hb : begOk b
  · rw [if_pos hb, if_pos (h1.1 hb), (beg_refN hb).1]
  · rw [if_neg hb, if_neg (fun h => hb (h1.2 h))]
theorem lack_long {b : List UInt8} (h : ¬ b.length < refN (nb b 0)) : lackOf b = 0 := by
  unfold lackOf
  rw [if_neg (fun hb => h (beg_refN hb).2)]
/-- the end of a text that begins a form: how many bytes, how many lack -/
def begunK (l : List UInt8) : Nat → Nat × Nat
  | 0 => (0, 0)
  | f + 1 => let k := 3 - f; if l.length < k then (0, 0) else if begOk (l.drop (l.length - k)) then (k, lackOf (l.drop (l.length - k))) else begunK l f
def begunOf (l : List UInt8) : Nat × Nat := begunK l 3
theorem begun_yes {l : List UInt8} {k : Nat} (h1 : 1 ≤ k) (h3 : k ≤ 3) (hk : k ≤ l.length) (h : begOk (l.drop (l.length - k))) : begunK l (4 - k) = (k, lackOf (l.drop (l.length - k))) := by
  rw [show 4 - k = (3 - k) + 1 by omega, begunK, show 3 - (3 - k) = k by omega]
  rw [if_neg (by omega), if_pos h]
theorem begun_next {l : List UInt8} {k : Nat} (h1 : 1 ≤ k) (h3 : k ≤ 3) (hk : k ≤ l.length) (h : ¬ begOk (l.drop (l.length - k))) : begunK l (4 - k) = begunK l (4 - (k + 1)) := by
  rw [show 4 - k = (3 - k) + 1 by omega, begunK, show 3 - (3 - k) = k by omega]
  rw [if_neg (by omega), if_neg h]
  rw [show 4 - (k + 1) = 3 - k by omega]
theorem begun_end {l : List UInt8} {k : Nat} (h1 : 1 ≤ k) (h : k ≤ 3 → l.length < k) : begunK l (4 - k) = (0, 0) := by
  by_cases h3 : k ≤ 3
  · rw [show 4 - k = (3 - k) + 1 by omega, begunK, show 3 - (3 - k) = k by omega]
    rw [if_pos (h h3)]
  · rw [show 4 - k = 0 by omega, begunK]
theorem lack_pos {b : List UInt8} : 0 < lackOf b ↔ begOk b := by
  unfold lackOf
  by_cases h : begOk b
  · rw [if_pos h]; have := h.1; exact ⟨fun _ => h, fun _ => by omega⟩
  · rw [if_neg h]; exact ⟨fun h => by omega, fun h' => absurd h' h⟩
theorem begunK_bound (l : List UInt8) : ∀ f, f ≤ 3 → (begunK l f).1 ≤ 3 ∧ (begunK l f).1 ≤ l.length ∧ (begunK l f).2 ≤ 4
  | 0, _ => ⟨by simp [begunK], by simp [begunK], by simp [begunK]⟩
  | f + 1, h => by
    rw [begunK]
    by_cases h1 : l.length < 3 - f
    · rw [if_pos h1]; simp
    · rw [if_neg h1]
      by_cases h2 : begOk (l.drop (l.length - (3 - f)))
      · rw [if_pos h2]
        refine ⟨by simp only []; omega, by simp only []; omega, ?_⟩
        simp only [lackOf]
        rw [if_pos h2]
        have : ldN (nb (l.drop (l.length - (3 - f))) 0) ≤ 4 := ldN_le _
        omega
      · rw [if_neg h2]; exact begunK_bound l f (by omega)
end Go.Eng

/-
  Plain facts on a text that comes in by parts. No condition.
-/
set_option linter.all false
namespace Go.Eng
open Go
/-- a form's first bytes are such as begin a form -/
theorem form_beg {L : List UInt8} (h : 2 ≤ (dl L).2) : ldN (nb L 0) = (dl L).2 ∧ (loN (nb L 0) ≤ nb L 1 ∧ nb L 1 ≤ hiN (nb L 0)) ∧ (3 ≤ (dl L).2 → 128 ≤ nb L 2 ∧ nb L 2 ≤ 191) := by
  have hc : (dl L).2 = 2 ∨ (dl L).2 = 3 ∨ (dl L).2 = 4 := by
    by_cases hl : 0 < L.length
    · rcases dl_cases L hl with ⟨_, h2, _⟩ | ⟨h2, _⟩
      · have := wd_pos (dl L).1; omega
      · rw [h2] at h; simp at h
    · have : L = [] := List.eq_nil_of_length_eq_zero (by omega)
      subst this
      exact absurd h (by decide)
  have g0 := nb_lt L 0
  have g1 := nb_lt L 1
  have g2 := nb_lt L 2
  rcases hc with hc | hc | hc
  · have h2 := (dl_two L).1 hc
    rw [hc]
    unfold ldN loN hiN
    generalize nb L 0 = x at *
    simp only [show ¬ (x < 194 ∨ 244 < x) by omega, if_false, show x < 224 by omega, if_true, show ¬ x = 224 by omega, show ¬ x = 240 by omega, show ¬ x = 237 by omega, show ¬ x = 244 by omega]
    exact ⟨trivial, ⟨by omega, by omega⟩, fun h => by omega⟩
  · have h3 := (dl_three L).1 hc
    rw [hc]
    unfold okr at h3
    unfold ldN loN hiN
    generalize nb L 0 = x at *
    generalize nb L 1 = y at *
    simp only [show ¬ (x < 194 ∨ 244 < x) by omega, if_false, show ¬ x < 224 by omega, show x < 240 by omega, if_true, show ¬ x = 240 by omega, show ¬ x = 244 by omega]
    by_cases q1 : x = 224
    · subst q1; simp; omega
    · by_cases q2 : x = 237
      · subst q2; simp; omega
      · simp only [q1, q2, if_false]; exact ⟨trivial, ⟨by omega, by omega⟩, fun _ => ⟨by omega, by omega⟩⟩
  · have h4 := (dl_four L).1 hc
    rw [hc]
    unfold okr at h4
    unfold ldN loN hiN
    generalize nb L 0 = x at *
    generalize nb L 1 = y at *
    simp only [show ¬ (x < 194 ∨ 244 < x) by omega, if_false, show ¬ x < 224 by omega, show ¬ x < 240 by omega, show ¬ x = 224 by omega, show ¬ x = 237 by omega]
    by_cases q1 : x = 240
    · subst q1; simp; omega
    · by_cases q2 : x = 244
      · subst q2; simp; omega
      · simp only [q1, q2, if_false]; exact ⟨trivial, ⟨by omega, by omega⟩, fun _ => ⟨by omega, by omega⟩⟩
theorem ldN_lead {c : Nat} (h : 0 < ldN c) : 194 ≤ c := by
  unfold ldN at h; split at h
  · omega
  · omega
theorem lo_hi (c : Nat) : 128 ≤ loN c ∧ hiN c ≤ 191 := by
  unfold loN hiN; constructor
  · split <;> (try split) <;> omega
  · split <;> (try split) <;> omega
/-- two beginnings that end together are one -/
theorem beg_one {l : List UInt8} {j k : Nat} (hj : 1 ≤ j) (hjk : j < k) (hk : k ≤ l.length) (hk3 : k ≤ 3) (h1 : begOk (l.drop (l.length - j))) (h2 : begOk (l.drop (l.length - k))) : False := by
  have e : ∀ i, nb (l.drop (l.length - k)) (k - j + i) = nb (l.drop (l.length - j)) i := fun i => by
    rw [nb_drop, nb_drop]; congr 1; omega
  have hl1 := ldN_lead (c := nb (l.drop (l.length - j)) 0) (by have := h1.1; omega)
  have hlen : (l.drop (l.length - k)).length = k := by simp; omega
  have hlh := lo_hi (nb (l.drop (l.length - k)) 0)
  have e0 := e 0
  rw [Nat.add_zero] at e0
  rcases (show k - j = 1 ∨ k - j = 2 by omega) with hd | hd
  · have := h2.2.1 (by omega)
    rw [hd] at e0; omega
  · have := h2.2.2 (by omega)
    rw [hd] at e0; omega
/-- the one beginning that a text ends with -/
theorem begunK_of {l : List UInt8} {k : Nat} (h1 : 1 ≤ k) (h3 : k ≤ 3) (hk : k ≤ l.length) (h : begOk (l.drop (l.length - k))) : ∀ j, 1 ≤ j → j ≤ k → begunK l (4 - j) = (k, lackOf (l.drop (l.length - k))) := by
  intro j hj hjk
  induction hd : k - j generalizing j with
  | zero =>
    obtain rfl : j = k := by omega
    exact begun_yes h1 h3 hk h
  | succ d ih =>
    rw [begun_next hj (by omega) (by omega) (fun hb => beg_one hj (by omega) hk h3 hb h)]
    exact ih (j + 1) (by omega) (by omega) (by omega)
theorem begun_of {l : List UInt8} {k : Nat} (h1 : 1 ≤ k) (h3 : k ≤ 3) (hk : k ≤ l.length) (h : begOk (l.drop (l.length - k))) : (begunOf l).1 = k := by
  have := begunK_of h1 h3 hk h 1 (Nat.le_refl _) h1
  rw [begunOf, this]
theorem begunK_none {l : List UInt8} (h : ∀ k, 1 ≤ k → k ≤ 3 → k ≤ l.length → ¬ begOk (l.drop (l.length - k))) : ∀ j, 1 ≤ j → j ≤ 4 → begunK l (4 - j) = (0, 0) := by
  intro j hj hj4
  induction hd : 4 - j generalizing j with
  | zero => rw [begunK]
  | succ d ih =>
    by_cases hjl : j ≤ l.length
    · have := begun_next hj (by omega) hjl (h j hj (by omega) hjl)
      rw [show d + 1 = 4 - j by omega, this]
      rw [show 4 - (j + 1) = d by omega]
      exact ih (j + 1) (by omega) (by omega) (by omega)
    · have := begun_end (l := l) hj (fun _ => by omega)
      rwa [show d + 1 = 4 - j by omega]
theorem begun_none {l : List UInt8} (h : ∀ k, 1 ≤ k → k ≤ 3 → k ≤ l.length → ¬ begOk (l.drop (l.length - k))) : (begunOf l).1 = 0 := by
  rw [begunOf, begunK_none h 1 (Nat.le_refl _) (by omega)]
/-- what the end of a text begins, if it begins anything -/
theorem begun_cases (l : List UInt8) : (begunOf l).1 = 0 ∧ (∀ k, 1 ≤ k → k ≤ 3 → k ≤ l.length → ¬ begOk (l.drop (l.length - k))) ∨ (1 ≤ (begunOf l).1 ∧ (begunOf l).1 ≤ 3 ∧ (begunOf l).1 ≤ l.length ∧ begOk (l.drop (l.length - (begunOf l).1))) := by
  by_cases h : ∃ k, 1 ≤ k ∧ k ≤ 3 ∧ k ≤ l.length ∧ begOk (l.drop (l.length - k))
  · obtain ⟨k, h1, h3, hk, hb⟩ := h
    right
    rw [begun_of h1 h3 hk hb]
    exact ⟨h1, h3, hk, hb⟩
  · left
    have h' : ∀ k, 1 ≤ k → k ≤ 3 → k ≤ l.length → ¬ begOk (l.drop (l.length - k)) := fun k h1 h3 hk hb => h ⟨k, h1, h3, hk, hb⟩
    exact ⟨begun_none h', h'⟩
/-- where what is told ends -/
def cutAt (l : List UInt8) : Nat := l.length - (begunOf l).1
theorem cut_le (l : List UInt8) : cutAt l ≤ l.length := by unfold cutAt; omega
/-- a beginning of what begins a form begins one too -/
theorem beg_take {b : List UInt8} {n : Nat} (h : begOk b) (h1 : 1 ≤ n) : begOk (b.take n) := by
  have e : ∀ i, i < n → nb (b.take n) i = nb b i := fun i hi => nb_take hi
  have hl : (b.take n).length = min n b.length := by simp
  refine ⟨?_, fun h2 => ?_, fun h2 => ?_⟩
  · rw [e 0 (by omega)]; have := h.1; omega
  · rw [e 0 (by omega), e 1 (by omega)]; exact h.2.1 (by omega)
  · rw [e 2 (by omega)]; exact h.2.2 (by omega)
/-- where what was told ends, pieces end, whatever follows -/
theorem cut_reach (A s : List UInt8) : Reach (A ++ s) (cutAt A) := by
  rcases begun_cases A with ⟨h0, hno⟩ | ⟨h1, h3, hk, hb⟩
  · have hc : cutAt A = A.length := by unfold cutAt; omega
    rw [hc]
    by_cases hs : A.length = (A ++ s).length
    · have : s = [] := by simpa using hs
      subst this
      exact ⟨pieces A, by rw [List.append_nil, from_nil (by omega), List.append_nil]⟩
    by_cases hw : ∃ i, Within (A ++ s) A.length i
    · exfalso
      obtain ⟨i, hi⟩ := hw
      obtain ⟨_, hil, hi3, _⟩ := within_reach (by simp) hi
      have h1 := hi.1
      have h2 := hi.2.1
      rw [readP_w_eq] at h2
      obtain ⟨f1, f2, f3⟩ := form_beg (L := (A ++ s).drop i) (by omega)
      refine hno (A.length - i) (by omega) (by omega) (by omega) ?_
      rw [show A.length - (A.length - i) = i by omega]
      have e : ∀ q, i + q < A.length → nb (A.drop i) q = nb ((A ++ s).drop i) q := fun q hq => by
        rw [nb_drop, nb_drop]
        simp [nb, gb, List.getD_eq_getElem?_getD, List.getElem?_append_left hq]
      have hl : (A.drop i).length = A.length - i := by simp
      refine ⟨?_, fun h => ?_, fun h => ?_⟩
      · rw [e 0 (by omega), f1]; omega
      · rw [e 0 (by omega), e 1 (by omega)]; exact f2
      · rw [e 2 (by omega)]; exact f3 (by omega)
    · have := (not_congr (within_iff (l := A ++ s) (at_ := A.length) (by simp))).1 hw
      rcases Classical.not_not.1 this with h | h
      · exact absurd h hs
      · exact h
  · have hlt : cutAt A < A.length := by unfold cutAt; omega
    refine reach_lead (by simp; omega) ?_ (cutAt A) 0 (by omega) (by omega) (Reach.zero _)
    right
    have hl := ldN_lead (c := nb (A.drop (A.length - (begunOf A).1)) 0) (by have := hb.1; omega)
    rw [nb_drop, Nat.add_zero] at hl
    have : nb (A ++ s) (cutAt A) = nb A (cutAt A) := by simp [nb, gb, List.getD_eq_getElem?_getD, List.getElem?_append_left hlt]
    show 192 ≤ nb (A ++ s) (cutAt A)
    rw [this]
    unfold cutAt
    omega
end Go.Eng

/-
  Plain facts on what is told of a text that comes in by parts. No condition.
-/
set_option linter.all false
namespace Go.Eng
open Go
/-- a piece, so many bytes further on -/
def Pc.sh (t : Nat) (p : Pc) : Pc := ⟨p.at_ + t, p.w, p.r, p.b⟩
theorem read_drop (l : List UInt8) (t k : Nat) : (readP (l.drop t) k).sh t = readP l (t + k) := by
  unfold readP
  rw [List.drop_drop]
  split
  · simp [Pc.sh]; omega
  · simp [Pc.sh]; omega
theorem from_drop (l : List UInt8) (t : Nat) : ∀ d k, l.length - (t + k) ≤ d → (from_ (l.drop t) k).map (Pc.sh t) = from_ l (t + k)
  | 0, k, h => by rw [from_nil (by simp; omega), from_nil (by omega)]; rfl
  | d + 1, k, h => by
    by_cases hk : t + k < l.length
    · have hk' : k < (l.drop t).length := by simp; omega
      have hw := readP_w hk
      have e := read_drop l t k
      have ew : (readP (l.drop t) k).w = (readP l (t + k)).w := by rw [← e]; rfl
      rw [from_cons hk', from_cons hk, List.map_cons, e, ew, from_drop l t d (k + (readP l (t + k)).w) (by omega)]
      congr 2
      omega
    · rw [from_nil (by simp; omega), from_nil hk]; rfl
/-- the pieces between two boundaries -/
def toldOf (A : List UInt8) (t u : Nat) : List Pc := (pieces ((A.drop t).take (u - t))).map (Pc.sh t)
theorem told_mid {A : List UInt8} {t u : Nat} {mid : List Pc} (hu : u ≤ A.length) (hle : t ≤ u) (h : from_ A t = mid ++ from_ A u) : toldOf A t u = mid := by
  have h1 := from_take hu mid t h hle
  have h2 := from_drop (A.take u) t ((A.take u).length) 0 (by omega)
  rw [toldOf, pieces, List.take_drop, show t + (u - t) = u by omega, h2, Nat.add_zero, h1]
theorem told_filter {A : List UInt8} {t u : Nat} (h1 : Reach A t) (h2 : Reach A u) (hle : t ≤ u) (hu : u ≤ A.length) : (pieces A).filter (fun p => decide (t ≤ p.at_) && decide (p.at_ < u)) = toldOf A t u := by
  obtain ⟨p1, e1, a1, b1⟩ := reach_parts h1
  obtain ⟨p2, e2, a2, b2⟩ := reach_parts h2
  have hlt : ∀ p ∈ pieces A, p.at_ < A.length := fun p hp => (mem_w hp).1
  have ha1 : ∀ q ∈ p1, q.at_ < t := by
    intro q hq
    rcases a1 q hq with h | h
    · exact h
    · have := hlt q (by rw [e1]; exact List.mem_append_left _ hq); omega
  have ha2 : ∀ q ∈ p2, q.at_ < u := by
    intro q hq
    rcases a2 q hq with h | h
    · exact h
    · have := hlt q (by rw [e2]; exact List.mem_append_left _ hq); omega
  obtain ⟨mid, hm⟩ : ∃ mid, from_ A t = mid ++ from_ A u ∧ ∀ q ∈ mid, q.at_ < u := by
    rcases List.append_eq_append_iff.1 (e1.symm.trans e2) with ⟨c, h3, h4⟩ | ⟨c, h3, h4⟩
    · exact ⟨c, h4, fun q hq => ha2 q (by rw [h3]; exact List.mem_append_right _ hq)⟩
    · have hc : c = [] := by
        cases c with
        | nil => rfl
        | cons q c =>
          have g1 := ha1 q (by rw [h3]; simp)
          have g2 := b2 q (by rw [h4]; simp)
          omega
      subst hc
      exact ⟨[], by simpa using h4.symm, fun q hq => by cases hq⟩
  rw [told_mid hu hle hm.1, e1, List.filter_append, hm.1, List.filter_append]
  rw [List.filter_eq_nil_iff.2, List.filter_eq_self.2, List.filter_eq_nil_iff.2]
  · simp
  · intro q hq; have := b2 q hq; simp; omega
  · intro q hq
    have g1 := b1 q (by rw [hm.1]; exact List.mem_append_left _ hq)
    have g2 := hm.2 q hq
    simp; omega
  · intro q hq; have := ha1 q hq; simp; omega
/-- what is held is enough to see what the whole text's end begins -/
theorem begun_held (A s : List UInt8) : (begunOf ((A ++ s).drop (cutAt A))).1 = (begunOf (A ++ s)).1 := by
  have hc := cut_le A
  have hl : ((A ++ s).drop (cutAt A)).length = (A ++ s).length - cutAt A := by simp
  have hal : (A ++ s).length = A.length + s.length := by simp
  have e : ∀ k, k ≤ ((A ++ s).drop (cutAt A)).length → ((A ++ s).drop (cutAt A)).drop (((A ++ s).drop (cutAt A)).length - k) = (A ++ s).drop ((A ++ s).length - k) := fun k hk => by
    rw [List.drop_drop]; congr 1; omega
  rcases begun_cases (A ++ s) with ⟨h0, hno⟩ | ⟨h1, h3, hk, hb⟩
  · rw [h0]
    exact begun_none fun k h1 h3 hk hb => hno k h1 h3 (by omega) (by rw [e k hk] at hb; exact hb)
  · generalize hq : (begunOf (A ++ s)).1 = k at *
    by_cases hks : k ≤ ((A ++ s).drop (cutAt A)).length
    · exact begun_of h1 h3 hks (by rw [e k hks]; exact hb)
    · exfalso
      have hp : (A ++ s).length - k < cutAt A := by omega
      have hb2 := beg_take (n := A.length - ((A ++ s).length - k)) hb (by omega)
      have e2 : ((A ++ s).drop ((A ++ s).length - k)).take (A.length - ((A ++ s).length - k)) = A.drop ((A ++ s).length - k) := by
        rw [List.drop_append_of_le_length (by omega), List.take_append_of_le_length (by simp), List.take_of_length_le (by simp)]
      rw [e2] at hb2
      have := begun_of (l := A) (k := A.length - ((A ++ s).length - k)) (by omega) (by omega) (by omega) (by rw [show A.length - (A.length - ((A ++ s).length - k)) = (A ++ s).length - k by omega]; exact hb2)
      unfold cutAt at hp
      omega
theorem held_le (A : List UInt8) : (A.drop (cutAt A)).length ≤ 3 := by
  have h1 : (begunOf A).1 ≤ 3 := (begunK_bound A 3 (Nat.le_refl _)).1
  simp [cutAt]; omega
theorem cut_mono (A s : List UInt8) : cutAt A ≤ cutAt (A ++ s) := by
  have h1 := begun_held A s
  have h2 : (begunOf ((A ++ s).drop (cutAt A))).1 ≤ ((A ++ s).drop (cutAt A)).length := (begunK_bound _ 3 (Nat.le_refl _)).2.1
  have hc := cut_le A
  have hal : (A ++ s).length = A.length + s.length := by simp
  rw [List.length_drop] at h2
  unfold cutAt at *
  omega
end Go.Eng

/-
  A walk's engine, fourth part: the operations on texts, and on memory that is known. No condition.
-/
set_option linter.all false
namespace Go.Eng
open Go Go.RowKit

section
variable {P : Program} {ro : Option Nat} {n : Nat} {w0 : World} {Q : Exit → Act → World → Prop} {r : Env} {ds : List Nat} {m : Mem} {H : SHeap}
  {ops : Array Oper} {l : List Oper} {d : Nat} {ty : TypeId} {pos : String} {after : Array Edge}

/-! ### texts -/
section
variable {x y : Operand} {s u : List UInt8} {t t' : TypeId} {i j : Int}
theorem guard_str (op : BinOp) (tx : TypeId) (vx vy : Operand) : eqGuard op tx vx vy (str s) (str u) = pure () := by
  cases op <;> rfl
theorem WL.str2 {op : BinOp} {v : Value} (hrun : ∀ w, (Op.stringOp op ⟨s.toArray⟩ ⟨u.toArray⟩).run P w = .ok v w) (hno : op ≠ .shl ∧ op ≠ .shr)
    (hx : r.ev x = some (str s)) (hy : r.ev y = some (str u)) (hd : Nat.blt d n = true) (h : WL P ro n w0 ops Q l ((d, v) :: r) ds m H) :
    WL P ro n w0 ops Q (⟨some d, .binOp op t x y t', ty, pos, after, none⟩ :: l) r ds m H :=
  .val hd (fun _ h => by cases h) (fun tmps w ho _ => by
    have hb : (binOp op t (str s) (str u)).run P w = .ok v w := by
      rw [← hrun w]; cases op <;> first | rfl | exact absurd rfl hno.1 | exact absurd rfl hno.2
    simp only [execOp, ho.ev hx, ho.ev hy, guard_str, Sem.run_bind, Sem.run_pure, Result.andThen_ok, hb]) h
theorem WL.cat (hx : r.ev x = some (str s)) (hy : r.ev y = some (str u)) (hd : Nat.blt d n = true) (hb : s.length + u.length ≤ 9223372036854775807)
    (h : WL P ro n w0 ops Q l ((d, str (s ++ u)) :: r) ds m H) : WL P ro n w0 ops Q (⟨some d, .binOp .add t x y t', ty, pos, after, none⟩ :: l) r ds m H := by
  refine .str2 (fun w => ?_) ⟨by decide, by decide⟩ hx hy hd h
  have h1 : ¬ (((⟨s.toArray⟩ : ByteArray).size + (⟨u.toArray⟩ : ByteArray).size : Nat) : Int) > IntKind.i64.max := by
    rw [ofNat_toArray, ofNat_toArray]
    have : IntKind.i64.max = 9223372036854775807 := by decide
    rw [this]; omega
  have h2 : (⟨s.toArray⟩ : ByteArray) ++ ⟨u.toArray⟩ = ⟨(s ++ u).toArray⟩ := by
    apply ByteArray.ext
    simp [ByteArray.data_append]
  unfold Op.stringOp
  simp only [h1, if_false, h2]
  rfl
theorem WL.eqlS (hx : r.ev x = some (str s)) (hy : r.ev y = some (str u)) (hd : Nat.blt d n = true)
    (h : WL P ro n w0 ops Q l ((d, .bool (dcd (s = u))) :: r) ds m H) : WL P ro n w0 ops Q (⟨some d, .binOp .eql t x y t', ty, pos, after, none⟩ :: l) r ds m H :=
  .str2 (fun w => by simp only [Op.stringOp, bytes_toList]; rw [Bool.eq_iff_iff.2 (by simp [dcd_eq] : (s == u) = true ↔ dcd (s = u) = true)]; rfl) ⟨by decide, by decide⟩ hx hy hd h
theorem w_eqlS (h : WL P ro n w0 ops Q l ((d, .bool (dcd (s = u))) :: r) ds m H) (hx : r.ev x = some (str s) := by exact rfl) (hy : r.ev y = some (str u) := by exact rfl) (hd : Nat.blt d n = true := by exact rfl) : WL P ro n w0 ops Q (⟨some d, .binOp .eql t x y t', ty, pos, after, none⟩ :: l) r ds m H := WL.eqlS hx hy hd h
theorem WL.neqS (hx : r.ev x = some (str s)) (hy : r.ev y = some (str u)) (hd : Nat.blt d n = true)
    (h : WL P ro n w0 ops Q l ((d, .bool (!dcd (s = u))) :: r) ds m H) : WL P ro n w0 ops Q (⟨some d, .binOp .neq t x y t', ty, pos, after, none⟩ :: l) r ds m H :=
  .str2 (fun w => by simp only [Op.stringOp, bytes_toList]; rw [Bool.eq_iff_iff.2 (by simp [dcd_eq] : (s == u) = true ↔ dcd (s = u) = true)]; rfl) ⟨by decide, by decide⟩ hx hy hd h
theorem w_neqS (h : WL P ro n w0 ops Q l ((d, .bool (!dcd (s = u))) :: r) ds m H) (hx : r.ev x = some (str s) := by exact rfl) (hy : r.ev y = some (str u) := by exact rfl) (hd : Nat.blt d n = true := by exact rfl) : WL P ro n w0 ops Q (⟨some d, .binOp .neq t x y t', ty, pos, after, none⟩ :: l) r ds m H := WL.neqS hx hy hd h
theorem WL.lssS (hx : r.ev x = some (str s)) (hy : r.ev y = some (str u)) (hd : Nat.blt d n = true)
    (h : WL P ro n w0 ops Q l ((d, .bool (Op.bytesLess s u)) :: r) ds m H) : WL P ro n w0 ops Q (⟨some d, .binOp .lss t x y t', ty, pos, after, none⟩ :: l) r ds m H :=
  .str2 (fun w => by simp only [Op.stringOp, bytes_toList]; rfl) ⟨by decide, by decide⟩ hx hy hd h
theorem w_lssS (h : WL P ro n w0 ops Q l ((d, .bool (Op.bytesLess s u)) :: r) ds m H) (hx : r.ev x = some (str s) := by exact rfl) (hy : r.ev y = some (str u) := by exact rfl) (hd : Nat.blt d n = true := by exact rfl) : WL P ro n w0 ops Q (⟨some d, .binOp .lss t x y t', ty, pos, after, none⟩ :: l) r ds m H := WL.lssS hx hy hd h
theorem WL.lenS {t : TypeId} (hx : r.ev x = some (str s)) (hu : P.underlying t = some .string) (hd : Nat.blt d n = true)
    (h : WL P ro n w0 ops Q l ((d, .int .i64 (s.length : Int)) :: r) ds m H) : WL P ro n w0 ops Q (⟨some d, .call ⟨.builtin .len, #[x], #[t]⟩, ty, pos, after, none⟩ :: l) r ds m H :=
  .val hd (fun _ h => by cases h) (fun tmps w ho _ => by
    simp only [execOp, resolve, invoke, builtin, Builtin.len_, Sem.run_bind, Sem.run_pure, Result.andThen_ok, List.map_toArray, List.map_cons, List.map_nil, ho.ev hx]
    show (Sem.run P ((underlying t).bind _) w).andThen _ = _
    rw [Sem.run_bind', run_underlying hu, Result.andThen_ok]
    rw [← ofNat_toArray s]; rfl) h
theorem w_lenS {t : TypeId} (h : WL P ro n w0 ops Q l ((d, .int .i64 (s.length : Int)) :: r) ds m H) (hx : r.ev x = some (str s) := by exact rfl) (hu : P.underlying t = some .string := by exact rfl) (hd : Nat.blt d n = true := by exact rfl) : WL P ro n w0 ops Q (⟨some d, .call ⟨.builtin .len, #[x], #[t]⟩, ty, pos, after, none⟩ :: l) r ds m H := WL.lenS hx hu hd h
theorem WL.indexS {ki : IntKind} {t : TypeId} {z : Int} {k : Nat} (hx : r.ev x = some (str s)) (hy : r.ev y = some (.int ki z)) (hz : z = (k : Int)) (hu : P.underlying t = some .string) (hd : Nat.blt d n = true) (hi : k < s.length)
    (h : WL P ro n w0 ops Q l ((d, .int .u8 (gb s k : Int)) :: r) ds m H) : WL P ro n w0 ops Q (⟨some d, .index t x y, ty, pos, after, none⟩ :: l) r ds m H :=
  .val hd (fun _ h => by cases h) (fun tmps w ho _ => by
    subst hz
    have h2 : (⟨s.toArray⟩ : ByteArray)[k]? = some s[k] := by
      have hz : k < (⟨s.toArray⟩ : ByteArray).size := by rw [ofNat_toArray]; exact hi
      rw [getElem?_pos (⟨s.toArray⟩ : ByteArray) k hz]
      rfl
    have h3 : gb s k = (s[k]).toNat := by simp [gb, List.getD_eq_getElem?_getD, List.getElem?_eq_getElem hi]
    have h0 : (0 : Int) ≤ (k : Int) := by omega
    simp only [execOp, Instr.index, asIntOf, Sem.run_bind, Sem.run_pure, run_underlying hu, Result.andThen_ok, ho.ev hx, ho.ev hy, h0, if_true, Int.toNat_natCast, h2, h3]) h
theorem w_indexS {ki : IntKind} {t : TypeId} {z : Int} {k : Nat} (h : WL P ro n w0 ops Q l ((d, .int .u8 (gb s k : Int)) :: r) ds m H) (hx : r.ev x = some (str s) := by exact rfl) (hy : r.ev y = some (.int ki z) := by exact rfl) (hz : z = (k : Int) := by (first | with_reducible exact natz _ | with_reducible exact natz0 | with_reducible exact natz1 | with_reducible exact natz2 | with_reducible exact natz3 | with_reducible exact natz4 | with_reducible exact natz8 | (apply natz_add; (· first | with_reducible exact natz _ | with_reducible exact natz0 | with_reducible exact natz1 | with_reducible exact natz2 | with_reducible exact natz3 | with_reducible exact natz4 | with_reducible exact natz8); (· first | with_reducible exact natz _ | with_reducible exact natz0 | with_reducible exact natz1 | with_reducible exact natz2 | with_reducible exact natz3 | with_reducible exact natz4 | with_reducible exact natz8)) | (apply natz_sub; (· first | with_reducible exact natz _ | with_reducible exact natz0 | with_reducible exact natz1 | with_reducible exact natz2 | with_reducible exact natz3 | with_reducible exact natz4 | with_reducible exact natz8); (· first | with_reducible exact natz _ | with_reducible exact natz0 | with_reducible exact natz1 | with_reducible exact natz2 | with_reducible exact natz3 | with_reducible exact natz4 | with_reducible exact natz8); (· omega)) | exact (Int.toNat_of_nonneg (by omega)).symm)) (hu : P.underlying t = some .string := by exact rfl) (hd : Nat.blt d n = true := by exact rfl) (hi : k < s.length := by omega) : WL P ro n w0 ops Q (⟨some d, .index t x y, ty, pos, after, none⟩ :: l) r ds m H := WL.indexS hx hy hz hu hd hi h
theorem extract_bytes (s : List UInt8) (a b : Nat) : (⟨s.toArray⟩ : ByteArray).extract a b = ⟨((s.take b).drop a).toArray⟩ := by
  apply ByteArray.ext
  apply Array.ext'
  simp [ByteArray.data_extract, List.drop_take]
theorem bound_ok {k : IntKind} {y : Nat} (h0 : 0 ≤ i) (h1 : i ≤ y) (c : BoundsCode) (w : World) : (Instr.sliceBound (.int k i) y c).run P w = .ok i.toNat w := by
  simp [Instr.sliceBound, asIntOf, h0, h1]
theorem sliceAt_str {t : TypeId} (hu : P.underlying t = some .string) (lo hi : Option Value) (s : List UInt8) (w : World) :
    (Instr.sliceAt t (str s) lo hi none).run P w = ((Instr.sliceBounds false s.length s.length lo hi none).run P w).andThen fun p w' => .ok (str ((s.take p.2.1).drop p.1)) w' := by
  simp only [Instr.sliceAt, Instr.slice, Sem.run_bind, run_underlying hu, Result.andThen_ok]
  simp only [Option.isSome_none, Bool.false_eq_true, if_false, Sem.run_bind, ofNat_toArray, Sem.run_pure, extract_bytes]
theorem WL.sliceLH {kl kh : IntKind} {lo hi : Operand} (hx : r.ev x = some (str s)) (hl : r.ev lo = some (.int kl i)) (hh : r.ev hi = some (.int kh j)) {a b : Nat} (hia : i = (a : Int)) (hjb : j = (b : Int)) (hu : P.underlying t = some .string) (hd : Nat.blt d n = true)
    (hb : a ≤ b ∧ b ≤ s.length) (h : WL P ro n w0 ops Q l ((d, str ((s.take b).drop a)) :: r) ds m H) :
    WL P ro n w0 ops Q (⟨some d, .slice t x (some lo) (some hi) none, ty, pos, after, none⟩ :: l) r ds m H :=
  .val hd (fun _ h => by cases h) (fun tmps w ho _ => by
    subst hia; subst hjb
    have e1 := bound_ok (P := P) (i := (a : Int)) (k := kl) (y := b) (by omega) (by omega) .sliceB w
    have e2 := bound_ok (P := P) (i := (b : Int)) (k := kh) (y := s.length) (by omega) (by omega) .sliceAlen w
    simp only [execOp, Option.map_some, Option.map_none, Sem.run_bind, ho.ev hx, ho.ev hl, ho.ev hh, sliceAt_str hu, Instr.sliceBounds]
    simp [e1, e2, Result.andThen]) h
theorem w_sliceLH {kl kh : IntKind} {lo hi : Operand} {a b : Nat} (h : WL P ro n w0 ops Q l ((d, str ((s.take b).drop a)) :: r) ds m H) (hx : r.ev x = some (str s) := by exact rfl) (hl : r.ev lo = some (.int kl i) := by exact rfl) (hh : r.ev hi = some (.int kh j) := by exact rfl) (hia : i = (a : Int) := by (first | with_reducible exact natz _ | with_reducible exact natz0 | with_reducible exact natz1 | with_reducible exact natz2 | with_reducible exact natz3 | with_reducible exact natz4 | with_reducible exact natz8 | (apply natz_add; (· first | with_reducible exact natz _ | with_reducible exact natz0 | with_reducible exact natz1 | with_reducible exact natz2 | with_reducible exact natz3 | with_reducible exact natz4 | with_reducible exact natz8); (· first | with_reducible exact natz _ | with_reducible exact natz0 | with_reducible exact natz1 | with_reducible exact natz2 | with_reducible exact natz3 | with_reducible exact natz4 | with_reducible exact natz8)) | (apply natz_sub; (· first | with_reducible exact natz _ | with_reducible exact natz0 | with_reducible exact natz1 | with_reducible exact natz2 | with_reducible exact natz3 | with_reducible exact natz4 | with_reducible exact natz8); (· first | with_reducible exact natz _ | with_reducible exact natz0 | with_reducible exact natz1 | with_reducible exact natz2 | with_reducible exact natz3 | with_reducible exact natz4 | with_reducible exact natz8); (· omega)) | exact (Int.toNat_of_nonneg (by omega)).symm)) (hjb : j = (b : Int) := by (first | with_reducible exact natz _ | with_reducible exact natz0 | with_reducible exact natz1 | with_reducible exact natz2 | with_reducible exact natz3 | with_reducible exact natz4 | with_reducible exact natz8 | (apply natz_add; (· first | with_reducible exact natz _ | with_reducible exact natz0 | with_reducible exact natz1 | with_reducible exact natz2 | with_reducible exact natz3 | with_reducible exact natz4 | with_reducible exact natz8); (· first | with_reducible exact natz _ | with_reducible exact natz0 | with_reducible exact natz1 | with_reducible exact natz2 | with_reducible exact natz3 | with_reducible exact natz4 | with_reducible exact natz8)) | (apply natz_sub; (· first | with_reducible exact natz _ | with_reducible exact natz0 | with_reducible exact natz1 | with_reducible exact natz2 | with_reducible exact natz3 | with_reducible exact natz4 | with_reducible exact natz8); (· first | with_reducible exact natz _ | with_reducible exact natz0 | with_reducible exact natz1 | with_reducible exact natz2 | with_reducible exact natz3 | with_reducible exact natz4 | with_reducible exact natz8); (· omega)) | exact (Int.toNat_of_nonneg (by omega)).symm)) (hu : P.underlying t = some .string := by exact rfl) (hd : Nat.blt d n = true := by exact rfl) (hb : a ≤ b ∧ b ≤ s.length := by omega) : WL P ro n w0 ops Q (⟨some d, .slice t x (some lo) (some hi) none, ty, pos, after, none⟩ :: l) r ds m H := WL.sliceLH hx hl hh hia hjb hu hd hb h
theorem WL.sliceL {kl : IntKind} {lo : Operand} (hx : r.ev x = some (str s)) (hl : r.ev lo = some (.int kl i)) {a : Nat} (hia : i = (a : Int)) (hu : P.underlying t = some .string) (hd : Nat.blt d n = true)
    (hb : a ≤ s.length) (h : WL P ro n w0 ops Q l ((d, str (s.drop a)) :: r) ds m H) :
    WL P ro n w0 ops Q (⟨some d, .slice t x (some lo) none none, ty, pos, after, none⟩ :: l) r ds m H :=
  .val hd (fun _ h => by cases h) (fun tmps w ho _ => by
    subst hia
    have e1 := bound_ok (P := P) (i := (a : Int)) (k := kl) (y := s.length) (by omega) (by omega) .sliceB w
    simp only [execOp, Option.map_some, Option.map_none, Sem.run_bind, ho.ev hx, ho.ev hl, sliceAt_str hu, Instr.sliceBounds]
    simp [e1, Result.andThen]) h
theorem w_sliceL {kl : IntKind} {lo : Operand} {a : Nat} (h : WL P ro n w0 ops Q l ((d, str (s.drop a)) :: r) ds m H) (hx : r.ev x = some (str s) := by exact rfl) (hl : r.ev lo = some (.int kl i) := by exact rfl) (hia : i = (a : Int) := by (first | with_reducible exact natz _ | with_reducible exact natz0 | with_reducible exact natz1 | with_reducible exact natz2 | with_reducible exact natz3 | with_reducible exact natz4 | with_reducible exact natz8 | (apply natz_add; (· first | with_reducible exact natz _ | with_reducible exact natz0 | with_reducible exact natz1 | with_reducible exact natz2 | with_reducible exact natz3 | with_reducible exact natz4 | with_reducible exact natz8); (· first | with_reducible exact natz _ | with_reducible exact natz0 | with_reducible exact natz1 | with_reducible exact natz2 | with_reducible exact natz3 | with_reducible exact natz4 | with_reducible exact natz8)) | (apply natz_sub; (· first | with_reducible exact natz _ | with_reducible exact natz0 | with_reducible exact natz1 | with_reducible exact natz2 | with_reducible exact natz3 | with_reducible exact natz4 | with_reducible exact natz8); (· first | with_reducible exact natz _ | with_reducible exact natz0 | with_reducible exact natz1 | with_reducible exact natz2 | with_reducible exact natz3 | with_reducible exact natz4 | with_reducible exact natz8); (· omega)) | exact (Int.toNat_of_nonneg (by omega)).symm)) (hu : P.underlying t = some .string := by exact rfl) (hd : Nat.blt d n = true := by exact rfl) (hb : a ≤ s.length := by omega) : WL P ro n w0 ops Q (⟨some d, .slice t x (some lo) none none, ty, pos, after, none⟩ :: l) r ds m H := WL.sliceL hx hl hia hu hd hb h
theorem WL.sliceH {kh : IntKind} {hi : Operand} (hx : r.ev x = some (str s)) (hh : r.ev hi = some (.int kh j)) {b : Nat} (hjb : j = (b : Int)) (hu : P.underlying t = some .string) (hd : Nat.blt d n = true)
    (hb : b ≤ s.length) (h : WL P ro n w0 ops Q l ((d, str (s.take b)) :: r) ds m H) :
    WL P ro n w0 ops Q (⟨some d, .slice t x none (some hi) none, ty, pos, after, none⟩ :: l) r ds m H :=
  .val hd (fun _ h => by cases h) (fun tmps w ho _ => by
    subst hjb
    have e2 := bound_ok (P := P) (i := (b : Int)) (k := kh) (y := s.length) (by omega) (by omega) .sliceAlen w
    simp only [execOp, Option.map_some, Option.map_none, Sem.run_bind, ho.ev hx, ho.ev hh, sliceAt_str hu, Instr.sliceBounds]
    simp [e2, Result.andThen]) h
theorem w_sliceH {kh : IntKind} {hi : Operand} {b : Nat} (h : WL P ro n w0 ops Q l ((d, str (s.take b)) :: r) ds m H) (hx : r.ev x = some (str s) := by exact rfl) (hh : r.ev hi = some (.int kh j) := by exact rfl) (hjb : j = (b : Int) := by (first | with_reducible exact natz _ | with_reducible exact natz0 | with_reducible exact natz1 | with_reducible exact natz2 | with_reducible exact natz3 | with_reducible exact natz4 | with_reducible exact natz8 | (apply natz_add; (· first | with_reducible exact natz _ | with_reducible exact natz0 | with_reducible exact natz1 | with_reducible exact natz2 | with_reducible exact natz3 | with_reducible exact natz4 | with_reducible exact natz8); (· first | with_reducible exact natz _ | with_reducible exact natz0 | with_reducible exact natz1 | with_reducible exact natz2 | with_reducible exact natz3 | with_reducible exact natz4 | with_reducible exact natz8)) | (apply natz_sub; (· first | with_reducible exact natz _ | with_reducible exact natz0 | with_reducible exact natz1 | with_reducible exact natz2 | with_reducible exact natz3 | with_reducible exact natz4 | with_reducible exact natz8); (· first | with_reducible exact natz _ | with_reducible exact natz0 | with_reducible exact natz1 | with_reducible exact natz2 | with_reducible exact natz3 | with_reducible exact natz4 | with_reducible exact natz8); (· omega)) | exact (Int.toNat_of_nonneg (by omega)).symm)) (hu : P.underlying t = some .string := by exact rfl) (hd : Nat.blt d n = true := by exact rfl) (hb : b ≤ s.length := by omega) : WL P ro n w0 ops Q (⟨some d, .slice t x none (some hi) none, ty, pos, after, none⟩ :: l) r ds m H := WL.sliceH hx hh hjb hu hd hb h
/-- a rune's form, by Go's own conversion -/
theorem WL.convRS {src dst : TypeId} {k : IntKind} {a : Int} (hx : r.ev x = some (.int k a)) (hs : (P.underlying src).isSome = true) (hu : P.underlying dst = some .string) (hd : Nat.blt d n = true)
    (h : WL P ro n w0 ops Q l ((d, str (Utf8.encode a).data.toList) :: r) ds m H) : WL P ro n w0 ops Q (⟨some d, .convert src dst x, ty, pos, after, none⟩ :: l) r ds m H :=
  .val hd (fun _ h => by cases h) (fun tmps w ho _ => by
    cases hq : P.underlying src with
    | none => simp [hq] at hs
    | some q =>
      simp only [execOp, ho.ev hx, convert, Sem.run_bind, run_underlying hq, run_underlying hu, Result.andThen_ok]
      rfl) h
theorem w_convRS {src dst : TypeId} {k : IntKind} {a : Int} (h : WL P ro n w0 ops Q l ((d, str (Utf8.encode a).data.toList) :: r) ds m H) (hx : r.ev x = some (.int k a) := by exact rfl) (hs : (P.underlying src).isSome = true := by exact rfl) (hu : P.underlying dst = some .string := by exact rfl) (hd : Nat.blt d n = true := by exact rfl) : WL P ro n w0 ops Q (⟨some d, .convert src dst x, ty, pos, after, none⟩ :: l) r ds m H := WL.convRS hx hs hu hd h
end

/-! ### a range over a text -/
section
variable {x : Operand} {s : List UInt8} {t : TypeId}
theorem WL.rangeS (hx : r.ev x = some (str s)) (hu : P.underlying t = some .string) (hd : Nat.blt d n = true)
    (h : ∀ b, WL P ro n w0 ops Q l ((d, .pointer (some ⟨b, 0, none⟩)) :: r) ds m (.blk b (.stringIter ⟨s.toArray⟩ 0) :: H)) :
    WL P ro n w0 ops Q (⟨some d, .range t x, ty, pos, after, none⟩ :: l) r ds m H :=
  .gen (fun v m' H' => ∃ b, v = .pointer (some ⟨b, 0, none⟩) ∧ m' = m ∧ H' = .blk b (.stringIter ⟨s.toArray⟩ 0) :: H) hd (fun _ h => by cases h)
    (fun tmps w ho hs => ⟨_, m, _, w.alloc (.stringIter ⟨s.toArray⟩ 0), by
      simp only [execOp, Instr.range, Sem.run_bind, run_underlying hu, Result.andThen_ok, ho.ev hx, Sem.run_pure, run_newObj_alloc], hs.alloc _, w.heap.size, rfl, rfl, rfl⟩)
    (by rintro _ _ _ ⟨b, rfl, rfl, rfl⟩; exact h b)
theorem w_rangeS (h : ∀ b, WL P ro n w0 ops Q l ((d, .pointer (some ⟨b, 0, none⟩)) :: r) ds m (.blk b (.stringIter ⟨s.toArray⟩ 0) :: H)) (hx : r.ev x = some (str s) := by exact rfl) (hu : P.underlying t = some .string := by exact rfl) (hd : Nat.blt d n = true := by exact rfl) : WL P ro n w0 ops Q (⟨some d, .range t x, ty, pos, after, none⟩ :: l) r ds m H := WL.rangeS hx hu hd h
/-- one item in the place of another -/
inductive Repl (i j : Item) : SHeap → SHeap → Prop
  | here {H : SHeap} : Repl i j (i :: H) (j :: H)
  | there {k : Item} {H H' : SHeap} : Repl i j H H' → Repl i j (k :: H) (k :: H')
theorem Repl.perm {i j : Item} {H H' : SHeap} (h : Repl i j H H') : ∃ H1, List.Perm H (i :: H1) ∧ List.Perm H' (j :: H1) := by
  induction h with
  | here => exact ⟨_, List.Perm.refl _, List.Perm.refl _⟩
  | there _ ih =>
    obtain ⟨H1, h1, h2⟩ := ih
    exact ⟨_ :: H1, (List.Perm.cons _ h1).trans (List.Perm.swap _ _ _), (List.Perm.cons _ h2).trans (List.Perm.swap _ _ _)⟩
theorem Repl.mem {i j : Item} {H H' : SHeap} (h : Repl i j H H') : i ∈ H := by
  obtain ⟨H1, h1, _⟩ := h.perm
  exact h1.mem_iff.2 List.mem_cons_self
/-- one item taken out -/
inductive Out (i : Item) : SHeap → SHeap → Prop
  | here {H : SHeap} : Out i (i :: H) H
  | there {k : Item} {H H' : SHeap} : Out i H H' → Out i (k :: H) (k :: H')
theorem Out.perm {i : Item} {H H' : SHeap} (h : Out i H H') : List.Perm H (i :: H') := by
  induction h with
  | here => exact List.Perm.refl _
  | there _ ih => exact (List.Perm.cons _ ih).trans (List.Perm.swap _ _ _)
theorem Sat.repl {i j : Item} {H H' : SHeap} {w w' : World} (h : Sat w0 m H w) (hr : Repl i j H H') (ho : w'.os = w.os) (ht : w'.tape = w.tape) (hu : w'.output = w.output)
    (hz : w.heap.size ≤ w'.heap.size) (hs : ∀ b, b < w.heap.size → b ∉ i.foot → w'.heap[b]? = w.heap[b]?) (hj : j.holds w')
    (hf : ∀ b ∈ j.foot, b ∈ i.foot ∨ w.heap.size ≤ b) (hn : j.foot.Nodup) : Sat w0 m H' w' := by
  obtain ⟨H1, h1, h2⟩ := hr.perm
  exact ((h.perm h1).turn ho ht hu hz hs hj hf hn).perm h2.symm
theorem Sat.replObj {b : Nat} {o o' : Obj} {H H' : SHeap} {w : World} (h : Sat w0 m H w) (hr : Repl (.blk b o) (.blk b o') H H') : Sat w0 m H' (w.putObj b o') :=
  h.repl hr rfl rfl rfl (by simp) (fun k _ hk => World.putObj_heap_other (by simpa [Item.foot] using hk))
    (World.putObj_heap_same (Array.getElem?_eq_some_iff.1 (h.own _ hr.mem)).1) (fun _ hx => .inl hx) (by simp [Item.foot])
/-- the next rune, and the next place -/
theorem WL.nextS {b k : Nat} {H' : SHeap} (hx : r.ev x = some (.pointer (some ⟨b, 0, none⟩))) (hr : Repl (.blk b (.stringIter ⟨s.toArray⟩ k)) (.blk b (.stringIter ⟨s.toArray⟩ (k + (dl (s.drop k)).2))) H H')
    (hk : k < s.length) (hd : Nat.blt d n = true)
    (h : WL P ro n w0 ops Q l ((d, .tuple #[.bool true, .int .i64 (k : Int), .int .i32 ((dl (s.drop k)).1 : Int)]) :: r) ds m H') :
    WL P ro n w0 ops Q (⟨some d, .next x true, ty, pos, after, none⟩ :: l) r ds m H :=
  .gen (fun v m' H'' => v = .tuple #[.bool true, .int .i64 (k : Int), .int .i32 ((dl (s.drop k)).1 : Int)] ∧ m' = m ∧ H'' = H') hd (fun _ h => by cases h)
    (fun tmps w ho hs => ⟨_, m, H', w.putObj b (.stringIter ⟨s.toArray⟩ (k + (dl (s.drop k)).2)), by
      have hb : w.heap[b]? = some (.stringIter ⟨s.toArray⟩ k) := hs.own _ hr.mem
      have h1 : (getObj b).run P w = .ok (.stringIter ⟨s.toArray⟩ k) w := by simp [getObj, Sem.run, hb]
      have h2 : ∀ o, (setObj b o).run P w = .ok () (w.putObj b o) := fun o => by simp [setObj, Sem.run, hb, World.putObj]
      simp only [execOp, Instr.next, Sem.run_bind, ho.ev hx, h1, Result.andThen_ok, ofNat_toArray, hk, if_true, h2, Sem.run_pure, decode_eq]
      rfl, hs.replObj hr, rfl, rfl, rfl⟩)
    (by rintro _ _ _ ⟨rfl, rfl, rfl⟩; exact h)
theorem w_nextS {b k : Nat} {H' : SHeap} (h : WL P ro n w0 ops Q l ((d, .tuple #[.bool true, .int .i64 (k : Int), .int .i32 ((dl (s.drop k)).1 : Int)]) :: r) ds m H') (hx : r.ev x = some (.pointer (some ⟨b, 0, none⟩)) := by exact rfl) (hr : Repl (.blk b (.stringIter ⟨s.toArray⟩ k)) (.blk b (.stringIter ⟨s.toArray⟩ (k + (dl (s.drop k)).2))) H H' := by (repeat (first | exact Repl.here | apply Repl.there))) (hk : k < s.length := by first | omega | (simp; omega)) (hd : Nat.blt d n = true := by exact rfl) : WL P ro n w0 ops Q (⟨some d, .next x true, ty, pos, after, none⟩ :: l) r ds m H := WL.nextS hx hr hk hd h
theorem WL.nextEnd {b k : Nat} {H' : SHeap} (hx : r.ev x = some (.pointer (some ⟨b, 0, none⟩))) (hr : Out (.blk b (.stringIter ⟨s.toArray⟩ k)) H H')
    (hk : ¬ k < s.length) (hd : Nat.blt d n = true) (h : WL P ro n w0 ops Q l ((d, .tuple #[.bool false]) :: r) ds m H') :
    WL P ro n w0 ops Q (⟨some d, .next x true, ty, pos, after, none⟩ :: l) r ds m H :=
  .gen (fun v m' H'' => v = .tuple #[.bool false] ∧ m' = m ∧ H'' = H') hd (fun _ h => by cases h)
    (fun tmps w ho hs => ⟨_, m, H', w, by
      have hb : w.heap[b]? = some (.stringIter ⟨s.toArray⟩ k) := hs.own _ (hr.perm.mem_iff.2 List.mem_cons_self)
      have h1 : (getObj b).run P w = .ok (.stringIter ⟨s.toArray⟩ k) w := by simp [getObj, Sem.run, hb]
      simp only [execOp, Instr.next, Sem.run_bind, ho.ev hx, h1, Result.andThen_ok, ofNat_toArray, hk, if_false, Sem.run_pure], (hs.perm hr.perm).drop, rfl, rfl, rfl⟩)
    (by rintro _ _ _ ⟨rfl, rfl, rfl⟩; exact h)
theorem w_nextEnd {b k : Nat} {H' : SHeap} (h : WL P ro n w0 ops Q l ((d, .tuple #[.bool false]) :: r) ds m H') (hx : r.ev x = some (.pointer (some ⟨b, 0, none⟩)) := by exact rfl) (hr : Out (.blk b (.stringIter ⟨s.toArray⟩ k)) H H' := by (repeat (first | exact Out.here | apply Out.there))) (hk : ¬ k < s.length := by first | omega | (simp; omega)) (hd : Nat.blt d n = true := by exact rfl) : WL P ro n w0 ops Q (⟨some d, .next x true, ty, pos, after, none⟩ :: l) r ds m H := WL.nextEnd hx hr hk hd h
end

/-! ### calls -/
theorem WL.callF {f : FuncId} {fn : Func} {c : Code} {args : List Operand} {vs : List Value} {ts : Array TypeId} {Post : Value → Mem → SHeap → Prop}
    (hf : P.funcs[f]? = some fn) (hname : (fn.name == "runtime.NumGoroutine") = false) (hb : fn.body = some c)
    (hv : r.evs args = some vs) (hd : Nat.blt d n = true) (hs : Does P f vs.toArray w0 m H Post) (h : ∀ v m' H', Post v m' H' → WL P ro n w0 ops Q l ((d, v) :: r) ds m' H') :
    WL P ro n w0 ops Q (⟨some d, .call ⟨.value (.func f), args.toArray, ts⟩, ty, pos, after, none⟩ :: l) r ds m H := by
  refine .enter (fun d' e => by cases e; simpa [Nat.blt_eq] using hd) (fun _ h => by cases h) (fun tmps w ho _ => ?_) hs h
  have e1 := ho.evs (marks ds) hv
  have h1 : fn.name ≠ "runtime.NumGoroutine" := by simpa using hname
  have h2 : ∀ a : Array Value, (callFunc f a).run P w = .ok (.enter f a) w := fun a => by simp [callFunc, hf, h1, hb]
  simp only [execOp, resolve, Sem.run_bind, List.map_toArray, e1]
  simp [Act.eval, Deferred.ofValue, invoke, h2, Result.andThen]
theorem w_callF {f : FuncId} {fn : Func} {c : Code} {args : List Operand} {vs : List Value} {ts : Array TypeId} {Post : Value → Mem → SHeap → Prop} (hf : P.funcs[f]? = some fn) (h : ∀ v m' H', Post v m' H' → WL P ro n w0 ops Q l ((d, v) :: r) ds m' H') (hname : (fn.name == "runtime.NumGoroutine") = false := by exact rfl) (hb : fn.body = some c := by exact rfl) (hv : r.evs args = some vs := by exact rfl) (hd : Nat.blt d n = true := by exact rfl) (hs : Does P f vs.toArray w0 m H Post) : WL P ro n w0 ops Q (⟨some d, .call ⟨.value (.func f), args.toArray, ts⟩, ty, pos, after, none⟩ :: l) r ds m H := WL.callF hf hname hb hv hd hs h
end
end Go.Eng

/-
  A walk's engine, fifth part: memory: variables, structs, rows. No condition.
-/
set_option linter.all false
namespace Go.Eng
open Go Go.RowKit

/-! ### what a cell holds -/
def Cell (w0 : World) (m : Mem) (H : SHeap) (a : Addr) (v : Value) : Prop := ∀ w, Sat w0 m H w → w.cell? a = some v
def Cells (w0 : World) (m : Mem) (H : SHeap) (a : Addr) (vs : List Value) : Prop := ∀ w, Sat w0 m H w → ∀ j v, vs[j]? = some v → w.cell? (a.add j) = some v
def Loads (P : Program) (w0 : World) (m : Mem) (H : SHeap) (t : TypeId) (a : Addr) (v : Value) : Prop := ∀ w, Sat w0 m H w → (loadVar t a).run P w = .ok v w
/-- a stretch of a list -/
inductive Seg : List Value → Nat → Nat → List Value → Prop
  | nil {L : List Value} {o : Nat} : Seg L o 0 []
  | cons {L : List Value} {o k : Nat} {v : Value} {vs : List Value} : L[o]? = some v → Seg L (o + 1) k vs → Seg L o (k + 1) (v :: vs)
theorem Seg.at_ {L vs : List Value} {o k : Nat} (h : Seg L o k vs) : vs.length = k ∧ ∀ j v, vs[j]? = some v → L[o + j]? = some v := by
  induction h with
  | nil => exact ⟨rfl, fun j v h => by simp at h⟩
  | cons h1 _ ih =>
    refine ⟨by simp [ih.1], fun j v hj => ?_⟩
    cases j with
    | zero => simp at hj; subst hj; exact h1
    | succ j =>
      have := ih.2 j v (by simpa using hj)
      rw [← this]; congr 1; omega
/-- a list, written out -/
inductive NF : List Value → List Value → Prop
  | nil {L : List Value} : L = [] → NF L []
  | cons {L L' : List Value} {v : Value} {vs : List Value} : L = v :: L' → NF L' vs → NF L (v :: vs)
theorem NF.eq {L vs : List Value} (h : NF L vs) : L = vs := by
  induction h with
  | nil h => exact h
  | cons h _ ih => rw [h, ih]
theorem add_none (b o j : Nat) : (⟨b, o, none⟩ : Addr).add j = ⟨b, o + j, none⟩ := by
  unfold Addr.add
  split
  · rename_i h; subst h; rfl
  · rfl
theorem add_eq {a : Addr} (h : a.spot = none) (j : Nat) : a.add j = ⟨a.block, a.off + j, none⟩ := by
  obtain ⟨b, o, s⟩ := a
  simp only at h; subst h
  exact add_none b o j

section
variable {P : Program} {ro : Option Nat} {n : Nat} {w0 : World} {Q : Exit → Act → World → Prop} {r : Env} {ds : List Nat} {m : Mem} {H : SHeap}
  {ops : Array Oper} {l : List Oper} {d : Nat} {ty : TypeId} {pos : String} {after : Array Edge}

theorem Cell.blk {b o : Nat} {L : List Value} {T : TypeId} {fz : Nat × Nat} {v : Value} (hm : Item.blk b (.cells L.toArray T fz) ∈ H) (hv : L[o]? = some v) : Cell w0 m H ⟨b, o, none⟩ v := by
  intro w hs
  have : w.heap[b]? = _ := hs.own _ hm
  simp [World.cell?, this, hv]
theorem Cells.blk {b o k : Nat} {L vs : List Value} {T : TypeId} {fz : Nat × Nat} (hm : Item.blk b (.cells L.toArray T fz) ∈ H) (hv : Seg L o k vs) : Cells w0 m H ⟨b, o, none⟩ vs := by
  intro w hs j v hj
  rw [add_none]
  exact Cell.blk hm (hv.at_.2 j v hj) w hs
theorem flatten_at : ∀ {es : List (List Value)} {sz i : Nat} {e : List Value}, (∀ x ∈ es, x.length = sz) → es[i]? = some e → ∀ j v, e[j]? = some v → es.flatten[i * sz + j]? = some v
  | x :: es, sz, 0, e, hl, hi, j, v, hj => by
    simp at hi; subst hi
    rw [List.flatten_cons, Nat.zero_mul, Nat.zero_add, List.getElem?_append_left (List.getElem?_eq_some_iff.1 hj).1]
    exact hj
  | x :: es, sz, i + 1, e, hl, hi, j, v, hj => by
    have hx := hl x List.mem_cons_self
    rw [List.flatten_cons, List.getElem?_append_right (by rw [hx, Nat.succ_mul]; omega)]
    rw [show (i + 1) * sz + j - x.length = i * sz + j by rw [hx, Nat.succ_mul]; omega]
    exact flatten_at (fun y hy => hl y (List.mem_cons_of_mem _ hy)) (by simpa using hi) j v hj
theorem row_at {w : World} {a : Addr} {cap : Nat} {T : TypeId} {sz : Nat} {es : List (List Value)} {i : Nat} {e : List Value} (h : Item.holds w (.row (some a) cap T sz es)) (hi : es[i]? = some e) :
    a.spot = none ∧ ∀ j v, e[j]? = some v → w.cell? (a.add (i * sz + j)) = some v := by
  obtain ⟨arr, fz, h1, h2, h3, h4, h5, h6, _⟩ := h
  have hsp : a.spot = none := by rw [h1]
  have hoff : a.off = 0 := by rw [h1]
  refine ⟨hsp, fun j v hj => ?_⟩
  have h7 := flatten_at h6 hi j v hj
  rw [← h5, List.getElem?_take] at h7
  split at h7
  · rw [add_eq hsp, hoff]
    simp only [World.cell?, h2]
    simpa using h7
  · cases h7
theorem Cells.row {a : Addr} {cap : Nat} {T : TypeId} {sz k i : Nat} {es : List (List Value)} {e : List Value} (hm : Item.row (some a) cap T sz es ∈ H) (hi : es[i]? = some e) (hk : k = i * sz) :
    Cells w0 m H (a.add k) e := by
  subst hk
  intro w hs j v hj
  have hr := row_at (hs.own _ hm) hi
  have := hr.2 j v hj
  rw [add_eq hr.1] at this ⊢
  rw [add_none, Nat.add_assoc]
  exact this
/-- a part of what is known -/
theorem Cells.part {a : Addr} {vs ws : List Value} {o k : Nat} (h : Cells w0 m H a vs) (hsp : a.spot = none) (hv : Seg vs o k ws) : Cells w0 m H (a.add o) ws := by
  intro w hs j v hj
  have := h w hs _ v (hv.at_.2 j v hj)
  rw [add_eq hsp] at this ⊢
  rw [add_none, Nat.add_assoc]
  exact this
theorem add_spot {a : Addr} (h : a.spot = none) (k : Nat) : (a.add k).spot = none := by rw [add_eq h]
theorem Cells.cell {a : Addr} {v : Value} (h : Cells w0 m H a [v]) : Cell w0 m H a v := fun w hs => by
  have := h w hs 0 v rfl
  simpa [Addr.add] using this
/-- a row that stays as it is, wherever it begins -/
def PRow (m : Mem) (T : TypeId) (sz : Nat) : Value → List (List Value) → Prop
  | .slice none len _, es => es = [] ∧ len = 0
  | .slice (some a) len _, es => a.spot = none ∧ len = es.length ∧ (∀ e ∈ es, e.length = sz) ∧ ∃ arr fz, m a.block = some (.cells arr T fz) ∧ ∀ j v, es.flatten[j]? = some v → arr[a.off + j]? = some v
  | _, _ => False
theorem PRow.le {m m' : Mem} {T : TypeId} {sz : Nat} {v : Value} {es : List (List Value)} (h : PRow m T sz v es) (hm : m.le m') : PRow m' T sz v es := by
  match v, h with
  | .slice none _ _, h => exact h
  | .slice (some a) _ _, ⟨h1, h2, h3, arr, fz, h4, h5⟩ => exact ⟨h1, h2, h3, arr, fz, hm _ _ h4, h5⟩
theorem PRow.len {m : Mem} {T : TypeId} {sz : Nat} {v : Value} {es : List (List Value)} (h : PRow m T sz v es) : ∃ a cap, v = .slice a es.length cap := by
  match v, h with
  | .slice none len cap, ⟨h1, h2⟩ => subst h1; subst h2; exact ⟨none, cap, rfl⟩
  | .slice (some a) len cap, ⟨_, h2, _⟩ => subst h2; exact ⟨some a, cap, rfl⟩
theorem Cells.prow {a : Addr} {len cap : Nat} {T : TypeId} {sz k i : Nat} {es : List (List Value)} {e : List Value} (hp : PRow m T sz (.slice (some a) len cap) es) (hi : es[i]? = some e) (hk : k = i * sz) :
    Cells w0 m H (a.add k) e := by
  subst hk
  obtain ⟨h1, _, h3, arr, fz, h4, h5⟩ := hp
  intro w hs j v hj
  have h6 := h5 _ v (flatten_at h3 hi j v hj)
  rw [add_eq h1, add_none]
  simp [World.cell?, hs.pers _ _ h4, Nat.add_assoc, h6]

theorem Loads.one {t : TypeId} {a : Addr} {v : Value} (hu : aggB P t = some false) (hc : Cell w0 m H a v) : Loads P w0 m H t a v := by
  intro w hs
  simp only [loadVar, Sem.run_bind, run_agg hu, Result.andThen_ok, Bool.false_eq_true, if_false]
  rw [run_load, hc w hs]
theorem Loads.agg {t : TypeId} {a : Addr} {vs : List Value} {k : Nat} (hu : aggB P t = some true) (hz : sizeB P t = some k) (hk : vs.length = k) (hc : Cells w0 m H a vs) : Loads P w0 m H t a (.agg vs.toArray) := by
  intro w hs
  have := run_loadCells_list (P := P) (w := w) a vs (fun j v hj => hc w hs j v hj)
  rw [hk] at this
  simp only [loadVar, Sem.run_bind, run_agg hu, Result.andThen_ok, if_true, run_size hz, this, Sem.run_pure]
theorem Loads.blk {t : TypeId} {b o k : Nat} {L vs : List Value} {T : TypeId} {fz : Nat × Nat} (hu : aggB P t = some true) (hz : sizeB P t = some k) (hm : Item.blk b (.cells L.toArray T fz) ∈ H) (hv : Seg L o k vs) : Loads P w0 m H t ⟨b, o, none⟩ (.agg vs.toArray) :=
  .agg hu hz hv.at_.1 (Cells.blk hm hv)
theorem Loads.whole {t : TypeId} {b k : Nat} {L : List Value} {T : TypeId} {fz : Nat × Nat} (hu : aggB P t = some true) (hz : sizeB P t = some k) (hm : Item.blk b (.cells L.toArray T fz) ∈ H) (hk : L.length = k) : Loads P w0 m H t ⟨b, 0, none⟩ (.agg L.toArray) :=
  .agg hu hz hk (fun w hs j v hj => by rw [add_none]; exact Cell.blk hm (by simpa using hj) w hs)
theorem Loads.row {t : TypeId} {a : Addr} {cap : Nat} {T : TypeId} {sz i kk k : Nat} {es : List (List Value)} {e : List Value} (hm : Item.row (some a) cap T sz es ∈ H) (hi : es[i]? = some e) (hkk : kk = i * sz) (hu : aggB P t = some true) (hz : sizeB P t = some k) (hl : e.length = k) :
    Loads P w0 m H t (a.add kk) (.agg e.toArray) := .agg hu hz hl (Cells.row hm hi hkk)
theorem Loads.row1 {t : TypeId} {a : Addr} {cap : Nat} {T : TypeId} {sz i kk : Nat} {es : List (List Value)} {v : Value} (hm : Item.row (some a) cap T sz es ∈ H) (hi : es[i]? = some [v]) (hkk : kk = i * sz) (hu : aggB P t = some false) :
    Loads P w0 m H t (a.add kk) v := .one hu (Cells.cell (Cells.row hm hi hkk))
theorem WL.load {t : TypeId} {x : Operand} {a : Addr} {v : Value} (hx : r.ev x = some (.pointer (some a))) (hl : Loads P w0 m H t a v) (hd : Nat.blt d n = true)
    (h : WL P ro n w0 ops Q l ((d, v) :: r) ds m H) : WL P ro n w0 ops Q (⟨some d, .load t x, ty, pos, after, none⟩ :: l) r ds m H :=
  .val hd (fun _ h => by cases h) (fun tmps w ho hs => by
    simp only [execOp, Instr.loadAt, Instr.sureAddr, ho.ev hx, Sem.run_bind, Sem.run_pure, Result.andThen_ok, hl w hs]) h

theorem w_load {t : TypeId} {x : Operand} {a : Addr} {v : Value} (h : WL P ro n w0 ops Q l ((d, v) :: r) ds m H) (hx : r.ev x = some (.pointer (some a)) := by exact rfl) (hl : Loads P w0 m H t a v := by (first | (apply Loads.one; (· exact rfl); (· first | (apply Cell.blk; (· (repeat (first | exact List.Mem.head _ | apply List.Mem.tail))); (· exact rfl)) | (apply Cell.mem; (· assumption); (· exact rfl)))) | (apply Loads.whole; (· exact rfl); (· exact rfl); (· (repeat (first | exact List.Mem.head _ | apply List.Mem.tail))); (· exact rfl)) | (apply Loads.blk; (· exact rfl); (· exact rfl); (· (repeat (first | exact List.Mem.head _ | apply List.Mem.tail))); (· (repeat (first | exact Seg.nil | (apply Seg.cons; (· exact rfl)))))) | (apply Loads.row; (· (repeat (first | exact List.Mem.head _ | apply List.Mem.tail))); (first | (rotate_left; (· exact rfl); rotate_right; (· assumption)) | ((· assumption); (· exact rfl))); (· exact rfl); (· exact rfl); (· exact rfl)) | (apply Loads.row1; (· (repeat (first | exact List.Mem.head _ | apply List.Mem.tail))); (first | (rotate_left; (· exact rfl); rotate_right; (· assumption)) | ((· assumption); (· exact rfl))); (· exact rfl)) | (apply Loads.rowF; (· (repeat (first | exact List.Mem.head _ | apply List.Mem.tail))); (first | (rotate_left; (· exact rfl); rotate_right; (· assumption)) | ((· assumption); (· exact rfl))); (· exact rfl); (· exact rfl)) | (apply Loads.prow; (· assumption); (first | (rotate_left; (· exact rfl); rotate_right; (· assumption)) | ((· assumption); (· exact rfl))); (· exact rfl); (· exact rfl); (· exact rfl)) | (apply Loads.prow1; (· assumption); (first | (rotate_left; (· exact rfl); rotate_right; (· assumption)) | ((· assumption); (· exact rfl))); (· exact rfl)) | (apply Loads.prowF; (· assumption); (first | (rotate_left; (· exact rfl); rotate_right; (· assumption)) | ((· assumption); (· exact rfl))); (· exact rfl); (· exact rfl)) | (apply Loads.rrow; (· assumption); (first | (rotate_left; (· exact rfl); rotate_right; (· assumption)) | ((· assumption); (· exact rfl))); (· exact rfl); (· exact rfl); (· exact rfl)) | (apply Loads.rrow1; (· assumption); (first | (rotate_left; (· exact rfl); rotate_right; (· assumption)) | ((· assumption); (· exact rfl))); (· exact rfl)) | (apply Loads.rrowF; (· assumption); (first | (rotate_left; (· exact rfl); rotate_right; (· assumption)) | ((· assumption); (· exact rfl))); (· exact rfl); (· exact rfl)) | (apply Loads.rowS; (· (repeat (first | exact List.Mem.head _ | apply List.Mem.tail))); (first | (rotate_left; (· exact rfl); rotate_right; (· assumption)) | ((· assumption); (· exact rfl))); (· exact rfl); (· exact rfl); (· (repeat (first | exact Seg.nil | (apply Seg.cons; (· exact rfl)))))))) (hd : Nat.blt d n = true := by exact rfl) : WL P ro n w0 ops Q (⟨some d, .load t x, ty, pos, after, none⟩ :: l) r ds m H := WL.load hx hl hd h
/-! ### new variables -/
theorem WL.alloc {t : TypeId} {z : Value} {cs : List Value} (hz : zeroB P t = some z) (hc : z.cells = cs.toArray) (hd : Nat.blt d n = true)
    (h : ∀ b, WL P ro n w0 ops Q l ((d, .pointer (some ⟨b, 0, none⟩)) :: r) ds m (.blk b (.cells cs.toArray t (0, 0)) :: H)) :
    WL P ro n w0 ops Q (⟨some d, .alloc t, ty, pos, after, none⟩ :: l) r ds m H :=
  .gen (fun v m' H' => ∃ b, v = .pointer (some ⟨b, 0, none⟩) ∧ m' = m ∧ H' = .blk b (.cells cs.toArray t (0, 0)) :: H) hd (fun _ h => by cases h)
    (fun tmps w ho hs => ⟨_, m, _, w.alloc (.cells cs.toArray t (0, 0)), by
      simp only [execOp, Instr.alloc, Sem.run_bind, run_zero hz, Result.andThen_ok, newVar, newRow, hc, run_newObj_alloc, Sem.run_pure], hs.alloc _, w.heap.size, rfl, rfl, rfl⟩)
    (by rintro _ _ _ ⟨b, rfl, rfl, rfl⟩; exact h b)
theorem w_alloc {t : TypeId} {z : Value} {cs : List Value} (h : ∀ b, WL P ro n w0 ops Q l ((d, .pointer (some ⟨b, 0, none⟩)) :: r) ds m (.blk b (.cells cs.toArray t (0, 0)) :: H)) (hz : zeroB P t = some z := by exact rfl) (hc : z.cells = cs.toArray := by exact rfl) (hd : Nat.blt d n = true := by exact rfl) : WL P ro n w0 ops Q (⟨some d, .alloc t, ty, pos, after, none⟩ :: l) r ds m H := WL.alloc hz hc hd h
theorem WL.box {t : TypeId} {x : Operand} {v : Value} {cs : List Value} (hx : r.ev x = some v) (hc : v.cells = cs.toArray) (hd : Nat.blt d n = true)
    (h : ∀ b, WL P ro n w0 ops Q l ((d, .pointer (some ⟨b, 0, none⟩)) :: r) ds m (.blk b (.cells cs.toArray t (0, 0)) :: H)) :
    WL P ro n w0 ops Q (⟨some d, .box t x, ty, pos, after, none⟩ :: l) r ds m H :=
  .gen (fun v m' H' => ∃ b, v = .pointer (some ⟨b, 0, none⟩) ∧ m' = m ∧ H' = .blk b (.cells cs.toArray t (0, 0)) :: H) hd (fun _ h => by cases h)
    (fun tmps w ho hs => ⟨_, m, _, w.alloc (.cells cs.toArray t (0, 0)), by
      simp only [execOp, Instr.box, Sem.run_bind, Result.andThen_ok, newVar, newRow, hc, ho.ev hx, run_newObj_alloc, Sem.run_pure], hs.alloc _, w.heap.size, rfl, rfl, rfl⟩)
    (by rintro _ _ _ ⟨b, rfl, rfl, rfl⟩; exact h b)

theorem w_box {t : TypeId} {x : Operand} {v : Value} {cs : List Value} (h : ∀ b, WL P ro n w0 ops Q l ((d, .pointer (some ⟨b, 0, none⟩)) :: r) ds m (.blk b (.cells cs.toArray t (0, 0)) :: H)) (hx : r.ev x = some v := by exact rfl) (hc : v.cells = cs.toArray := by exact rfl) (hd : Nat.blt d n = true := by exact rfl) : WL P ro n w0 ops Q (⟨some d, .box t x, ty, pos, after, none⟩ :: l) r ds m H := WL.box hx hc hd h
/-! ### stores into a block that is known whole -/
/-- the list with vs laid from place o on -/
def laid : List Value → Nat → List Value → List Value
  | L, _, [] => L
  | L, o, v :: vs => laid (L.set o v) (o + 1) vs
theorem laid_length : ∀ (vs : List Value) (L : List Value) (o : Nat), (laid L o vs).length = L.length
  | [], _, _ => rfl
  | v :: vs, L, o => by simp [laid, laid_length vs]
def okCell (v : Value) : Bool := v.oneCell'
theorem run_laid {b : Nat} {T : TypeId} {fz : Nat × Nat} {w0 : World} {m : Mem} : ∀ (vs : List Value) (i o : Nat) (L : List Value) (H : SHeap) (w : World), o + i + vs.length ≤ L.length → (fz.1 = fz.2 ∨ fz.2 ≤ o + i ∨ L.length ≤ fz.1) → vs.all okCell = true →
    Sat w0 m (.blk b (.cells L.toArray T fz) :: H) w → ∃ w', (storeCells ⟨b, o, none⟩ vs i).run P w = .ok () w' ∧ Sat w0 m (.blk b (.cells (laid L (o + i) vs).toArray T fz) :: H) w'
  | [], i, o, L, H, w, _, _, _, hs => ⟨w, rfl, hs⟩
  | v :: vs, i, o, L, H, w, hl, hf, ha, hs => by
    simp only [List.all_cons, Bool.and_eq_true] at ha
    have hb : w.heap[b]? = some (.cells L.toArray T fz) := hs.own _ List.mem_cons_self
    have hlen : o + i < L.length := by simp at hl; omega
    have hst : (store ⟨b, o + i, none⟩ v).run P w = .ok () (w.setCell ⟨b, o + i, none⟩ v) := by
      have hc : w.cell? ⟨b, o + i, none⟩ = some L[o + i] := by simp [World.cell?, hb, List.getElem?_eq_getElem hlen]
      have hfz : w.frozen? ⟨b, o + i, none⟩ = false := by
        simp only [World.frozen?, hb]
        rcases hf with h | h | h
        · simp; omega
        · simp; omega
        · simp; omega
      have ho : v.oneCell' = true := ha.1
      cases v <;> first | (simp [Value.oneCell'] at ho; done) | (simp [store, Sem.run, hc, hfz])
    have hs' : Sat w0 m (.blk b (.cells (L.set (o + i) v).toArray T fz) :: H) (w.setCell ⟨b, o + i, none⟩ v) := by
      refine hs.turn (j := .blk b (.cells (L.set (o + i) v).toArray T fz)) rfl rfl rfl (by simp) (fun k _ hk => Below.heap_setCell _ _ _ _ (by simpa [Item.foot] using hk)) ?_ (fun _ hx => .inl hx) (by simp [Item.foot])
      show (w.heap.modify b _)[b]? = _
      rw [Array.getElem?_modify, if_pos rfl, hb]
      simp
    obtain ⟨w', h1, h2⟩ := run_laid vs (i + 1) o (L.set (o + i) v) H _ (by simp at hl ⊢; omega) (by rcases hf with h | h | h; exact .inl h; exact .inr (.inl (by omega)); exact .inr (.inr (by simpa using h))) ha.2 hs'
    refine ⟨w', ?_, h2⟩
    simp only [storeCells, add_none, Sem.run_bind, hst, Result.andThen_ok]
    exact h1
theorem Sat.at_ {i : Item} {w : World} (h : Sat w0 m H w) (hi : i ∈ H) : ∃ H1, List.Perm H (i :: H1) := by
  obtain ⟨s, t, e⟩ := List.append_of_mem hi
  subst e
  exact ⟨s ++ t, List.perm_middle⟩
/-- a store of whole cells into a block known whole -/
theorem WL.store {t : TypeId} {x y : Operand} {b o k : Nat} {T : TypeId} {fz : Nat × Nat} {L vs L' : List Value} {v : Value} {H' : SHeap} (hx : r.ev x = some (.pointer (some ⟨b, o, none⟩))) (hy : r.ev y = some v)
    (hv : v.cells = vs.toArray) (hz : sizeB P t = some k) (hk : vs.length = k) (hr : Repl (.blk b (.cells L.toArray T fz)) (.blk b (.cells L'.toArray T fz)) H H') (hnf : NF (laid L o vs) L')
    (hl : Nat.ble (o + k) L.length = true) (hf : fz.1 = fz.2 ∨ fz.2 ≤ o) (ha : vs.all okCell = true) (h : WL P ro n w0 ops Q l r ds m H') :
    WL P ro n w0 ops Q (⟨none, .store t x y, ty, pos, after, none⟩ :: l) r ds m H :=
  .act (fun m' H'' => m' = m ∧ H'' = H') rfl (fun _ h => by cases h)
    (fun tmps w ho hs => by
      have hnf' := hnf.eq
      subst hnf'
      obtain ⟨H1, p1, p2⟩ := hr.perm
      obtain ⟨w', h1, h2⟩ := run_laid (P := P) vs 0 o L H1 w (by simp at hl; omega) (by rcases hf with h | h; exact .inl h; exact .inr (.inl (by simpa using h))) ha (hs.perm p1)
      refine ⟨m, H', w', ?_, h2.perm p2.symm, rfl, rfl⟩
      simp only [execOp, Instr.storeAt, Instr.sureAddr, storeVar, ho.ev hx, ho.ev hy, hv, Sem.run_bind, Sem.run_pure, Result.andThen_ok, run_size hz]
      simp only [List.size_toArray, hk, ne_eq, not_true_eq_false, if_false, h1, Result.andThen_ok])
    (by rintro _ _ ⟨rfl, rfl⟩; exact h)

theorem w_store {t : TypeId} {x y : Operand} {b o k : Nat} {T : TypeId} {fz : Nat × Nat} {L vs L' : List Value} {v : Value} {H' : SHeap} (h : WL P ro n w0 ops Q l r ds m H') (hx : r.ev x = some (.pointer (some ⟨b, o, none⟩)) := by exact rfl) (hy : r.ev y = some v := by exact rfl) (hv : v.cells = vs.toArray := by exact rfl) (hz : sizeB P t = some k := by exact rfl) (hk : vs.length = k := by exact rfl) (hr : Repl (.blk b (.cells L.toArray T fz)) (.blk b (.cells L'.toArray T fz)) H H' := by (repeat (first | exact Repl.here | apply Repl.there))) (hnf : NF (laid L o vs) L' := by (repeat (first | (apply NF.cons; (· exact rfl)) | exact NF.nil rfl))) (hl : Nat.ble (o + k) L.length = true := by exact rfl) (hf : fz.1 = fz.2 ∨ fz.2 ≤ o := by exact .inl rfl) (ha : vs.all okCell = true := by exact rfl) : WL P ro n w0 ops Q (⟨none, .store t x y, ty, pos, after, none⟩ :: l) r ds m H := WL.store hx hy hv hz hk hr hnf hl hf ha h
/-! ### structs -/
def fieldB (P : Program) (t : TypeId) (i : Nat) : Option (Nat × TypeId) := match P.underlying t with
  | some (.struct fs) => (fs[i]?).bind fun f => match lit f.offset with
    | some o => some (o, f.type)
    | none => none
  | _ => none
theorem field_of {t : TypeId} {i o : Nat} {u : TypeId} (h : fieldB P t i = some (o, u)) : ∃ fs f, P.underlying t = some (.struct fs) ∧ fs[i]? = some f ∧ f.offset = o ∧ f.type = u := by
  unfold fieldB at h
  split at h
  · rename_i fs hu
    cases hf : fs[i]? with
    | none => simp [hf] at h
    | some f => simp [hf, lit_eq] at h; exact ⟨fs, f, hu, hf, h.1, h.2⟩
  · cases h
theorem WL.fieldAddr {t u : TypeId} {x : Operand} {a : Addr} {i o k : Nat} (hx : r.ev x = some (.pointer (some a))) (hf : fieldB P t i = some (o, u)) (hz : sizeB P u = some (k + 1)) (hd : Nat.blt d n = true)
    (h : WL P ro n w0 ops Q l ((d, .pointer (some (a.add o))) :: r) ds m H) : WL P ro n w0 ops Q (⟨some d, .fieldAddr t x i, ty, pos, after, none⟩ :: l) r ds m H := by
  obtain ⟨fs, f, hu, hfi, ho', ht⟩ := field_of hf
  subst ho'; subst ht
  refine .val hd (fun _ h => by cases h) (fun tmps w ho _ => ?_) h
  simp only [execOp, Instr.fieldAt, Sem.run_bind, run_underlying hu, Result.andThen_ok, hfi, ho.ev hx, Instr.sureAddr, Sem.run_pure, fieldPlace, run_size hz]
  simp
theorem w_fieldAddr {t u : TypeId} {x : Operand} {a : Addr} {i o k : Nat} (h : WL P ro n w0 ops Q l ((d, .pointer (some (a.add o))) :: r) ds m H) (hx : r.ev x = some (.pointer (some a)) := by exact rfl) (hf : fieldB P t i = some (o, u) := by exact rfl) (hz : sizeB P u = some (k + 1) := by exact rfl) (hd : Nat.blt d n = true := by exact rfl) : WL P ro n w0 ops Q (⟨some d, .fieldAddr t x i, ty, pos, after, none⟩ :: l) r ds m H := WL.fieldAddr hx hf hz hd h
/-- the same at an address that is written out -/
theorem WL.fieldAddr0 {t u : TypeId} {x : Operand} {b p i o k : Nat} (hx : r.ev x = some (.pointer (some ⟨b, p, none⟩))) (hf : fieldB P t i = some (o, u)) (hz : sizeB P u = some (k + 1)) (hd : Nat.blt d n = true) {q : Nat} (hq : lit (p + o) = some q)
    (h : WL P ro n w0 ops Q l ((d, .pointer (some ⟨b, q, none⟩)) :: r) ds m H) : WL P ro n w0 ops Q (⟨some d, .fieldAddr t x i, ty, pos, after, none⟩ :: l) r ds m H :=
  .fieldAddr hx hf hz hd (by rw [lit_eq] at hq; rw [add_none, Option.some.inj hq]; exact h)
theorem w_fieldAddr0 {t u : TypeId} {x : Operand} {b p i o k : Nat} {q : Nat} (h : WL P ro n w0 ops Q l ((d, .pointer (some ⟨b, q, none⟩)) :: r) ds m H) (hx : r.ev x = some (.pointer (some ⟨b, p, none⟩)) := by exact rfl) (hf : fieldB P t i = some (o, u) := by exact rfl) (hz : sizeB P u = some (k + 1) := by exact rfl) (hd : Nat.blt d n = true := by exact rfl) (hq : lit (p + o) = some q := by exact rfl) : WL P ro n w0 ops Q (⟨some d, .fieldAddr t x i, ty, pos, after, none⟩ :: l) r ds m H := WL.fieldAddr0 hx hf hz hd hq h
theorem seg_extract {vs ws : List Value} {o k : Nat} (hv : Seg vs o k ws) : vs.toArray.extract o (o + k) = ws.toArray := by
  apply Array.ext'
  simp only [List.extract_toArray, List.extract_eq_take_drop]
  apply List.ext_getElem?
  intro j
  have h1 := hv.at_
  by_cases hj : j < k
  · have := h1.2 j ws[j] (List.getElem?_eq_getElem (by omega))
    simp [hj, this, List.getElem?_eq_getElem (show j < ws.length by omega)]
  · simp [List.getElem?_take, hj, List.getElem?_eq_none (show ws.length ≤ j by omega)]
theorem WL.field1 {t u : TypeId} {x : Operand} {vs : List Value} {i o : Nat} {v : Value} (hx : r.ev x = some (.agg vs.toArray)) (hf : fieldB P t i = some (o, u)) (hu : aggB P u = some false) (hv : vs[o]? = some v) (hd : Nat.blt d n = true)
    (h : WL P ro n w0 ops Q l ((d, v) :: r) ds m H) : WL P ro n w0 ops Q (⟨some d, .field t x i, ty, pos, after, none⟩ :: l) r ds m H := by
  obtain ⟨fs, f, hu', hfi, ho', ht⟩ := field_of hf
  subst ho'; subst ht
  refine .val hd (fun _ h => by cases h) (fun tmps w ho _ => ?_) h
  simp only [execOp, Instr.field, Sem.run_bind, run_underlying hu', Result.andThen_ok, hfi, ho.ev hx, asAgg, Sem.run_pure, part, run_agg hu, Bool.false_eq_true, if_false]
  simp [hv]
theorem w_field1 {t u : TypeId} {x : Operand} {vs : List Value} {i o : Nat} {v : Value} (h : WL P ro n w0 ops Q l ((d, v) :: r) ds m H) (hx : r.ev x = some (.agg vs.toArray) := by exact rfl) (hf : fieldB P t i = some (o, u) := by exact rfl) (hu : aggB P u = some false := by exact rfl) (hv : vs[o]? = some v := by exact rfl) (hd : Nat.blt d n = true := by exact rfl) : WL P ro n w0 ops Q (⟨some d, .field t x i, ty, pos, after, none⟩ :: l) r ds m H := WL.field1 hx hf hu hv hd h
theorem WL.fieldN {t u : TypeId} {x : Operand} {vs ws : List Value} {i o k : Nat} (hx : r.ev x = some (.agg vs.toArray)) (hf : fieldB P t i = some (o, u)) (hu : aggB P u = some true) (hz : sizeB P u = some k) (hv : Seg vs o k ws) (hd : Nat.blt d n = true)
    (h : WL P ro n w0 ops Q l ((d, .agg ws.toArray) :: r) ds m H) : WL P ro n w0 ops Q (⟨some d, .field t x i, ty, pos, after, none⟩ :: l) r ds m H := by
  obtain ⟨fs, f, hu', hfi, ho', ht⟩ := field_of hf
  subst ho'; subst ht
  refine .val hd (fun _ h => by cases h) (fun tmps w ho _ => ?_) h
  simp only [execOp, Instr.field, Sem.run_bind, run_underlying hu', Result.andThen_ok, hfi, ho.ev hx, asAgg, Sem.run_pure, part, run_agg hu, if_true, run_size hz, seg_extract hv]

/-! ### building -/
/-- the parts, laid one behind the other over what stood there -/
def overlay : List Value → List (Nat × Value) → List Value
  | L, [] => L
  | L, (o, v) :: rest => overlay (laid L o v.cells.toList) rest
theorem foldl_laid (o : Nat) : ∀ (vs : List Value) (k : Nat) (cs : Array Value),
    ((vs.zipIdx k).foldl (fun cs (p : Value × Nat) => cs.setIfInBounds (o + p.2) p.1) cs).toList = laid cs.toList (o + k) vs
  | [], k, cs => rfl
  | v :: vs, k, cs => by
    simp only [List.zipIdx_cons, List.foldl_cons, laid]
    rw [foldl_laid o vs (k + 1)]
    simp [Nat.add_assoc]
theorem fill_ok (place : Nat → Option (Nat × Nat)) : ∀ (parts : List (Nat × Value)) (placed : List (Nat × Value)) (cs : Array Value),
    parts.map (fun p => ((place p.1).map (·.1)).getD 0) = placed.map (·.1) → parts.map (·.2) = placed.map (·.2) →
    (parts.all fun p => match place p.1 with | some (o, s) => Nat.beq p.2.cells.size s && Nat.ble (o + s) cs.size | none => false) = true →
    Instr.fill place cs parts = some (overlay cs.toList placed).toArray
  | [], placed, cs, h1, h2, _ => by
    cases placed with
    | nil => simp [Instr.fill, overlay]
    | cons _ _ => simp at h1
  | (i, v) :: parts, placed, cs, h1, h2, h3 => by
    cases placed with
    | nil => simp at h1
    | cons q placed =>
      obtain ⟨o, u⟩ := q
      simp only [List.map_cons, List.cons.injEq] at h1 h2
      simp only [List.all_cons, Bool.and_eq_true] at h3
      obtain ⟨h2a, h2b⟩ := h2
      subst h2a
      cases hp : place i with
      | none => simp [hp] at h3
      | some os =>
        obtain ⟨o', s⟩ := os
        simp [hp] at h1 h3
        obtain ⟨h1a, h1b⟩ := h1
        subst h1a
        obtain ⟨⟨h3a, h3b⟩, h3c⟩ := h3
        have hf := foldl_laid o' v.cells.toList 0 cs
        simp only [Instr.fill, hp]
        rw [if_neg (by simp [h3a]; omega)]
        have e : v.cells.zipIdx.foldl (fun cs (c, j) => cs.setIfInBounds (o' + j) c) cs = (v.cells.toList.zipIdx 0).foldl (fun cs (p : Value × Nat) => cs.setIfInBounds (o' + p.2) p.1) cs := by
          rw [← Array.foldl_toList]; simp
        rw [e]
        have hsz : ((v.cells.toList.zipIdx 0).foldl (fun cs (p : Value × Nat) => cs.setIfInBounds (o' + p.2) p.1) cs).size = cs.size := by
          rw [← Array.length_toList, hf, laid_length, Array.length_toList]
        have := fill_ok place parts placed ((v.cells.toList.zipIdx 0).foldl (fun cs (p : Value × Nat) => cs.setIfInBounds (o' + p.2) p.1) cs) h1b h2b (by
          rw [hsz]
          simpa using h3c)
        rw [this, hf]
        rfl
end
end Go.Eng

/-
  A walk's engine, sixth part: building values, rows that grow, a function's results. No condition.
-/
set_option linter.all false
namespace Go.Eng
open Go Go.RowKit

/-! ### building a struct, a row -/
def placesB (P : Program) (t : TypeId) : Option (List (Nat × Nat)) := match P.underlying t with
  | some (.struct fs) => fs.toList.mapM fun f => (P.info? f.type).map fun i => (f.offset, i.size)
  | _ => none
/-- the parts, each at its place -/
def placedB (ps : List (Nat × Nat)) : List (Nat × Value) → List (Nat × Value)
  | [] => []
  | (i, v) :: rest => (((ps[i]?).map (·.1)).getD 0, v) :: placedB ps rest
theorem placedB_eq (ps : List (Nat × Nat)) : ∀ parts : List (Nat × Value), placedB ps parts = parts.map fun p => (((ps[p.1]?).map (·.1)).getD 0, p.2)
  | [] => rfl
  | (i, v) :: rest => by simp [placedB, placedB_eq ps rest]
def placedA (sz : Nat) : List (Nat × Value) → List (Nat × Value)
  | [] => []
  | (i, v) :: rest => (i * sz, v) :: placedA sz rest
theorem placedA_eq (sz : Nat) : ∀ parts : List (Nat × Value), placedA sz parts = parts.map fun p => (p.1 * sz, p.2)
  | [] => rfl
  | (i, v) :: rest => by simp [placedA, placedA_eq sz rest]
def fitsB (ps : List (Nat × Nat)) (k : Nat) (parts : List (Nat × Value)) : Bool :=
  parts.all fun p => match ps[p.1]? with | some (o, s) => Nat.beq p.2.cells.size s && Nat.ble (o + s) k | none => false
def Env.evp (r : Env) : List (Nat × Operand) → Option (List (Nat × Value))
  | [] => some []
  | (i, o) :: l => match r.ev o, r.evp l with
    | some v, some vs => some ((i, v) :: vs)
    | _, _ => none
theorem Env.ok.evp {n : Nat} {r : Env} {tmps : Array Value} (h : r.ok n tmps) (ds : List Deferred) : ∀ {l : List (Nat × Operand)} {vs : List (Nat × Value)}, r.evp l = some vs → l.map (fun p => (p.1, (Act.mk tmps ds).eval p.2)) = vs
  | [], vs, he => by simpa [Env.evp] using he
  | (i, o) :: l, vs, he => by
    simp only [Env.evp] at he
    cases h1 : r.ev o with
    | none => simp [h1] at he
    | some v =>
      cases h2 : Env.evp r l with
      | none => simp [h1, h2] at he
      | some ws =>
        simp [h1, h2] at he
        subst he
        simp [h.ev h1, h.evp ds h2]

section
variable {P : Program} {ro : Option Nat} {n : Nat} {w0 : World} {Q : Exit → Act → World → Prop} {r : Env} {ds : List Nat} {m : Mem} {H : SHeap}
  {ops : Array Oper} {l : List Oper} {d : Nat} {ty : TypeId} {pos : String} {after : Array Edge}

theorem run_places_of {t : TypeId} {ps : List (Nat × Nat)} (hps : placesB P t = some ps) : ∃ fs, P.underlying t = some (.struct fs) ∧ ∀ w, (fs.mapM fun f => (do pure (f.offset, ← sizeOf f.type) : Sem (Nat × Nat))).run P w = .ok ps.toArray w := by
  unfold placesB at hps
  cases hu : P.underlying t with
  | none => simp [hu] at hps
  | some q =>
    cases q with
    | struct fs =>
      simp only [hu] at hps
      refine ⟨fs, rfl, fun w => ?_⟩
      have hpl := run_places (P := P) w fs.toList ps hps
      rw [Array.mapM_eq_mapM_toList]
      have : (fs.toList.mapM fun f => (do pure (f.offset, ← sizeOf f.type) : Sem (Nat × Nat))) = fs.toList.mapM fun f => Prod.mk f.offset <$> sizeOf f.type := rfl
      rw [this]
      simp [hpl]
    | _ => simp [hu] at hps
theorem WL.build {t : TypeId} {parts : List (Nat × Operand)} {pv : List (Nat × Value)} {ps : List (Nat × Nat)} {z : Value} {k : Nat} {cs : List Value}
    (hp : r.evp parts = some pv) (hps : placesB P t = some ps) (hz : zeroB P t = some z) (hk : z.cells.size = k) (hfit : fitsB ps k pv = true) (hc : NF (overlay z.cells.toList (placedB ps pv)) cs)
    (hd : Nat.blt d n = true) (h : WL P ro n w0 ops Q l ((d, .agg cs.toArray) :: r) ds m H) : WL P ro n w0 ops Q (⟨some d, .build t parts.toArray, ty, pos, after, none⟩ :: l) r ds m H := by
  refine .val hd (fun _ h => by cases h) (fun tmps w ho _ => ?_) h
  have e1 := ho.evp (marks ds) hp
  obtain ⟨fs, hu, hpl⟩ := run_places_of hps
  have hc' := hc.eq
  try rw [placedA_eq] at hc'
  subst hc'
  have g1 := fill_ok (fun i => ps[i]?) pv (placedB ps pv) z.cells (by simp [placedB_eq]) (by simp [placedB_eq]) (by
    unfold fitsB at hfit
    rw [← hk] at hfit
    exact hfit)
  simp only [execOp, Instr.build, Sem.run_bind, run_zero hz, Result.andThen_ok, run_underlying hu, List.map_toArray, e1, hpl]
  have g1' : Instr.fill (fun x => ps.toArray[x]?) z.cells pv = some (overlay z.cells.toList (placedB ps pv)).toArray := by simpa using g1
  simp only [g1', Sem.run_pure, Result.andThen_ok]
theorem w_build {t : TypeId} {parts : List (Nat × Operand)} {pv : List (Nat × Value)} {ps : List (Nat × Nat)} {z : Value} {k : Nat} {cs : List Value} (h : WL P ro n w0 ops Q l ((d, .agg cs.toArray) :: r) ds m H) (hp : r.evp parts = some pv := by exact rfl) (hps : placesB P t = some ps := by exact rfl) (hz : zeroB P t = some z := by exact rfl) (hk : z.cells.size = k := by exact rfl) (hfit : fitsB ps k pv = true := by exact rfl) (hc : NF (overlay z.cells.toList (placedB ps pv)) cs := by (repeat (first | (apply NF.cons; (· exact rfl)) | exact NF.nil rfl))) (hd : Nat.blt d n = true := by exact rfl) : WL P ro n w0 ops Q (⟨some d, .build t parts.toArray, ty, pos, after, none⟩ :: l) r ds m H := WL.build hp hps hz hk hfit hc hd h
def arrB (P : Program) (t : TypeId) : Option TypeId := match P.underlying t with
  | some (.array _ e) => some e
  | _ => none
theorem WL.buildArr {t e : TypeId} {parts : List (Nat × Operand)} {pv : List (Nat × Value)} {z : Value} {sz k : Nat} {cs : List Value}
    (hp : r.evp parts = some pv) (hu : arrB P t = some e) (hsz : sizeB P e = some sz) (hz : zeroB P t = some z) (hk : z.cells.size = k) (hfit : (pv.all fun p => Nat.beq p.2.cells.size sz && Nat.ble (p.1 * sz + sz) k) = true)
    (hc : NF (overlay z.cells.toList (placedA sz pv)) cs)
    (hd : Nat.blt d n = true) (h : WL P ro n w0 ops Q l ((d, .agg cs.toArray) :: r) ds m H) : WL P ro n w0 ops Q (⟨some d, .build t parts.toArray, ty, pos, after, none⟩ :: l) r ds m H := by
  refine .val hd (fun _ h => by cases h) (fun tmps w ho _ => ?_) h
  have e1 := ho.evp (marks ds) hp
  have hc' := hc.eq
  try rw [placedA_eq] at hc'
  subst hc'
  have g1 := fill_ok (fun i => some (i * sz, sz)) pv (pv.map fun p => (p.1 * sz, p.2)) z.cells (by simp) (by simp) (by
    rw [hk]; exact hfit)
  unfold arrB at hu
  cases hq : P.underlying t with
  | none => simp [hq] at hu
  | some q =>
    cases q with
    | array ln e' =>
      simp [hq] at hu
      subst hu
      simp only [execOp, Instr.build, Sem.run_bind, run_zero hz, Result.andThen_ok, run_underlying hq, List.map_toArray, e1, run_size hsz]
      rw [g1]
      simp only [Sem.run_pure, Result.andThen_ok]
    | _ => simp [hq] at hu
theorem w_buildArr {t e : TypeId} {parts : List (Nat × Operand)} {pv : List (Nat × Value)} {z : Value} {sz k : Nat} {cs : List Value} (h : WL P ro n w0 ops Q l ((d, .agg cs.toArray) :: r) ds m H) (hp : r.evp parts = some pv := by exact rfl) (hu : arrB P t = some e := by exact rfl) (hsz : sizeB P e = some sz := by exact rfl) (hz : zeroB P t = some z := by exact rfl) (hk : z.cells.size = k := by exact rfl) (hfit : (pv.all fun p => Nat.beq p.2.cells.size sz && Nat.ble (p.1 * sz + sz) k) = true := by exact rfl) (hc : NF (overlay z.cells.toList (placedA sz pv)) cs := by (repeat (first | (apply NF.cons; (· exact rfl)) | exact NF.nil rfl))) (hd : Nat.blt d n = true := by exact rfl) : WL P ro n w0 ops Q (⟨some d, .build t parts.toArray, ty, pos, after, none⟩ :: l) r ds m H := WL.buildArr hp hu hsz hz hk hfit hc hd h
/-- a new row of elements that are written out -/
theorem WL.buildSlice {t e : TypeId} {k sz : Nat} {parts : List (Nat × Operand)} {pv : List (Nat × Value)} {z : Value} {cs : List Value}
    (hp : r.evp parts = some pv) (hu : P.underlying t = some (.slice e)) (hz : zeroB P e = some z) (hsz : sizeB P e = some sz) (hzs : z.cells.size = sz) (hpos : Nat.blt 0 (k * sz) = true) (hsmall : Nat.ble (k * sz) 16777216 = true)
    (hfit : (pv.all fun p => Nat.beq p.2.cells.size sz && Nat.ble (p.1 * sz + sz) (k * sz)) = true)
    (hc : NF (overlay (List.replicate k z.cells.toList).flatten (placedA sz pv)) cs)
    (hd : Nat.blt d n = true) (h : ∀ b, WL P ro n w0 ops Q l ((d, .slice (some ⟨b, 0, none⟩) k k) :: r) ds m (.blk b (.cells cs.toArray e (0, 0)) :: H)) :
    WL P ro n w0 ops Q (⟨some d, .buildSlice t k parts.toArray, ty, pos, after, none⟩ :: l) r ds m H := by
  have hpos' : 0 < k * sz := by simpa [Nat.blt_eq] using hpos
  have hsz0 : 0 < sz := Nat.pos_of_mul_pos_left hpos'
  have hsm : ¬ (k * sz > 2 ^ 24) := by have : k * sz ≤ 16777216 := by simpa using hsmall
                                       omega
  refine .gen (fun v m' H' => ∃ b, v = .slice (some ⟨b, 0, none⟩) k k ∧ m' = m ∧ H' = .blk b (.cells cs.toArray e (0, 0)) :: H) hd (fun _ h => by cases h) (fun tmps w ho hs => ?_)
    (by rintro _ _ _ ⟨b, rfl, rfl, rfl⟩; exact h b)
  have e1 := ho.evp (marks ds) hp
  let base : Array Value := (Array.range (k * sz)).map fun j => z.cells[j % z.cells.size]!
  have hbs : base.size = k * sz := by simp [base]
  have hbl : base.toList = (List.replicate k z.cells.toList).flatten := by
    apply List.ext_getElem?
    intro j
    have hlen : (List.replicate k z.cells.toList).flatten.length = k * sz := by
      rw [List.length_flatten]; simp [hzs]
    by_cases hj : j < k * sz
    · have h1 : j % sz < z.cells.size := by rw [hzs]; exact Nat.mod_lt _ hsz0
      have hq : j / sz < k := Nat.div_lt_of_lt_mul (by rw [Nat.mul_comm]; exact hj)
      have h2 := flatten_at (es := List.replicate k z.cells.toList) (sz := sz) (i := j / sz) (e := z.cells.toList) (fun x hx => by rw [(List.mem_replicate.1 hx).2]; simp [hzs]) (by simp [List.getElem?_replicate, hq]) (j % sz) z.cells[j % sz] (by simp [h1])
      rw [show j / sz * sz + j % sz = j by rw [Nat.mul_comm]; exact Nat.div_add_mod j sz] at h2
      rw [h2]
      simp [base, hj, hzs, getElem!_pos, hzs ▸ h1]
    · rw [List.getElem?_eq_none (by simp [hbs]; omega), List.getElem?_eq_none (by omega)]
  have g1 := fill_ok (fun i => some (i * sz, sz)) pv (pv.map fun p => (p.1 * sz, p.2)) base (by simp) (by simp) (by
    rw [hbs]; simpa using hfit)
  have hc' := hc.eq
  try rw [placedA_eq] at hc'
  subst hc'
  rw [hbl] at g1
  refine ⟨_, m, _, w.alloc (.cells (overlay (List.replicate k z.cells.toList).flatten (pv.map fun p => (p.1 * sz, p.2))).toArray e (0, 0)), ?_, hs.alloc _, w.heap.size, rfl, rfl, rfl⟩
  simp only [execOp, Instr.buildSlice, Sem.run_bind, run_underlying hu, Result.andThen_ok, run_size hsz, hsm, if_false, Sem.run_pure, if_neg (Nat.ne_of_gt hpos'), run_zero hz, List.map_toArray, e1]
  rw [show Instr.fill (fun i => some (i * sz, sz)) (Array.map (fun x => z.cells[x % z.cells.size]!) (Array.range (k * sz))) pv = _ from g1]
  simp only [newRow, Sem.run_bind, run_newObj_alloc, Result.andThen_ok, Sem.run_pure]

theorem w_buildSlice {t e : TypeId} {k sz : Nat} {parts : List (Nat × Operand)} {pv : List (Nat × Value)} {z : Value} {cs : List Value} (h : ∀ b, WL P ro n w0 ops Q l ((d, .slice (some ⟨b, 0, none⟩) k k) :: r) ds m (.blk b (.cells cs.toArray e (0, 0)) :: H)) (hp : r.evp parts = some pv := by exact rfl) (hu : P.underlying t = some (.slice e) := by exact rfl) (hz : zeroB P e = some z := by exact rfl) (hsz : sizeB P e = some sz := by exact rfl) (hzs : z.cells.size = sz := by exact rfl) (hpos : Nat.blt 0 (k * sz) = true := by exact rfl) (hsmall : Nat.ble (k * sz) 16777216 = true := by exact rfl) (hfit : (pv.all fun p => Nat.beq p.2.cells.size sz && Nat.ble (p.1 * sz + sz) (k * sz)) = true := by exact rfl) (hc : NF (overlay (List.replicate k z.cells.toList).flatten (placedA sz pv)) cs := by (repeat (first | (apply NF.cons; (· exact rfl)) | exact NF.nil rfl))) (hd : Nat.blt d n = true := by exact rfl) : WL P ro n w0 ops Q (⟨some d, .buildSlice t k parts.toArray, ty, pos, after, none⟩ :: l) r ds m H := WL.buildSlice hp hu hz hsz hzs hpos hsmall hfit hc hd h
/-! ### rows -/
theorem WL.lenSl {t e : TypeId} {x : Operand} {a : Option Addr} {k cap : Nat} (hx : r.ev x = some (.slice a k cap)) (hu : P.underlying t = some (.slice e)) (hd : Nat.blt d n = true)
    (h : WL P ro n w0 ops Q l ((d, .int .i64 (k : Int)) :: r) ds m H) : WL P ro n w0 ops Q (⟨some d, .call ⟨.builtin .len, #[x], #[t]⟩, ty, pos, after, none⟩ :: l) r ds m H :=
  .val hd (fun _ h => by cases h) (fun tmps w ho _ => by
    simp only [execOp, resolve, invoke, builtin, Builtin.len_, Sem.run_bind, Sem.run_pure, Result.andThen_ok, List.map_toArray, List.map_cons, List.map_nil, ho.ev hx]
    show (Sem.run P ((underlying t).bind _) w).andThen _ = _
    rw [Sem.run_bind', run_underlying hu, Result.andThen_ok]
    rfl) h
theorem w_lenSl {t e : TypeId} {x : Operand} {a : Option Addr} {k cap : Nat} (h : WL P ro n w0 ops Q l ((d, .int .i64 (k : Int)) :: r) ds m H) (hx : r.ev x = some (.slice a k cap) := by exact rfl) (hu : P.underlying t = some (.slice e) := by exact rfl) (hd : Nat.blt d n = true := by exact rfl) : WL P ro n w0 ops Q (⟨some d, .call ⟨.builtin .len, #[x], #[t]⟩, ty, pos, after, none⟩ :: l) r ds m H := WL.lenSl hx hu hd h
theorem WL.capSl {t e : TypeId} {x : Operand} {a : Option Addr} {k cap : Nat} (hx : r.ev x = some (.slice a k cap)) (hu : P.underlying t = some (.slice e)) (hd : Nat.blt d n = true)
    (h : WL P ro n w0 ops Q l ((d, .int .i64 (cap : Int)) :: r) ds m H) : WL P ro n w0 ops Q (⟨some d, .call ⟨.builtin .cap, #[x], #[t]⟩, ty, pos, after, none⟩ :: l) r ds m H :=
  .val hd (fun _ h => by cases h) (fun tmps w ho _ => by
    simp only [execOp, resolve, invoke, builtin, Builtin.cap_, Sem.run_bind, Sem.run_pure, Result.andThen_ok, List.map_toArray, List.map_cons, List.map_nil, ho.ev hx]
    show (Sem.run P ((underlying t).bind _) w).andThen _ = _
    rw [Sem.run_bind', run_underlying hu, Result.andThen_ok]
    rfl) h
theorem WL.indexAddr {t e : TypeId} {x y : Operand} {a : Addr} {k cap sz i : Nat} {ki : IntKind} {z : Int} (hx : r.ev x = some (.slice (some a) k cap)) (hy : r.ev y = some (.int ki z)) (hz : z = (i : Int)) (hu : P.underlying t = some (.slice e)) (hsz : sizeB P e = some sz)
    (hi : i < k) (hd : Nat.blt d n = true) (h : WL P ro n w0 ops Q l ((d, .pointer (some (a.add (i * sz)))) :: r) ds m H) :
    WL P ro n w0 ops Q (⟨some d, .indexAddr t x y, ty, pos, after, none⟩ :: l) r ds m H :=
  .val hd (fun _ h => by cases h) (fun tmps w ho _ => by
    subst hz
    have h1 : (0 : Int) ≤ (i : Int) ∧ (i : Int) < (k : Int) := by omega
    simp only [execOp, Instr.indexAt, asIntOf, ho.ev hx, ho.ev hy, Sem.run_bind, Sem.run_pure, Result.andThen_ok, run_underlying hu]
    simp [h1, run_size hsz]) h
theorem w_indexAddr {t e : TypeId} {x y : Operand} {a : Addr} {k cap sz i : Nat} {ki : IntKind} {z : Int} (h : WL P ro n w0 ops Q l ((d, .pointer (some (a.add (i * sz)))) :: r) ds m H) (hx : r.ev x = some (.slice (some a) k cap) := by exact rfl) (hy : r.ev y = some (.int ki z) := by exact rfl) (hz : z = (i : Int) := by (first | with_reducible exact natz _ | with_reducible exact natz0 | with_reducible exact natz1 | with_reducible exact natz2 | with_reducible exact natz3 | with_reducible exact natz4 | with_reducible exact natz8 | (apply natz_add; (· first | with_reducible exact natz _ | with_reducible exact natz0 | with_reducible exact natz1 | with_reducible exact natz2 | with_reducible exact natz3 | with_reducible exact natz4 | with_reducible exact natz8); (· first | with_reducible exact natz _ | with_reducible exact natz0 | with_reducible exact natz1 | with_reducible exact natz2 | with_reducible exact natz3 | with_reducible exact natz4 | with_reducible exact natz8)) | (apply natz_sub; (· first | with_reducible exact natz _ | with_reducible exact natz0 | with_reducible exact natz1 | with_reducible exact natz2 | with_reducible exact natz3 | with_reducible exact natz4 | with_reducible exact natz8); (· first | with_reducible exact natz _ | with_reducible exact natz0 | with_reducible exact natz1 | with_reducible exact natz2 | with_reducible exact natz3 | with_reducible exact natz4 | with_reducible exact natz8); (· omega)) | exact (Int.toNat_of_nonneg (by omega)).symm)) (hu : P.underlying t = some (.slice e) := by exact rfl) (hsz : sizeB P e = some sz := by exact rfl) (hi : i < k := by omega) (hd : Nat.blt d n = true := by exact rfl) : WL P ro n w0 ops Q (⟨some d, .indexAddr t x y, ty, pos, after, none⟩ :: l) r ds m H := WL.indexAddr hx hy hz hu hsz hi hd h
theorem row_some {w : World} {a : Option Addr} {cap : Nat} {T : TypeId} {sz : Nat} {es : List (List Value)} (hs : Sat w0 m H w) (hm : Item.row a cap T sz es ∈ H) (hne : 0 < es.length) : ∃ a0, a = some a0 := by
  cases a with
  | some a0 => exact ⟨a0, rfl⟩
  | none =>
    have := hs.own _ hm
    have h1 : es = [] := this.1
    subst h1; simp at hne
/-- an own row that is not empty has an address -/
theorem WL.rowSome {a : Option Addr} {cap : Nat} {T : TypeId} {sz : Nat} {es : List (List Value)} (hm : Item.row a cap T sz es ∈ H) (hne : 0 < es.length) (h : ∀ a0, a = some a0 → WL P ro n w0 ops Q l r ds m H) : WL P ro n w0 ops Q l r ds m H := by
  intro tmps w ho hs
  obtain ⟨a0, e⟩ := row_some hs hm hne
  exact h a0 e tmps w ho hs
theorem WC.rowSome {c : Code} {a : Option Addr} {cap : Nat} {T : TypeId} {sz : Nat} {es : List (List Value)} (hm : Item.row a cap T sz es ∈ H) (hne : 0 < es.length) (h : ∀ a0, a = some a0 → WC P ro n w0 c Q r ds m H) : WC P ro n w0 c Q r ds m H := by
  intro tmps w ho hs
  obtain ⟨a0, e⟩ := row_some hs hm hne
  exact h a0 e tmps w ho hs

/-! ### append -/
theorem flatten_length : ∀ {es : List (List Value)} {sz : Nat}, (∀ e ∈ es, e.length = sz) → es.flatten.length = es.length * sz
  | [], sz, _ => by simp
  | e :: es, sz, h => by
    rw [List.flatten_cons, List.length_append, h e List.mem_cons_self, flatten_length (fun q hq => h q (List.mem_cons_of_mem _ hq)), List.length_cons, Nat.succ_mul]
    omega
/-- what is appended, in whatever world of such a state -/
def Source (P : Program) (w0 : World) (m : Mem) (H : SHeap) (sz : Nat) (tx : TypeId) (x : Value) (k : Nat) (news : List Value) : Prop := ∀ w, Sat w0 m H w → Src P sz tx x k news w
theorem Source.str {tx : TypeId} (hk : P.underlying tx = some .string) (s : List UInt8) : Source P w0 m H 1 tx (str s) s.length (s.map fun b => Value.int .u8 (b.toNat : Int)) := fun w _ => by
  have := Src.ofString (P := P) w hk ⟨s.toArray⟩
  simpa [byteCells, ByteArray.size] using this
theorem Source.nil {sz : Nat} {tx e' : TypeId} (hk : P.underlying tx = some (.slice e')) (c : Nat) : Source P w0 m H sz tx (.slice none 0 c) 0 [] := fun w _ => Src.ofNil w hk c
theorem Source.cells {sz k c : Nat} {tx e' : TypeId} {a : Addr} {news : List Value} (hk : P.underlying tx = some (.slice e')) (hc : Cells w0 m H a news) (hl : news.length = k * sz) (h1 : news.all okCell = true) : Source P w0 m H sz tx (.slice (some a) k c) k news :=
  fun w hs => Src.ofSlice w hk a k c news hl (fun j u hu => hc w hs j u hu) (fun u hu => List.all_eq_true.1 h1 u hu)
theorem Source.prow {sz : Nat} {tx e' : TypeId} {T : TypeId} {v : Value} {es : List (List Value)} (hk : P.underlying tx = some (.slice e')) (hp : PRow m T sz v es) (h1 : ∀ e ∈ es, e.all okCell = true) : Source P w0 m H sz tx v es.length es.flatten := by
  have hlen : (∀ e ∈ es, e.length = sz) → es.flatten.length = es.length * sz := fun h => flatten_length h
  match v, hp with
  | .slice none len cap, ⟨h2, h3⟩ => subst h2; subst h3; exact .nil hk cap
  | .slice (some a) len cap, ⟨hsp, h2, h3, arr, fz, h4, h5⟩ =>
    subst h2
    refine fun w hs => Src.ofSlice w hk a _ cap _ (hlen h3) (fun j u hu => ?_) (fun u hu => ?_)
    · rw [add_eq hsp]
      simp [World.cell?, hs.pers _ _ h4, h5 j u hu]
    · obtain ⟨e, he, hu'⟩ := List.mem_flatten.1 hu
      exact List.all_eq_true.1 (h1 e he) u hu'
theorem take_laid : ∀ (vs : List Value) (L : List Value) (o : Nat), o + vs.length ≤ L.length → (laid L o vs).take (o + vs.length) = L.take o ++ vs
  | [], L, o, _ => by simp [laid]
  | v :: vs, L, o, h => by
    simp only [laid, List.length_cons] at h ⊢
    rw [show o + (vs.length + 1) = (o + 1) + vs.length by omega, take_laid vs (L.set o v) (o + 1) (by simp; omega)]
    rw [List.take_succ_eq_append_getElem (by simp; omega)]
    simp [List.take_set_of_le]
theorem run_append_row {t tx e : TypeId} {sz by' : Nat} {z : Value} {a : Option Addr} {cap : Nat} {es es' : List (List Value)} {x : Value} {w : World} (hu : P.underlying t = some (.slice e)) (hz : zeroB P e = some z) (hsz : sizeB P e = some sz) (hby : bytesB P e = some by')
    (hzs : z.cells.size = sz) (hs : Sat w0 m (.row a cap e sz es :: H) w) (hx : Src P sz tx x es'.length es'.flatten w) (hes : ∀ q ∈ es', q.length = sz) (h63 : es.length + es'.length ≤ 9223372036854775807) (hb : (es.length + es'.length) * by' ≤ 140737488355328) :
    ∃ a' cap' w', (Builtin.append_ #[t, tx] ty #[.slice a es.length cap, x]).run P w = .ok (.slice a' (es ++ es').length cap') w' ∧ Sat w0 m (.row a' cap' e sz (es ++ es') :: H) w' := by
  obtain ⟨i, hi, hib, _⟩ := run_info hby w
  have his : i.size = sz := by
    unfold sizeB at hsz; rw [hi] at hsz; simpa [lit_eq] using hsz
  have hiz : i.zero = some z := by
    unfold zeroB at hz; rw [hi] at hz; simpa using hz
  have hold : Item.holds w (.row a cap e sz es) := hs.own _ List.mem_cons_self
  by_cases hroom : es.length + es'.length ≤ cap
  · -- there is room
    cases a with
    | none =>
      have h1 : es = [] ∧ cap = 0 := hold
      obtain ⟨h1, h2⟩ := h1
      subst h1; subst h2
      have h3 : es' = [] := List.eq_nil_of_length_eq_zero (by simpa using hroom)
      subst h3
      refine ⟨none, 0, w, ?_, by simpa using hs⟩
      rcases hx.kind with ⟨e', hk⟩ | hk <;> simp [Builtin.append_, run_underlying hu, run_underlying hk, sizeOf, typeInfo, hi, hx.len, his]
      all_goals
        have := hx.cells
        simp at this
        simp [this]
    | some a =>
      obtain ⟨arr, fz, g1, g2, g3, g4, g5, g6, g7⟩ := hold
      have hal : a = ⟨a.block, 0, none⟩ := g1
      generalize hbk : a.block = b at *
      subst g1
      have hlen1 := flatten_length g6
      have hlen2 := flatten_length hes
      have hfitA : es.length * sz + es'.flatten.length ≤ arr.toList.length := by
        have hL : arr.toList.length = cap * sz := by simp [g3]
        rw [hlen2, ← Nat.add_mul, hL]; exact Nat.mul_le_mul_right _ hroom
      have hb1 : Sat w0 m (.blk b (.cells arr.toList.toArray e fz) :: H) w := by
        refine hs.turn (j := .blk b (.cells arr.toList.toArray e fz)) rfl rfl rfl (Nat.le_refl _) (fun _ _ _ => rfl) (by simpa [Item.holds] using g2) (fun y hy => .inl (by simpa [Item.foot] using hy)) (by simp [Item.foot])
      obtain ⟨w', k1, k2⟩ := run_laid (P := P) es'.flatten 0 (es.length * sz) arr.toList H w (by simpa using hfitA) (by rcases g7 with h | h; exact .inl h; exact .inr (.inr (by simpa using h))) (List.all_eq_true.2 fun u hu => hx.one u hu) hb1
      refine ⟨some ⟨b, 0, none⟩, cap, w', ?_, ?_⟩
      · rcases hx.kind with ⟨e', hk⟩ | hk <;>
          simp [Builtin.append_, run_underlying hu, run_underlying hk, sizeOf, typeInfo, hi, hx.len, his, hroom, hx.cells, Addr.add_lit, k1]
      · have hw' : w'.heap[b]? = some (.cells (laid arr.toList (es.length * sz + 0) es'.flatten).toArray e fz) := k2.own _ List.mem_cons_self
        refine k2.turn (j := .row (some ⟨b, 0, none⟩) cap e sz (es ++ es')) rfl rfl rfl (Nat.le_refl _) (fun _ _ _ => rfl) ?_ (fun y hy => .inl (by simpa [Item.foot] using hy)) (by simp [Item.foot])
        refine ⟨_, fz, rfl, hw', ?_, by simpa using hroom, ?_, ?_, ?_⟩
        · simp [laid_length, g3]
        · simp only [Nat.add_zero, List.length_append, List.flatten_append]
          rw [Nat.add_mul, ← hlen2, take_laid _ _ _ hfitA, g5]
        · intro q hq
          rcases List.mem_append.1 hq with h | h
          · exact g6 q h
          · exact hes q h
        · simpa [laid_length] using g7
  · -- a new row
    have hfit := growslice_fits (bytes := i.bytes) (show cap < es.length + es'.length by omega) (by rw [hib]; exact hb)
    have holds : (∀ q ∈ es, q.length = sz) ∧ ∀ w1 : World, w1.heap = w.heap → (Builtin.firstCells i.size es.length (.slice a es.length cap)).run P w1 = .ok es.flatten.toArray w1 := by
      cases a with
      | none =>
        have h1 : es = [] ∧ cap = 0 := hold
        obtain ⟨h1, h2⟩ := h1
        subst h1
        exact ⟨(fun q hq => by cases hq), (fun w1 _ => by simp [Builtin.firstCells])⟩
      | some a =>
        have hold' := hold
        obtain ⟨arr, fz, g1, g2, g3, g4, g5, g6, _⟩ := hold
        refine ⟨g6, fun w1 hw1 => ?_⟩
        refine run_firstCells_some w1 i.size es.length a es.length cap es.flatten (by rw [his]; exact flatten_length g6) (fun j u hu => ?_)
        have hsp : a.spot = none := by rw [g1]
        have hoff : a.off = 0 := by rw [g1]
        rw [← g5, List.getElem?_take] at hu
        split at hu
        · rw [add_eq hsp, hoff]
          simp only [World.cell?, hw1, g2]
          simpa using hu
        · cases hu
    have hr := run_append_grow_src (P := P) w t tx ty e i z hu hi hiz a es.length cap es.flatten (holds.2 _ rfl) x es'.length es'.flatten (by rw [his]; exact hx) (by omega) (by omega) hfit
    refine ⟨_, _, _, by rw [List.length_append]; exact hr, ?_⟩
    have hge := grownCap_ge w (es.length + es'.length) cap e
    have hs2 : Sat w0 m H w.drew := hs.drop.drew
    have hs3 := hs2.alloc (.cells ((es.flatten ++ es'.flatten).toArray ++ Builtin.zeroCells z.cells (grownCap w (es.length + es'.length) cap e - (es.length + es'.length))) e (0, 0))
    refine hs3.turn (j := .row (some ⟨w.heap.size, 0, none⟩) (grownCap w (es.length + es'.length) cap e) e sz (es ++ es')) rfl rfl rfl (Nat.le_refl _) (fun _ _ _ => rfl) ?_ (fun y hy => .inl (by simpa [Item.foot] using hy)) (by simp [Item.foot])
    have hl1 := flatten_length holds.1
    have hl2 := flatten_length hes
    refine ⟨_, (0, 0), rfl, World.alloc_heap_new _ _, ?_, by simpa using hge, ?_, ?_, .inl rfl⟩
    · simp only [Array.size_append, List.size_toArray, List.length_append, size_zeroCells, hzs, hl1, hl2, ← Nat.add_mul]
      congr 1; omega
    · simp only [Array.toList_append, List.flatten_append, List.length_append]
      rw [show (es.length + es'.length) * sz = (es.flatten ++ es'.flatten).length by rw [List.length_append, hl1, hl2, Nat.add_mul]]
      exact List.take_left
    · intro q hq
      rcases List.mem_append.1 hq with h | h
      · exact holds.1 q h
      · exact hes q h
theorem WL.append {t tx e : TypeId} {x y : Operand} {sz by' k : Nat} {z v : Value} {a : Option Addr} {cap len : Nat} {es es' : List (List Value)} {news : List Value} {H1 : SHeap} (hx : r.ev x = some (.slice a len cap)) (hy : r.ev y = some v) (hlen : len = es.length)
    (ho : Out (.row a cap e sz es) H H1) (hu : P.underlying t = some (.slice e)) (hz : zeroB P e = some z) (hsz : sizeB P e = some sz) (hby : bytesB P e = some by') (hzs : z.cells.size = sz)
    (hsrc : Source P w0 m H sz tx v k news) (hk : k = es'.length) (hn : news = es'.flatten) (hes : ∀ q ∈ es', q.length = sz) (h63 : es.length + es'.length ≤ 9223372036854775807) (hb : (es.length + es'.length) * by' ≤ 140737488355328) (hd : Nat.blt d n = true)
    (h : ∀ a' cap', WL P ro n w0 ops Q l ((d, .slice a' (es ++ es').length cap') :: r) ds m (.row a' cap' e sz (es ++ es') :: H1)) :
    WL P ro n w0 ops Q (⟨some d, .call ⟨.builtin .append, #[x, y], #[t, tx]⟩, ty, pos, after, none⟩ :: l) r ds m H := by
  subst hk; subst hn; subst hlen
  refine .gen (fun v m' H' => ∃ a' cap', v = .slice a' (es ++ es').length cap' ∧ m' = m ∧ H' = .row a' cap' e sz (es ++ es') :: H1) hd (fun _ h => by cases h) (fun tmps w hok hs => ?_)
    (by rintro _ _ _ ⟨a', cap', rfl, rfl, rfl⟩; exact h a' cap')
  obtain ⟨a', cap', w', h1, h2⟩ := run_append_row (ty := ty) hu hz hsz hby hzs (hs.perm ho.perm) (hsrc w hs) hes h63 hb
  refine ⟨_, m, _, w', ?_, h2, a', cap', rfl, rfl, rfl⟩
  simp only [execOp, resolve, invoke, builtin, Sem.run_bind, Sem.run_pure, Result.andThen_ok, List.map_toArray, List.map_cons, List.map_nil, hok.ev hx, hok.ev hy, h1]
/-- a nil slice becomes a row of one's own -/
theorem WL.newRow {T : TypeId} {sz : Nat} (h : WL P ro n w0 ops Q l r ds m (.row none 0 T sz [] :: H)) : WL P ro n w0 ops Q l r ds m H :=
  fun tmps w ho hs => h tmps w ho ⟨hs.os, hs.tape, hs.output, hs.size, hs.pers, fun i hi => by
    cases hi with
    | head => exact ⟨rfl, rfl⟩
    | tail _ hi => exact hs.own i hi, by simpa [SHeap.foot, Item.foot] using hs.sep, by simpa [SHeap.foot, Item.foot] using hs.free⟩
theorem WC.newRow {c : Code} {T : TypeId} {sz : Nat} (h : WC P ro n w0 c Q r ds m (.row none 0 T sz [] :: H)) : WC P ro n w0 c Q r ds m H :=
  fun tmps w ho hs => h tmps w ho ⟨hs.os, hs.tape, hs.output, hs.size, hs.pers, fun i hi => by
    cases hi with
    | head => exact ⟨rfl, rfl⟩
    | tail _ hi => exact hs.own i hi, by simpa [SHeap.foot, Item.foot] using hs.sep, by simpa [SHeap.foot, Item.foot] using hs.free⟩

/-! ### bytes to a text -/
theorem push_all : ∀ (s acc : List UInt8), (s.map fun b => (b.toNat : Int)).foldl (fun (q : ByteArray) (n : Int) => q.push (UInt8.ofNat n.toNat)) ⟨acc.toArray⟩ = ⟨(acc ++ s).toArray⟩
  | [], acc => by simp
  | b :: s, acc => by
    simp only [List.map_cons, List.foldl_cons]
    have : (⟨acc.toArray⟩ : ByteArray).push (UInt8.ofNat (Int.toNat (b.toNat : Int))) = ⟨(acc ++ [b]).toArray⟩ := by
      apply ByteArray.ext
      simp [ByteArray.push]
    rw [this, push_all s (acc ++ [b])]
    simp
theorem WL.bytesStr {src dst e : TypeId} {x : Operand} {v : Value} {s : List UInt8} (hx : r.ev x = some v) (hs1 : P.underlying src = some (.slice e)) (hs2 : P.underlying dst = some .string) (hs3 : P.underlying e = some (.int .u8)) (hsz : sizeB P e = some 1)
    (hsrc : (v = .slice none 0 0 ∧ s = []) ∨ ∃ a cap, v = .slice (some a) s.length cap ∧ Cells w0 m H a (s.map fun b => Value.int .u8 (b.toNat : Int))) (hd : Nat.blt d n = true)
    (h : WL P ro n w0 ops Q l ((d, str s) :: r) ds m H) : WL P ro n w0 ops Q (⟨some d, .convert src dst x, ty, pos, after, none⟩ :: l) r ds m H :=
  .val hd (fun _ h => by cases h) (fun tmps w ho hs => by
    have e1 := hsz
    rcases hsrc with ⟨rfl, rfl⟩ | ⟨a, cap, rfl, hc⟩
    · simp [execOp, ho.ev hx, convert, run_underlying hs1, run_underlying hs2, run_underlying hs3, Conv.bytesToString]
      rfl
    · have hl := run_loadCells_list (P := P) (w := w) a (s.map fun b => Value.int .u8 (b.toNat : Int)) (fun j v hj => hc w hs j v hj)
      have hl' : (loadCells a s.length).run P w = .ok ((s.map fun b => (b.toNat : Int)).map (Value.int .u8)).toArray w := by
        simpa [List.map_map, Function.comp_def] using hl
      have hb := run_bytesToString (P := P) w a s.length cap _ hl'
      have hp := push_all s []
      simp only [List.nil_append] at hp
      rw [show (ByteArray.empty : ByteArray) = ⟨([] : List UInt8).toArray⟩ from rfl, hp] at hb
      simp only [execOp, ho.ev hx, convert, Sem.run_bind, run_underlying hs1, run_underlying hs2, run_underlying hs3, Result.andThen_ok, hb, Sem.run_pure]) h
theorem row_cells {a : Addr} {cap : Nat} {T : TypeId} {s : List UInt8} (hm : Item.row (some a) cap T 1 (s.map fun b => [Value.int .u8 (b.toNat : Int)]) ∈ H) : Cells w0 m H a (s.map fun b => Value.int .u8 (b.toNat : Int)) := by
  intro w hs j v hj
  have hj' : (s.map fun b => [Value.int .u8 (b.toNat : Int)])[j]? = some [v] := by
    simp only [List.getElem?_map, Option.map_eq_some_iff] at hj ⊢
    obtain ⟨b, hb, rfl⟩ := hj
    exact ⟨b, hb, rfl⟩
  have := (row_at (hs.own _ hm) hj').2 0 v rfl
  simpa using this
/-- an own row of bytes -/
theorem WL.rowStr {src dst e : TypeId} {x : Operand} {a : Option Addr} {len cap : Nat} {s : List UInt8} (hx : r.ev x = some (.slice a len cap)) (hlen : len = s.length) (hm : Item.row a cap e 1 (s.map fun b => [Value.int .u8 (b.toNat : Int)]) ∈ H)
    (hs1 : P.underlying src = some (.slice e)) (hs2 : P.underlying dst = some .string) (hs3 : P.underlying e = some (.int .u8)) (hsz : sizeB P e = some 1) (hd : Nat.blt d n = true)
    (h : WL P ro n w0 ops Q l ((d, str s) :: r) ds m H) : WL P ro n w0 ops Q (⟨some d, .convert src dst x, ty, pos, after, none⟩ :: l) r ds m H := by
  subst hlen
  intro tmps w ho hs
  cases a with
  | none =>
    have h1 : (s.map fun b => [Value.int .u8 (b.toNat : Int)]) = [] ∧ cap = 0 := hs.own _ hm
    obtain ⟨h1, h2⟩ := h1
    have h3 : s = [] := by simpa using h1
    subst h3; subst h2
    exact WL.bytesStr hx hs1 hs2 hs3 hsz (.inl ⟨rfl, rfl⟩) hd h tmps w ho hs
  | some a => exact WL.bytesStr hx hs1 hs2 hs3 hsz (.inr ⟨a, cap, rfl, row_cells hm⟩) hd h tmps w ho hs

/-! ### results -/
theorem res_tmp {fn : Func} {t : Tmp} {v : Value} (hf : fn.results = #[.tmp t]) (hv : r.get t = some v) : ∀ tmps w, r.ok n tmps → Sat w0 m H w → (results fn tmps).run P w = .ok v w := by
  intro tmps w ho _
  rw [results_tmp hf, Array.getD_eq_getD_getElem?, ho.at_ _ _ hv]; rfl
theorem res_none {fn : Func} (hf : fn.results = #[]) : ∀ tmps w, r.ok n tmps → Sat w0 m H w → (results fn tmps).run P w = .ok (.tuple #[]) w := by
  intro tmps w _ _
  rw [results_none hf]
/-- one result after the other -/
inductive ResAll (P : Program) (w0 : World) (m : Mem) (H : SHeap) (r : Env) : List ResultVar → List Value → Prop
  | nil : ResAll P w0 m H r [] []
  | tmp {t : Tmp} {v : Value} {rs : List ResultVar} {vs : List Value} : r.get t = some v → ResAll P w0 m H r rs vs → ResAll P w0 m H r (.tmp t :: rs) (v :: vs)
  | cell {t : Tmp} {u : TypeId} {a : Addr} {v : Value} {rs : List ResultVar} {vs : List Value} : r.get t = some (.pointer (some a)) → Loads P w0 m H u a v → ResAll P w0 m H r rs vs → ResAll P w0 m H r (.cell t u :: rs) (v :: vs)
def resOne (tmps : Array Value) : ResultVar → Sem Value
  | .tmp t => pure (tmps.getD t undef)
  | .cell a t => do loadVar t (← asAddr (tmps.getD a undef))
theorem results_eq (fn : Func) (tmps : Array Value) : results fn tmps = (do let vs ← fn.results.mapM (resOne tmps); pure (if h : vs.size = 1 then vs[0] else .tuple vs)) := rfl
theorem ResAll.run {rs : List ResultVar} {vs : List Value} (h : ResAll P w0 m H r rs vs) : ∀ tmps w, r.ok n tmps → Sat w0 m H w → (rs.mapM (resOne tmps)).run P w = .ok vs w := by
  induction h with
  | nil => intro tmps w _ _; simp
  | tmp h1 _ ih =>
    intro tmps w ho hs
    simp only [List.mapM_cons, Sem.run_bind, resOne, Sem.run_pure, Result.andThen_ok, ih tmps w ho hs]
    rw [Array.getD_eq_getD_getElem?, ho.at_ _ _ h1]; rfl
  | cell h1 h2 _ ih =>
    intro tmps w ho hs
    have e : ∀ a t, tmps.getD t undef = .pointer (some a) → (asAddr (tmps.getD t undef)).run P w = .ok a w := fun a t h => by rw [h]; simp [asAddr]
    have e2 := e _ _ (by rw [Array.getD_eq_getD_getElem?, ho.at_ _ _ h1]; rfl)
    simp only [List.mapM_cons, Sem.run_bind, resOne, Sem.run_pure, Result.andThen_ok, e2, h2 w hs, ih tmps w ho hs]
theorem ResAll.all {fn : Func} {rs : List ResultVar} {vs : List Value} (hf : fn.results = rs.toArray) (h : ResAll P w0 m H r rs vs) : ∀ tmps w, r.ok n tmps → Sat w0 m H w →
    (results fn tmps).run P w = .ok (if h : vs.toArray.size = 1 then vs.toArray[0] else .tuple vs.toArray) w := by
  intro tmps w ho hs
  have h1 := h.run tmps w ho hs
  rw [results_eq, hf, Array.mapM_eq_mapM_toList]
  generalize resOne tmps = f at *
  simp [h1]
theorem res_many {fn : Func} {rs : List ResultVar} {vs : List Value} (hf : fn.results = rs.toArray) (h : ResAll P w0 m H r rs vs) (hne : Nat.beq vs.length 1 = false) : ∀ tmps w, r.ok n tmps → Sat w0 m H w → (results fn tmps).run P w = .ok (.tuple vs.toArray) w := by
  intro tmps w ho hs
  have h2 : ¬ vs.toArray.size = 1 := fun e => by rw [show vs.length = 1 from by simpa using e] at hne; cases hne
  rw [h.all hf tmps w ho hs, dif_neg h2]
theorem res_cell {fn : Func} {t : Tmp} {u : TypeId} {a : Addr} {v : Value} (hf : fn.results = #[.cell t u]) (h1 : r.get t = some (.pointer (some a))) (h2 : Loads P w0 m H u a v) : ∀ tmps w, r.ok n tmps → Sat w0 m H w → (results fn tmps).run P w = .ok v w := by
  intro tmps w ho hs
  rw [(ResAll.cell h1 h2 .nil).all (fn := fn) hf tmps w ho hs]
  rfl
end
end Go.Eng

