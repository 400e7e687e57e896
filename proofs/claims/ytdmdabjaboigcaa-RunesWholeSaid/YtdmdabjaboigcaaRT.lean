/-
  Plain facts on the pieces of a text: runes and broken bytes. No condition.
-/
import Derived.Test.YtdmdabjaboigcaaU8
set_option linter.all false
namespace Go.Eng
open Go
structure Pc where
  at_ : Nat
  w : Nat
  r : Nat
  b : Bool
  deriving DecidableEq
def Pc.cs (p : Pc) : List Value := [.int .i64 (p.at_ : Int), .int .i64 (p.w : Int), .int .i32 (p.r : Int), .bool p.b]
def Pc.v (p : Pc) : Value := .agg p.cs.toArray
/-- the piece that is read at a place -/
def readP (l : List UInt8) (k : Nat) : Pc := if dl (l.drop k) = (65533, 1) then ⟨k, 1, 65533, true⟩ else ⟨k, (dl (l.drop k)).2, (dl (l.drop k)).1, false⟩
theorem readP_at (l : List UInt8) (k : Nat) : (readP l k).at_ = k := by unfold readP; split <;> rfl
theorem readP_w_eq (l : List UInt8) (k : Nat) : (readP l k).w = (dl (l.drop k)).2 := by
  unfold readP; split
  · rename_i h; rw [h]
  · rfl
theorem readP_r_eq (l : List UInt8) (k : Nat) : (readP l k).r = (dl (l.drop k)).1 := by
  unfold readP; split
  · rename_i h; rw [h]
  · rfl
theorem readP_w {l : List UInt8} {k : Nat} (hk : k < l.length) : 1 ≤ (readP l k).w ∧ (readP l k).w ≤ 4 ∧ k + (readP l k).w ≤ l.length := by
  unfold readP
  split
  · exact ⟨Nat.le_refl _, by show 1 ≤ 4; omega, hk⟩
  · rename_i h
    rcases dl_cases (l.drop k) (by simp; omega) with ⟨_, h2, h3⟩ | ⟨h2, _⟩
    · have h4 := wd_pos (dl (l.drop k)).1
      have h5 := h3.1
      simp only [List.length_drop] at h5
      simp only [h2]
      omega
    · exact absurd h2 h
theorem readP_ok {l : List UInt8} {k : Nat} (hk : k < l.length) : okr (readP l k).r := by
  rw [readP_r_eq]
  rcases dl_cases (l.drop k) (by simp; omega) with ⟨h1, _, _⟩ | ⟨h1, _⟩
  · exact h1
  · rw [h1]; right; decide
theorem okr_le {c : Nat} (h : okr c) : c ≤ 1114111 := by rcases h with h | h <;> omega
def pcs : Nat → List UInt8 → Nat → List Pc
  | 0, _, _ => []
  | f + 1, l, k => if k < l.length then readP l k :: pcs f l (k + (readP l k).w) else []
theorem pcs_more (l : List UInt8) : ∀ (f g k : Nat), l.length - k ≤ f → l.length - k ≤ g → pcs f l k = pcs g l k
  | 0, 0, _, _, _ => rfl
  | 0, g + 1, k, hf, _ => by
    have : ¬ k < l.length := by omega
    simp [pcs, this]
  | f + 1, 0, k, _, hg => by
    have : ¬ k < l.length := by omega
    simp [pcs, this]
  | f + 1, g + 1, k, hf, hg => by
    simp only [pcs]
    split
    · rename_i hk
      have hw := readP_w hk
      rw [pcs_more l f g _ (by omega) (by omega)]
    · rfl
/-- the pieces from a place on -/
def from_ (l : List UInt8) (k : Nat) : List Pc := pcs l.length l k
def pieces (l : List UInt8) : List Pc := from_ l 0
theorem from_cons {l : List UInt8} {k : Nat} (hk : k < l.length) : from_ l k = readP l k :: from_ l (k + (readP l k).w) := by
  have hw := readP_w hk
  unfold from_
  rw [pcs_more l l.length (l.length + 1) k (by omega) (by omega)]
  simp only [pcs, if_pos hk]
theorem from_nil {l : List UInt8} {k : Nat} (hk : ¬ k < l.length) : from_ l k = [] := by
  unfold from_
  cases hl : l.length with
  | zero => rfl
  | succ f => simp only [pcs]; rw [if_neg hk]
end Go.Eng
