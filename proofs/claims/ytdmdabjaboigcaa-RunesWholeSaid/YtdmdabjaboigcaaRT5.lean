/-
  Plain facts: the broken bytes of a text, its longest runs. No condition.
-/
import Derived.Test.YtdmdabjaboigcaaRT
set_option linter.all false
namespace Go.Eng
open Go
def brokenOf (ps : List Pc) : List Nat := (ps.filter fun p => p.b).map Pc.at_
theorem brokenOf_snoc (ps : List Pc) (p : Pc) : brokenOf (ps ++ [p]) = brokenOf ps ++ (if p.b then [p.at_] else []) := by
  unfold brokenOf; rw [List.filter_append, List.map_append]; cases hp : p.b <;> simp [hp]
theorem brokenOf_length (ps : List Pc) : (brokenOf ps).length ≤ ps.length := by
  unfold brokenOf; rw [List.length_map]; exact List.length_filter_le _ _
structure Pt where
  f : Nat
  t : Nat
  b : Bool
def Pt.cs (p : Pt) : List Value := [.int .i64 (p.f : Int), .int .i64 (p.t : Int), .bool p.b]
def addPart (acc : List Pt) (p : Pc) : List Pt := match acc.getLast? with
  | some q => if q.b = p.b then acc.set (acc.length - 1) ⟨q.f, p.at_ + p.w, q.b⟩ else acc ++ [⟨p.at_, p.at_ + p.w, p.b⟩]
  | none => acc ++ [⟨p.at_, p.at_ + p.w, p.b⟩]
def partsOf (ps : List Pc) : List Pt := ps.foldl addPart []
theorem partsOf_snoc (ps : List Pc) (p : Pc) : partsOf (ps ++ [p]) = addPart (partsOf ps) p := by simp [partsOf]
theorem addPart_nil (p : Pc) : addPart [] p = [⟨p.at_, p.at_ + p.w, p.b⟩] := rfl
theorem addPart_eq {acc : List Pt} {q : Pt} {p : Pc} (h : q.b = p.b) : addPart (acc ++ [q]) p = acc ++ [⟨q.f, p.at_ + p.w, q.b⟩] := by
  simp [addPart, h]
theorem addPart_ne {acc : List Pt} {q : Pt} {p : Pc} (h : ¬ q.b = p.b) : addPart (acc ++ [q]) p = acc ++ [q] ++ [⟨p.at_, p.at_ + p.w, p.b⟩] := by
  simp [addPart, h]
theorem addPart_length (acc : List Pt) (p : Pc) : (addPart acc p).length ≤ acc.length + 1 := by
  unfold addPart
  split
  · split
    · simp
    · simp
  · simp
theorem partsOf_length (ps : List Pc) : (partsOf ps).length ≤ ps.length := by
  have : ∀ (ps : List Pc) (acc : List Pt), (ps.foldl addPart acc).length ≤ acc.length + ps.length := by
    intro ps
    induction ps with
    | nil => intro acc; simp
    | cons p ps ih =>
      intro acc
      have h1 := ih (addPart acc p)
      have h2 := addPart_length acc p
      simp only [List.foldl_cons, List.length_cons]
      omega
  simpa [partsOf] using this ps []
theorem nil_or_snoc {α : Type} (l : List α) : l = [] ∨ ∃ ys q, l = ys ++ [q] := by
  rcases List.eq_nil_or_concat l with h | ⟨ys, q, h⟩
  · exact .inl h
  · exact .inr ⟨ys, q, by rw [h]; simp⟩
end Go.Eng
