/-
  Plain facts: the pieces of a text that is put together of forms. No condition.
-/
import Derived.Test.YtdmdabjaboigcaaRT
set_option linter.all false
namespace Go.Eng
open Go
def formsOf (ns : List Int) : List UInt8 := ns.flatMap fun k => fmb (rn k)
theorem formsOf_append (a b : List Int) : formsOf (a ++ b) = formsOf a ++ formsOf b := by simp [formsOf]
theorem dl_form {c : Nat} (hc : okr c) (B : List UInt8) : dl (fmb c ++ B) = (c, wd c) := by
  refine dl_of_begins hc ((begins_iff _ c (okr_le hc)).2 ?_)
  rw [← fmb_length c, List.take_left]
theorem read_form {c : Nat} (hc : okr c) (A B : List UInt8) : readP (A ++ (fmb c ++ B)) A.length = ⟨A.length, wd c, c, false⟩ := by
  have h1 : (A ++ (fmb c ++ B)).drop A.length = fmb c ++ B := by simp
  unfold readP
  rw [h1, dl_form hc]
  rw [if_neg]
  intro h
  simp only [Prod.mk.injEq] at h
  rw [h.1] at h
  exact absurd h.2 (by decide)
def mkP : Nat → List Int → List Pc
  | _, [] => []
  | k, x :: ns => ⟨k, wd (rn x), rn x, false⟩ :: mkP (k + wd (rn x)) ns
theorem forms_from : ∀ (ns : List Int) (A : List UInt8), from_ (A ++ formsOf ns) A.length = mkP A.length ns
  | [], A => by rw [from_nil (by simp [formsOf])]; rfl
  | x :: ns, A => by
    have h1 : formsOf (x :: ns) = fmb (rn x) ++ formsOf ns := by simp [formsOf]
    have hw := wd_pos (rn x)
    rw [h1, from_cons (by simp [fmb_length]; omega), read_form (rn_ok x)]
    have h2 := forms_from ns (A ++ fmb (rn x))
    rw [List.append_assoc, List.length_append, fmb_length] at h2
    simp only [mkP, h2]
theorem forms_pieces (ns : List Int) : pieces (formsOf ns) = mkP 0 ns := forms_from ns []
theorem mkP_map : ∀ (ns : List Int) (k : Nat), (mkP k ns).map Pc.r = ns.map rn
  | [], _ => rfl
  | x :: ns, k => by simp [mkP, mkP_map ns]
theorem mkP_length (ns : List Int) (k : Nat) : (mkP k ns).length = ns.length := by
  have := congrArg List.length (mkP_map ns k)
  simpa using this
theorem mkP_right : ∀ (ns : List Int) (k : Nat), (mkP k ns).filter (fun p => p.b) = []
  | [], _ => rfl
  | x :: ns, k => by simp [mkP, mkP_right ns]
theorem forms_len : ∀ ns : List Int, (formsOf ns).length ≤ 4 * ns.length
  | [] => by simp [formsOf]
  | x :: ns => by
    have h1 : formsOf (x :: ns) = fmb (rn x) ++ formsOf ns := by simp [formsOf]
    have := forms_len ns
    have hw := wd_pos (rn x)
    rw [h1, List.length_append, fmb_length, List.length_cons]; omega
end Go.Eng
