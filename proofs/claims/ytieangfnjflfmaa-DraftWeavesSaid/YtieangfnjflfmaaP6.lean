/-
  Parts of a walk, joined: D8 D8b D9 DT6 DT7 D10 D11 D25 D26. No condition.
-/
import Derived.Test.YtieangfnjflfmaaP5
import Derived.Test.YtieangfnjflfmaaP4
set_option linter.all false
/-
  The walk of draft.middle. No condition.
-/
namespace Go.Eng
open Go Go.RowKit
def prE (p : Nat × Nat) : List Value := [.int .i64 (p.1 : Int), .int .i64 (p.2 : Int)]
def mid (A B : List Tx) (k : Nat) : List (Nat × Nat) := if A.length ≤ 1024 ∧ B.length ≤ 1024 then midL A B k k else []
def cut16 (A B : List Tx) (i k j : Nat) : Int := if k ≤ j then (lcs (A.drop i) (B.drop j) : Int) else 0
/-- a row of the table, reckoned from a place on -/
def rowP (A B : List Tx) (i k : Nat) : List (List Value) := (List.range (B.length + 1)).map fun j => [.int .i16 (cut16 A B i k j)]
theorem rowP_length (A B : List Tx) (i k : Nat) : (rowP A B i k).length = B.length + 1 := by simp [rowP]
theorem rowP_get {A B : List Tx} {i k j : Nat} (hj : j ≤ B.length) : (rowP A B i k)[j]? = some [.int .i16 (cut16 A B i k j)] := by
  unfold rowP
  rw [List.getElem?_map, List.getElem?_range (by omega)]; rfl
theorem cut16_ge {A B : List Tx} {i k j : Nat} (h : k ≤ j) : cut16 A B i k j = (lcs (A.drop i) (B.drop j) : Int) := if_pos h
theorem rowP_set {A B : List Tx} {i k : Nat} {v : Int} (hv : v = (lcs (A.drop i) (B.drop k) : Int)) : (rowP A B i (k + 1)).set k [.int .i16 v] = rowP A B i k := by
  apply List.ext_getElem? 
  intro j
  rw [List.getElem?_set]
  by_cases hj : j ≤ B.length
  · rw [rowP_get hj, rowP_get hj, rowP_length]
    by_cases e : k = j
    · subst e
      rw [if_pos rfl, if_pos (by omega), cut16_ge (Nat.le_refl _), hv]
    · rw [if_neg e]
      unfold cut16
      by_cases h : k + 1 ≤ j
      · rw [if_pos h, if_pos (by omega)]
      · rw [if_neg h, if_neg (by omega)]
  · have h0 : ∀ k, (rowP A B i k)[j]? = none := fun k => List.getElem?_eq_none (by rw [rowP_length]; omega)
    rw [h0, h0, rowP_length]
    split
    · rw [if_neg (by omega)]
    · rfl
theorem rowP_zero {A B : List Tx} {i k : Nat} (h : B.length ≤ k ∨ A.length ≤ i) : rowP A B i k = List.replicate (B.length + 1) [.int .i16 0] := by
  apply List.ext_getElem?
  intro j
  by_cases hj : j ≤ B.length
  · rw [rowP_get hj, List.getElem?_replicate, if_pos (by omega)]
    congr 3
    unfold cut16
    split
    · rcases h with h | h
      · rw [List.drop_of_length_le (l := B) (by omega), lcs_nil]; rfl
      · rw [List.drop_of_length_le (l := A) (by omega), lcs_nil']; rfl
    · rfl
  · rw [List.getElem?_eq_none (by rw [rowP_length]; omega), List.getElem?_eq_none (by rw [List.length_replicate]; omega)]
/-- the row of the rows, so many of them made -/
def outE (bs : List Nat) (c N : Nat) : List (List Value) := (bs.map fun b => [.slice (some ⟨b, 0, none⟩) c c]) ++ List.replicate (N - bs.length) [.slice none 0 0]
theorem outE_set {bs : List Nat} {c N b : Nat} (h : bs.length < N) : (outE bs c N).set bs.length [.slice (some ⟨b, 0, none⟩) c c] = outE (bs ++ [b]) c N := by
  unfold outE
  rw [List.set_append_right _ _ (by simp), List.map_append, List.append_assoc]
  congr 1
  rw [List.length_map, Nat.sub_self, List.length_append, List.length_singleton, show N - bs.length = (N - (bs.length + 1)) + 1 by omega, List.replicate_succ]
  rfl
theorem outE_length {bs : List Nat} {c N : Nat} (h : bs.length ≤ N) : (outE bs c N).length = N := by
  unfold outE
  rw [List.length_append, List.length_map, List.length_replicate]; omega
theorem outE_get {bs : List Nat} {c N i b : Nat} (h : bs[i]? = some b) : (outE bs c N)[i]? = some [.slice (some ⟨b, 0, none⟩) c c] := by
  have hi := (List.getElem?_eq_some_iff.1 h).1
  unfold outE
  rw [List.getElem?_append_left (by simpa using hi), List.getElem?_map, h]; rfl
theorem drop_get {l : List Tx} {i : Nat} {x : Tx} (h : l[i]? = some x) : l.drop i = x :: l.drop (i + 1) := by
  obtain ⟨hi, he⟩ := List.getElem?_eq_some_iff.1 h
  rw [List.drop_eq_getElem_cons hi, he]
end Go.Eng
namespace Go.Proofs.Ytieangfnjflfmaa
open Go Go.Eng
set_option maxRecDepth 100000
set_option maxHeartbeats 4000000
set_option linter.all false
attribute [local irreducible] WL WC WQ QFun QLoop Does Q1 QRound QAssign Go.Addr.add
attribute [local irreducible] midL firstJ rowP outE tabL strs
theorem sq_D8_1 {G : Prop} (h : G := by (repeat (first | (refine sp ?_; (repeat intro zzc)) | (refine WL.makeRow (sz:=1) (by':=2) (zs:=[.int .i16 0]) rfl rfl (by (first | with_reducible exact natz _ | with_reducible exact natz0 | with_reducible exact natz1 | with_reducible exact natz2 | with_reducible exact natz3 | with_reducible exact natz4 | with_reducible exact natz8 | (apply natz_add; (· first | with_reducible exact natz _ | with_reducible exact natz0 | with_reducible exact natz1 | with_reducible exact natz2 | with_reducible exact natz3 | with_reducible exact natz4 | with_reducible exact natz8); (· first | with_reducible exact natz _ | with_reducible exact natz0 | with_reducible exact natz1 | with_reducible exact natz2 | with_reducible exact natz3 | with_reducible exact natz4 | with_reducible exact natz8)) | (apply natz_sub; (· first | with_reducible exact natz _ | with_reducible exact natz0 | with_reducible exact natz1 | with_reducible exact natz2 | with_reducible exact natz3 | with_reducible exact natz4 | with_reducible exact natz8); (· first | with_reducible exact natz _ | with_reducible exact natz0 | with_reducible exact natz1 | with_reducible exact natz2 | with_reducible exact natz3 | with_reducible exact natz4 | with_reducible exact natz8); (· omega)) | exact (Int.toNat_of_nonneg (by omega)).symm)) (by (first | with_reducible exact natz _ | with_reducible exact natz0 | with_reducible exact natz1 | with_reducible exact natz2 | with_reducible exact natz3 | with_reducible exact natz4 | with_reducible exact natz8 | (apply natz_add; (· first | with_reducible exact natz _ | with_reducible exact natz0 | with_reducible exact natz1 | with_reducible exact natz2 | with_reducible exact natz3 | with_reducible exact natz4 | with_reducible exact natz8); (· first | with_reducible exact natz _ | with_reducible exact natz0 | with_reducible exact natz1 | with_reducible exact natz2 | with_reducible exact natz3 | with_reducible exact natz4 | with_reducible exact natz8)) | (apply natz_sub; (· first | with_reducible exact natz _ | with_reducible exact natz0 | with_reducible exact natz1 | with_reducible exact natz2 | with_reducible exact natz3 | with_reducible exact natz4 | with_reducible exact natz8); (· first | with_reducible exact natz _ | with_reducible exact natz0 | with_reducible exact natz1 | with_reducible exact natz2 | with_reducible exact natz3 | with_reducible exact natz4 | with_reducible exact natz8); (· omega)) | exact (Int.toNat_of_nonneg (by omega)).symm)) rfl rfl rfl rfl rfl rfl (by decide) (by omega) (by omega) rfl ?_; intro zzc) | (refine WL.makeRow (sz:=1) (by':=24) (zs:=[.slice none 0 0]) rfl rfl (by (first | with_reducible exact natz _ | with_reducible exact natz0 | with_reducible exact natz1 | with_reducible exact natz2 | with_reducible exact natz3 | with_reducible exact natz4 | with_reducible exact natz8 | (apply natz_add; (· first | with_reducible exact natz _ | with_reducible exact natz0 | with_reducible exact natz1 | with_reducible exact natz2 | with_reducible exact natz3 | with_reducible exact natz4 | with_reducible exact natz8); (· first | with_reducible exact natz _ | with_reducible exact natz0 | with_reducible exact natz1 | with_reducible exact natz2 | with_reducible exact natz3 | with_reducible exact natz4 | with_reducible exact natz8)) | (apply natz_sub; (· first | with_reducible exact natz _ | with_reducible exact natz0 | with_reducible exact natz1 | with_reducible exact natz2 | with_reducible exact natz3 | with_reducible exact natz4 | with_reducible exact natz8); (· first | with_reducible exact natz _ | with_reducible exact natz0 | with_reducible exact natz1 | with_reducible exact natz2 | with_reducible exact natz3 | with_reducible exact natz4 | with_reducible exact natz8); (· omega)) | exact (Int.toNat_of_nonneg (by omega)).symm)) (by (first | with_reducible exact natz _ | with_reducible exact natz0 | with_reducible exact natz1 | with_reducible exact natz2 | with_reducible exact natz3 | with_reducible exact natz4 | with_reducible exact natz8 | (apply natz_add; (· first | with_reducible exact natz _ | with_reducible exact natz0 | with_reducible exact natz1 | with_reducible exact natz2 | with_reducible exact natz3 | with_reducible exact natz4 | with_reducible exact natz8); (· first | with_reducible exact natz _ | with_reducible exact natz0 | with_reducible exact natz1 | with_reducible exact natz2 | with_reducible exact natz3 | with_reducible exact natz4 | with_reducible exact natz8)) | (apply natz_sub; (· first | with_reducible exact natz _ | with_reducible exact natz0 | with_reducible exact natz1 | with_reducible exact natz2 | with_reducible exact natz3 | with_reducible exact natz4 | with_reducible exact natz8); (· first | with_reducible exact natz _ | with_reducible exact natz0 | with_reducible exact natz1 | with_reducible exact natz2 | with_reducible exact natz3 | with_reducible exact natz4 | with_reducible exact natz8); (· omega)) | exact (Int.toNat_of_nonneg (by omega)).symm)) rfl rfl rfl rfl rfl rfl (by decide) (by omega) (by omega) rfl ?_; intro zzc) | (refine WL.add16 rfl rfl rfl (by omega) ?_))); exact WQ.q1 rfl) : G := h
theorem st_D8_1 {G G' : Prop} (next : G') (h : Bx G' → G := by intro zzn; (first | ((refine st ?_; (repeat intro zzc)); (try ((first | (refine WL.makeRow (sz:=1) (by':=2) (zs:=[.int .i16 0]) rfl rfl (by (first | with_reducible exact natz _ | with_reducible exact natz0 | with_reducible exact natz1 | with_reducible exact natz2 | with_reducible exact natz3 | with_reducible exact natz4 | with_reducible exact natz8 | (apply natz_add; (· first | with_reducible exact natz _ | with_reducible exact natz0 | with_reducible exact natz1 | with_reducible exact natz2 | with_reducible exact natz3 | with_reducible exact natz4 | with_reducible exact natz8); (· first | with_reducible exact natz _ | with_reducible exact natz0 | with_reducible exact natz1 | with_reducible exact natz2 | with_reducible exact natz3 | with_reducible exact natz4 | with_reducible exact natz8)) | (apply natz_sub; (· first | with_reducible exact natz _ | with_reducible exact natz0 | with_reducible exact natz1 | with_reducible exact natz2 | with_reducible exact natz3 | with_reducible exact natz4 | with_reducible exact natz8); (· first | with_reducible exact natz _ | with_reducible exact natz0 | with_reducible exact natz1 | with_reducible exact natz2 | with_reducible exact natz3 | with_reducible exact natz4 | with_reducible exact natz8); (· omega)) | exact (Int.toNat_of_nonneg (by omega)).symm)) (by (first | with_reducible exact natz _ | with_reducible exact natz0 | with_reducible exact natz1 | with_reducible exact natz2 | with_reducible exact natz3 | with_reducible exact natz4 | with_reducible exact natz8 | (apply natz_add; (· first | with_reducible exact natz _ | with_reducible exact natz0 | with_reducible exact natz1 | with_reducible exact natz2 | with_reducible exact natz3 | with_reducible exact natz4 | with_reducible exact natz8); (· first | with_reducible exact natz _ | with_reducible exact natz0 | with_reducible exact natz1 | with_reducible exact natz2 | with_reducible exact natz3 | with_reducible exact natz4 | with_reducible exact natz8)) | (apply natz_sub; (· first | with_reducible exact natz _ | with_reducible exact natz0 | with_reducible exact natz1 | with_reducible exact natz2 | with_reducible exact natz3 | with_reducible exact natz4 | with_reducible exact natz8); (· first | with_reducible exact natz _ | with_reducible exact natz0 | with_reducible exact natz1 | with_reducible exact natz2 | with_reducible exact natz3 | with_reducible exact natz4 | with_reducible exact natz8); (· omega)) | exact (Int.toNat_of_nonneg (by omega)).symm)) rfl rfl rfl rfl rfl rfl (by decide) (by omega) (by omega) rfl ?_; intro zzc) | (refine WL.makeRow (sz:=1) (by':=24) (zs:=[.slice none 0 0]) rfl rfl (by (first | with_reducible exact natz _ | with_reducible exact natz0 | with_reducible exact natz1 | with_reducible exact natz2 | with_reducible exact natz3 | with_reducible exact natz4 | with_reducible exact natz8 | (apply natz_add; (· first | with_reducible exact natz _ | with_reducible exact natz0 | with_reducible exact natz1 | with_reducible exact natz2 | with_reducible exact natz3 | with_reducible exact natz4 | with_reducible exact natz8); (· first | with_reducible exact natz _ | with_reducible exact natz0 | with_reducible exact natz1 | with_reducible exact natz2 | with_reducible exact natz3 | with_reducible exact natz4 | with_reducible exact natz8)) | (apply natz_sub; (· first | with_reducible exact natz _ | with_reducible exact natz0 | with_reducible exact natz1 | with_reducible exact natz2 | with_reducible exact natz3 | with_reducible exact natz4 | with_reducible exact natz8); (· first | with_reducible exact natz _ | with_reducible exact natz0 | with_reducible exact natz1 | with_reducible exact natz2 | with_reducible exact natz3 | with_reducible exact natz4 | with_reducible exact natz8); (· omega)) | exact (Int.toNat_of_nonneg (by omega)).symm)) (by (first | with_reducible exact natz _ | with_reducible exact natz0 | with_reducible exact natz1 | with_reducible exact natz2 | with_reducible exact natz3 | with_reducible exact natz4 | with_reducible exact natz8 | (apply natz_add; (· first | with_reducible exact natz _ | with_reducible exact natz0 | with_reducible exact natz1 | with_reducible exact natz2 | with_reducible exact natz3 | with_reducible exact natz4 | with_reducible exact natz8); (· first | with_reducible exact natz _ | with_reducible exact natz0 | with_reducible exact natz1 | with_reducible exact natz2 | with_reducible exact natz3 | with_reducible exact natz4 | with_reducible exact natz8)) | (apply natz_sub; (· first | with_reducible exact natz _ | with_reducible exact natz0 | with_reducible exact natz1 | with_reducible exact natz2 | with_reducible exact natz3 | with_reducible exact natz4 | with_reducible exact natz8); (· first | with_reducible exact natz _ | with_reducible exact natz0 | with_reducible exact natz1 | with_reducible exact natz2 | with_reducible exact natz3 | with_reducible exact natz4 | with_reducible exact natz8); (· omega)) | exact (Int.toNat_of_nonneg (by omega)).symm)) rfl rfl rfl rfl rfl rfl (by decide) (by omega) (by omega) rfl ?_; intro zzc) | (refine WL.add16 rfl rfl rfl (by omega) ?_) | ((refine iDraw ?_; (first | refine WC.drawAll rfl (by decide +kernel) ?_ | refine WC.draw 1 rfl (by decide +kernel) ?_ | refine WC.draw 2 rfl (by decide +kernel) ?_ | refine WC.draw 3 rfl (by decide +kernel) ?_ | refine WC.draw 4 rfl (by decide +kernel) ?_ | refine WC.draw 5 rfl (by decide +kernel) ?_ | refine WC.draw 6 rfl (by decide +kernel) ?_ | refine WC.draw 7 rfl (by decide +kernel) ?_ | refine WC.draw 8 rfl (by decide +kernel) ?_ | refine WC.draw 9 rfl (by decide +kernel) ?_ | refine WC.draw 10 rfl (by decide +kernel) ?_ | refine WC.draw 11 rfl (by decide +kernel) ?_ | refine WC.draw 12 rfl (by decide +kernel) ?_ | refine WC.draw 13 rfl (by decide +kernel) ?_ | refine WC.draw 14 rfl (by decide +kernel) ?_ | refine WC.draw 15 rfl (by decide +kernel) ?_ | refine WC.draw 16 rfl (by decide +kernel) ?_ | refine WC.draw 17 rfl (by decide +kernel) ?_ | refine WC.draw 18 rfl (by decide +kernel) ?_ | refine WC.draw 19 rfl (by decide +kernel) ?_ | refine WC.draw 20 rfl (by decide +kernel) ?_ | refine WC.draw 21 rfl (by decide +kernel) ?_ | refine WC.draw 22 rfl (by decide +kernel) ?_ | refine WC.draw 23 rfl (by decide +kernel) ?_ | refine WC.draw 24 rfl (by decide +kernel) ?_)); (repeat (refine WD.cons rfl (fun c h => by cases h) sq_D8_1 ?_)); refine WD.nil ?_)); (try (refine st ?_; (repeat intro zzc)))))) | ((first | (refine WL.makeRow (sz:=1) (by':=2) (zs:=[.int .i16 0]) rfl rfl (by (first | with_reducible exact natz _ | with_reducible exact natz0 | with_reducible exact natz1 | with_reducible exact natz2 | with_reducible exact natz3 | with_reducible exact natz4 | with_reducible exact natz8 | (apply natz_add; (· first | with_reducible exact natz _ | with_reducible exact natz0 | with_reducible exact natz1 | with_reducible exact natz2 | with_reducible exact natz3 | with_reducible exact natz4 | with_reducible exact natz8); (· first | with_reducible exact natz _ | with_reducible exact natz0 | with_reducible exact natz1 | with_reducible exact natz2 | with_reducible exact natz3 | with_reducible exact natz4 | with_reducible exact natz8)) | (apply natz_sub; (· first | with_reducible exact natz _ | with_reducible exact natz0 | with_reducible exact natz1 | with_reducible exact natz2 | with_reducible exact natz3 | with_reducible exact natz4 | with_reducible exact natz8); (· first | with_reducible exact natz _ | with_reducible exact natz0 | with_reducible exact natz1 | with_reducible exact natz2 | with_reducible exact natz3 | with_reducible exact natz4 | with_reducible exact natz8); (· omega)) | exact (Int.toNat_of_nonneg (by omega)).symm)) (by (first | with_reducible exact natz _ | with_reducible exact natz0 | with_reducible exact natz1 | with_reducible exact natz2 | with_reducible exact natz3 | with_reducible exact natz4 | with_reducible exact natz8 | (apply natz_add; (· first | with_reducible exact natz _ | with_reducible exact natz0 | with_reducible exact natz1 | with_reducible exact natz2 | with_reducible exact natz3 | with_reducible exact natz4 | with_reducible exact natz8); (· first | with_reducible exact natz _ | with_reducible exact natz0 | with_reducible exact natz1 | with_reducible exact natz2 | with_reducible exact natz3 | with_reducible exact natz4 | with_reducible exact natz8)) | (apply natz_sub; (· first | with_reducible exact natz _ | with_reducible exact natz0 | with_reducible exact natz1 | with_reducible exact natz2 | with_reducible exact natz3 | with_reducible exact natz4 | with_reducible exact natz8); (· first | with_reducible exact natz _ | with_reducible exact natz0 | with_reducible exact natz1 | with_reducible exact natz2 | with_reducible exact natz3 | with_reducible exact natz4 | with_reducible exact natz8); (· omega)) | exact (Int.toNat_of_nonneg (by omega)).symm)) rfl rfl rfl rfl rfl rfl (by decide) (by omega) (by omega) rfl ?_; intro zzc) | (refine WL.makeRow (sz:=1) (by':=24) (zs:=[.slice none 0 0]) rfl rfl (by (first | with_reducible exact natz _ | with_reducible exact natz0 | with_reducible exact natz1 | with_reducible exact natz2 | with_reducible exact natz3 | with_reducible exact natz4 | with_reducible exact natz8 | (apply natz_add; (· first | with_reducible exact natz _ | with_reducible exact natz0 | with_reducible exact natz1 | with_reducible exact natz2 | with_reducible exact natz3 | with_reducible exact natz4 | with_reducible exact natz8); (· first | with_reducible exact natz _ | with_reducible exact natz0 | with_reducible exact natz1 | with_reducible exact natz2 | with_reducible exact natz3 | with_reducible exact natz4 | with_reducible exact natz8)) | (apply natz_sub; (· first | with_reducible exact natz _ | with_reducible exact natz0 | with_reducible exact natz1 | with_reducible exact natz2 | with_reducible exact natz3 | with_reducible exact natz4 | with_reducible exact natz8); (· first | with_reducible exact natz _ | with_reducible exact natz0 | with_reducible exact natz1 | with_reducible exact natz2 | with_reducible exact natz3 | with_reducible exact natz4 | with_reducible exact natz8); (· omega)) | exact (Int.toNat_of_nonneg (by omega)).symm)) (by (first | with_reducible exact natz _ | with_reducible exact natz0 | with_reducible exact natz1 | with_reducible exact natz2 | with_reducible exact natz3 | with_reducible exact natz4 | with_reducible exact natz8 | (apply natz_add; (· first | with_reducible exact natz _ | with_reducible exact natz0 | with_reducible exact natz1 | with_reducible exact natz2 | with_reducible exact natz3 | with_reducible exact natz4 | with_reducible exact natz8); (· first | with_reducible exact natz _ | with_reducible exact natz0 | with_reducible exact natz1 | with_reducible exact natz2 | with_reducible exact natz3 | with_reducible exact natz4 | with_reducible exact natz8)) | (apply natz_sub; (· first | with_reducible exact natz _ | with_reducible exact natz0 | with_reducible exact natz1 | with_reducible exact natz2 | with_reducible exact natz3 | with_reducible exact natz4 | with_reducible exact natz8); (· first | with_reducible exact natz _ | with_reducible exact natz0 | with_reducible exact natz1 | with_reducible exact natz2 | with_reducible exact natz3 | with_reducible exact natz4 | with_reducible exact natz8); (· omega)) | exact (Int.toNat_of_nonneg (by omega)).symm)) rfl rfl rfl rfl rfl rfl (by decide) (by omega) (by omega) rfl ?_; intro zzc) | (refine WL.add16 rfl rfl rfl (by omega) ?_) | ((refine iDraw ?_; (first | refine WC.drawAll rfl (by decide +kernel) ?_ | refine WC.draw 1 rfl (by decide +kernel) ?_ | refine WC.draw 2 rfl (by decide +kernel) ?_ | refine WC.draw 3 rfl (by decide +kernel) ?_ | refine WC.draw 4 rfl (by decide +kernel) ?_ | refine WC.draw 5 rfl (by decide +kernel) ?_ | refine WC.draw 6 rfl (by decide +kernel) ?_ | refine WC.draw 7 rfl (by decide +kernel) ?_ | refine WC.draw 8 rfl (by decide +kernel) ?_ | refine WC.draw 9 rfl (by decide +kernel) ?_ | refine WC.draw 10 rfl (by decide +kernel) ?_ | refine WC.draw 11 rfl (by decide +kernel) ?_ | refine WC.draw 12 rfl (by decide +kernel) ?_ | refine WC.draw 13 rfl (by decide +kernel) ?_ | refine WC.draw 14 rfl (by decide +kernel) ?_ | refine WC.draw 15 rfl (by decide +kernel) ?_ | refine WC.draw 16 rfl (by decide +kernel) ?_ | refine WC.draw 17 rfl (by decide +kernel) ?_ | refine WC.draw 18 rfl (by decide +kernel) ?_ | refine WC.draw 19 rfl (by decide +kernel) ?_ | refine WC.draw 20 rfl (by decide +kernel) ?_ | refine WC.draw 21 rfl (by decide +kernel) ?_ | refine WC.draw 22 rfl (by decide +kernel) ?_ | refine WC.draw 23 rfl (by decide +kernel) ?_ | refine WC.draw 24 rfl (by decide +kernel) ?_)); (repeat (refine WD.cons rfl (fun c h => by cases h) sq_D8_1 ?_)); refine WD.nil ?_)); (try (refine st ?_; (repeat intro zzc))))); (repeat ((first | (refine WL.makeRow (sz:=1) (by':=2) (zs:=[.int .i16 0]) rfl rfl (by (first | with_reducible exact natz _ | with_reducible exact natz0 | with_reducible exact natz1 | with_reducible exact natz2 | with_reducible exact natz3 | with_reducible exact natz4 | with_reducible exact natz8 | (apply natz_add; (· first | with_reducible exact natz _ | with_reducible exact natz0 | with_reducible exact natz1 | with_reducible exact natz2 | with_reducible exact natz3 | with_reducible exact natz4 | with_reducible exact natz8); (· first | with_reducible exact natz _ | with_reducible exact natz0 | with_reducible exact natz1 | with_reducible exact natz2 | with_reducible exact natz3 | with_reducible exact natz4 | with_reducible exact natz8)) | (apply natz_sub; (· first | with_reducible exact natz _ | with_reducible exact natz0 | with_reducible exact natz1 | with_reducible exact natz2 | with_reducible exact natz3 | with_reducible exact natz4 | with_reducible exact natz8); (· first | with_reducible exact natz _ | with_reducible exact natz0 | with_reducible exact natz1 | with_reducible exact natz2 | with_reducible exact natz3 | with_reducible exact natz4 | with_reducible exact natz8); (· omega)) | exact (Int.toNat_of_nonneg (by omega)).symm)) (by (first | with_reducible exact natz _ | with_reducible exact natz0 | with_reducible exact natz1 | with_reducible exact natz2 | with_reducible exact natz3 | with_reducible exact natz4 | with_reducible exact natz8 | (apply natz_add; (· first | with_reducible exact natz _ | with_reducible exact natz0 | with_reducible exact natz1 | with_reducible exact natz2 | with_reducible exact natz3 | with_reducible exact natz4 | with_reducible exact natz8); (· first | with_reducible exact natz _ | with_reducible exact natz0 | with_reducible exact natz1 | with_reducible exact natz2 | with_reducible exact natz3 | with_reducible exact natz4 | with_reducible exact natz8)) | (apply natz_sub; (· first | with_reducible exact natz _ | with_reducible exact natz0 | with_reducible exact natz1 | with_reducible exact natz2 | with_reducible exact natz3 | with_reducible exact natz4 | with_reducible exact natz8); (· first | with_reducible exact natz _ | with_reducible exact natz0 | with_reducible exact natz1 | with_reducible exact natz2 | with_reducible exact natz3 | with_reducible exact natz4 | with_reducible exact natz8); (· omega)) | exact (Int.toNat_of_nonneg (by omega)).symm)) rfl rfl rfl rfl rfl rfl (by decide) (by omega) (by omega) rfl ?_; intro zzc) | (refine WL.makeRow (sz:=1) (by':=24) (zs:=[.slice none 0 0]) rfl rfl (by (first | with_reducible exact natz _ | with_reducible exact natz0 | with_reducible exact natz1 | with_reducible exact natz2 | with_reducible exact natz3 | with_reducible exact natz4 | with_reducible exact natz8 | (apply natz_add; (· first | with_reducible exact natz _ | with_reducible exact natz0 | with_reducible exact natz1 | with_reducible exact natz2 | with_reducible exact natz3 | with_reducible exact natz4 | with_reducible exact natz8); (· first | with_reducible exact natz _ | with_reducible exact natz0 | with_reducible exact natz1 | with_reducible exact natz2 | with_reducible exact natz3 | with_reducible exact natz4 | with_reducible exact natz8)) | (apply natz_sub; (· first | with_reducible exact natz _ | with_reducible exact natz0 | with_reducible exact natz1 | with_reducible exact natz2 | with_reducible exact natz3 | with_reducible exact natz4 | with_reducible exact natz8); (· first | with_reducible exact natz _ | with_reducible exact natz0 | with_reducible exact natz1 | with_reducible exact natz2 | with_reducible exact natz3 | with_reducible exact natz4 | with_reducible exact natz8); (· omega)) | exact (Int.toNat_of_nonneg (by omega)).symm)) (by (first | with_reducible exact natz _ | with_reducible exact natz0 | with_reducible exact natz1 | with_reducible exact natz2 | with_reducible exact natz3 | with_reducible exact natz4 | with_reducible exact natz8 | (apply natz_add; (· first | with_reducible exact natz _ | with_reducible exact natz0 | with_reducible exact natz1 | with_reducible exact natz2 | with_reducible exact natz3 | with_reducible exact natz4 | with_reducible exact natz8); (· first | with_reducible exact natz _ | with_reducible exact natz0 | with_reducible exact natz1 | with_reducible exact natz2 | with_reducible exact natz3 | with_reducible exact natz4 | with_reducible exact natz8)) | (apply natz_sub; (· first | with_reducible exact natz _ | with_reducible exact natz0 | with_reducible exact natz1 | with_reducible exact natz2 | with_reducible exact natz3 | with_reducible exact natz4 | with_reducible exact natz8); (· first | with_reducible exact natz _ | with_reducible exact natz0 | with_reducible exact natz1 | with_reducible exact natz2 | with_reducible exact natz3 | with_reducible exact natz4 | with_reducible exact natz8); (· omega)) | exact (Int.toNat_of_nonneg (by omega)).symm)) rfl rfl rfl rfl rfl rfl (by decide) (by omega) (by omega) rfl ?_; intro zzc) | (refine WL.add16 rfl rfl rfl (by omega) ?_) | ((refine iDraw ?_; (first | refine WC.drawAll rfl (by decide +kernel) ?_ | refine WC.draw 1 rfl (by decide +kernel) ?_ | refine WC.draw 2 rfl (by decide +kernel) ?_ | refine WC.draw 3 rfl (by decide +kernel) ?_ | refine WC.draw 4 rfl (by decide +kernel) ?_ | refine WC.draw 5 rfl (by decide +kernel) ?_ | refine WC.draw 6 rfl (by decide +kernel) ?_ | refine WC.draw 7 rfl (by decide +kernel) ?_ | refine WC.draw 8 rfl (by decide +kernel) ?_ | refine WC.draw 9 rfl (by decide +kernel) ?_ | refine WC.draw 10 rfl (by decide +kernel) ?_ | refine WC.draw 11 rfl (by decide +kernel) ?_ | refine WC.draw 12 rfl (by decide +kernel) ?_ | refine WC.draw 13 rfl (by decide +kernel) ?_ | refine WC.draw 14 rfl (by decide +kernel) ?_ | refine WC.draw 15 rfl (by decide +kernel) ?_ | refine WC.draw 16 rfl (by decide +kernel) ?_ | refine WC.draw 17 rfl (by decide +kernel) ?_ | refine WC.draw 18 rfl (by decide +kernel) ?_ | refine WC.draw 19 rfl (by decide +kernel) ?_ | refine WC.draw 20 rfl (by decide +kernel) ?_ | refine WC.draw 21 rfl (by decide +kernel) ?_ | refine WC.draw 22 rfl (by decide +kernel) ?_ | refine WC.draw 23 rfl (by decide +kernel) ?_ | refine WC.draw 24 rfl (by decide +kernel) ?_)); (repeat (refine WD.cons rfl (fun c h => by cases h) sq_D8_1 ?_)); refine WD.nil ?_)); (try (refine st ?_; (repeat intro zzc))))); (repeat revert zzc); exact zzn.out) : G := h ⟨next⟩
theorem mid_row {A B : List Tx} {aa ab : Option Addr} {ca cb k0 i' q bi b1 bo : Nat} {x : Tx} {E : List (List Value)} {w0 : World} {m : Mem} {Y : SHeap} {Q : Exit → Act → World → Prop} (hA : A.length ≤ 1024) (hB : B.length ≤ 1024) (hx : A[i']? = some x) (hq : A.length + 1 = q)
    (hEl : E.length = q) (hE0 : E[i']? = some [Value.slice (some ⟨bi, 0, none⟩) (B.length + 1) (B.length + 1)]) (hE1 : E[i' + 1]? = some [Value.slice (some ⟨b1, 0, none⟩) (B.length + 1) (B.length + 1)])
    (hr1 : RowR w0 m Y 1 (some ⟨b1, 0, none⟩) (rowP A B (i' + 1) 0)) (hra : RowR w0 m Y 1 aa (strs A)) (hrb : RowR w0 m Y 1 ab (strs B))
    (hK : WQ 163 w0 Q (.exit 4) [(9, .int .i64 (i' : Int)), (7, .slice (some ⟨bo, 0, none⟩) q q), (0, .slice aa A.length ca), (1, .slice ab B.length cb), (2, .int .i64 (k0 : Int))] [] m (.row (some ⟨bi, 0, none⟩) (B.length + 1) 137 1 (rowP A B i' 0) :: .row (some ⟨bo, 0, none⟩) q 136 1 E :: Y)) :
    WC Try.prog none 163 w0 ((loopsIn (Try.f44.body.getD .skip)).getD 2 .skip) Q [(10, .int .i64 ((B.length : Int) - 1)), (9, .int .i64 (i' : Int)), (7, .slice (some ⟨bo, 0, none⟩) q q), (0, .slice aa A.length ca), (1, .slice ab B.length cb), (2, .int .i64 (k0 : Int))] [] m
      (.row (some ⟨bi, 0, none⟩) (B.length + 1) 137 1 (rowP A B i' B.length) :: .row (some ⟨bo, 0, none⟩) q 136 1 E :: Y) := by
  have hxd := drop_get hx
  have hxi := (List.getElem?_eq_some_iff.1 hx).1
  have hgx : (strs A)[i']? = some [str x] := by unfold strs; rw [List.getElem?_map, hx]; rfl
  have hal : (strs A).length = A.length := by simp [strs]
  have hbl2 : (strs B).length = B.length := by simp [strs]
  refine WC.loopH [(10, .int .i64 (((B.length) : Int) - 1)), (9, .int .i64 (i' : Int)), (7, .slice (some ⟨bo, 0, none⟩) q q), (0, .slice aa A.length ca), (1, .slice ab B.length cb), (2, .int .i64 (k0 : Int))] ?_ ?_ (fun j r ds m' H' => ∃ k, j = 2 * k ∧ r = [(10, .int .i64 ((k : Int) - 1)), (9, .int .i64 (i' : Int)), (7, .slice (some ⟨bo, 0, none⟩) q q), (0, .slice aa A.length ca), (1, .slice ab B.length cb), (2, .int .i64 (k0 : Int))] ∧ ds = [] ∧ m = m' ∧ H' = .row (some ⟨bi, 0, none⟩) (B.length + 1) 137 1 (rowP A B i' k) :: .row (some ⟨bo, 0, none⟩) q 136 1 E :: Y ∧ (k ≤ B.length)) (2 * (B.length)) ⟨B.length, rfl, rfl, rfl, rfl, rfl, by omega⟩ ?_
  · (repeat (first | exact Env.Sub.nil | refine Env.Sub.cons rfl ?_))
  · exact zpk
  rintro j r ds m' H' ⟨k, rfl, rfl, rfl, rfl, rfl, hk⟩
  by_cases hkz : k = 0
  · subst hkz
    (try (refine st_D8_1 ?_; intros))
    exact WQ.weak zsb zpk hK
  · obtain ⟨k', rfl⟩ : ∃ k', k = k' + 1 := ⟨k - 1, by omega⟩
    rw [show ((k' + 1 : Nat) : Int) - 1 = (k' : Int) by omega]
    obtain ⟨y, hy⟩ : ∃ y, B[k']? = some y := ⟨_, List.getElem?_eq_getElem (by omega : k' < B.length)⟩
    have hyd := drop_get hy
    have hgy : (strs B)[k']? = some [str y] := by unfold strs; rw [List.getElem?_map, hy]; rfl
    have hq0 := rowP_get (A := A) (B := B) (i := i') (k := k' + 1) (j := k' + 1) (by omega)
    have hq1 := rowP_get (A := A) (B := B) (i := i' + 1) (k := 0) (j := k') (by omega)
    have hq2 := rowP_get (A := A) (B := B) (i := i' + 1) (k := 0) (j := k' + 1) (by omega)
    rw [cut16_ge (Nat.le_refl _)] at hq0
    rw [cut16_ge (Nat.zero_le _)] at hq1 hq2
    have hst : ∀ v : Int, v = (lcs (A.drop i') (B.drop k') : Int) → (rowP A B i' (k' + 1)).set k' [.int .i16 v] = rowP A B i' k' := fun v hv => rowP_set hv
    have hP0 := rowP_length A B i' (k' + 1)
    have hP1 := rowP_length A B (i' + 1) 0
    have hl0 := (lcs_le (A.drop i') (B.drop (k' + 1))).2
    have hl1 := (lcs_le (A.drop (i' + 1)) (B.drop k')).2
    have hl2 := (lcs_le (A.drop (i' + 1)) (B.drop (k' + 1))).2
    rw [List.length_drop] at hl0 hl1 hl2
    rw [hxd, hyd] at hst
    rw [hyd] at hq1 hl1
    rw [hxd] at hq0 hl0
    have hmx : ¬ x = y → max (lcs (A.drop (i' + 1)) (y :: B.drop (k' + 1)) : Int) (lcs (x :: A.drop (i' + 1)) (B.drop (k' + 1)) : Int) = (lcs (x :: A.drop (i' + 1)) (y :: B.drop (k' + 1)) : Int) := fun h => by rw [lcs_ne h]; omega
    have heq : x = y → (lcs (A.drop (i' + 1)) (B.drop (k' + 1)) : Int) + 1 = (lcs (x :: A.drop (i' + 1)) (y :: B.drop (k' + 1)) : Int) := fun h => by rw [h, lcs_eq]; omega
    generalize lcs (x :: A.drop (i' + 1)) (B.drop (k' + 1)) = n0 at *
    generalize lcs (A.drop (i' + 1)) (y :: B.drop (k' + 1)) = n1 at *
    generalize lcs (A.drop (i' + 1)) (B.drop (k' + 1)) = n2 at *
    generalize hP0e : rowP A B i' (k' + 1) = P0 at *
    generalize rowP A B (i' + 1) 0 = P1 at *
    have hr1' : RowR w0 m (.row (some ⟨bi, 0, none⟩) (B.length + 1) 137 1 P0 :: .row (some ⟨bo, 0, none⟩) q 136 1 E :: Y) 1 (some ⟨b1, 0, none⟩) P1 := hr1.more.more
    have hra' : RowR w0 m (.row (some ⟨bi, 0, none⟩) (B.length + 1) 137 1 P0 :: .row (some ⟨bo, 0, none⟩) q 136 1 E :: Y) 1 aa (strs A) := hra.more.more
    have hrb' : RowR w0 m (.row (some ⟨bi, 0, none⟩) (B.length + 1) 137 1 P0 :: .row (some ⟨bo, 0, none⟩) q 136 1 E :: Y) 1 ab (strs B) := hrb.more.more
    generalize strs A = SA at *
    generalize strs B = SB at *
    refine WC.rSome hra' (by omega) ?_
    rintro a0 rfl
    refine WC.rSome hrb' (by omega) ?_
    rintro b0 rfl
    by_cases hxy : x = y
    · (try (refine st_D8_1 ?_; intros))
      rw [hst _ (heq hxy)]
      refine WQ.next (2 * (k')) ⟨k', rfl, rfl, rfl, rfl, rfl, ?_⟩ (by omega) zsb zpk
      · omega
    · (try (refine st_D8_1 ?_; intros))
      rw [hst _ (hmx hxy)]
      refine WQ.next (2 * (k')) ⟨k', rfl, rfl, rfl, rfl, rfl, ?_⟩ (by omega) zsb zpk
      · omega
end Go.Proofs.Ytieangfnjflfmaa

/-
  The walk of draft.middle: the search for a pair. No condition.
-/
namespace Go.Eng
open Go
theorem firstJ_cons {x y : Tx} {xs ys : List Tx} {n : Nat} : firstJ x xs n (y :: ys) = if x = y ∧ lcs xs ys + 1 = n then some 0 else (firstJ x xs n ys).map (· + 1) := rfl
theorem map_shift {o : Option Nat} {a b c : Nat} (h : a + b = c) : (o.map (· + a)).map (· + b) = o.map (· + c) := by
  cases o with
  | none => rfl
  | some v => simp only [Option.map_some]; congr 1; omega
end Go.Eng
namespace Go.Proofs.Ytieangfnjflfmaa
open Go Go.Eng
set_option maxRecDepth 100000
set_option maxHeartbeats 4000000
set_option linter.all false
attribute [local irreducible] WL WC WQ QFun QLoop Does Q1 QRound QAssign Go.Addr.add
attribute [local irreducible] midL firstJ rowP outE tabL strs
theorem sq_D8b_1 {G : Prop} (h : G := by (repeat (first | (refine sp ?_; (repeat intro zzc)) | (refine WL.add16 rfl rfl rfl (by omega) ?_))); exact WQ.q1 rfl) : G := h
theorem st_D8b_1 {G G' : Prop} (next : G') (h : Bx G' → G := by intro zzn; (first | ((refine st ?_; (repeat intro zzc)); (try ((first | (refine WL.add16 rfl rfl rfl (by omega) ?_) | ((refine iDraw ?_; (first | refine WC.drawAll rfl (by decide +kernel) ?_ | refine WC.draw 1 rfl (by decide +kernel) ?_ | refine WC.draw 2 rfl (by decide +kernel) ?_ | refine WC.draw 3 rfl (by decide +kernel) ?_ | refine WC.draw 4 rfl (by decide +kernel) ?_ | refine WC.draw 5 rfl (by decide +kernel) ?_ | refine WC.draw 6 rfl (by decide +kernel) ?_ | refine WC.draw 7 rfl (by decide +kernel) ?_ | refine WC.draw 8 rfl (by decide +kernel) ?_ | refine WC.draw 9 rfl (by decide +kernel) ?_ | refine WC.draw 10 rfl (by decide +kernel) ?_ | refine WC.draw 11 rfl (by decide +kernel) ?_ | refine WC.draw 12 rfl (by decide +kernel) ?_ | refine WC.draw 13 rfl (by decide +kernel) ?_ | refine WC.draw 14 rfl (by decide +kernel) ?_ | refine WC.draw 15 rfl (by decide +kernel) ?_ | refine WC.draw 16 rfl (by decide +kernel) ?_ | refine WC.draw 17 rfl (by decide +kernel) ?_ | refine WC.draw 18 rfl (by decide +kernel) ?_ | refine WC.draw 19 rfl (by decide +kernel) ?_ | refine WC.draw 20 rfl (by decide +kernel) ?_ | refine WC.draw 21 rfl (by decide +kernel) ?_ | refine WC.draw 22 rfl (by decide +kernel) ?_ | refine WC.draw 23 rfl (by decide +kernel) ?_ | refine WC.draw 24 rfl (by decide +kernel) ?_)); (repeat (refine WD.cons rfl (fun c h => by cases h) sq_D8b_1 ?_)); refine WD.nil ?_)); (try (refine st ?_; (repeat intro zzc)))))) | ((first | (refine WL.add16 rfl rfl rfl (by omega) ?_) | ((refine iDraw ?_; (first | refine WC.drawAll rfl (by decide +kernel) ?_ | refine WC.draw 1 rfl (by decide +kernel) ?_ | refine WC.draw 2 rfl (by decide +kernel) ?_ | refine WC.draw 3 rfl (by decide +kernel) ?_ | refine WC.draw 4 rfl (by decide +kernel) ?_ | refine WC.draw 5 rfl (by decide +kernel) ?_ | refine WC.draw 6 rfl (by decide +kernel) ?_ | refine WC.draw 7 rfl (by decide +kernel) ?_ | refine WC.draw 8 rfl (by decide +kernel) ?_ | refine WC.draw 9 rfl (by decide +kernel) ?_ | refine WC.draw 10 rfl (by decide +kernel) ?_ | refine WC.draw 11 rfl (by decide +kernel) ?_ | refine WC.draw 12 rfl (by decide +kernel) ?_ | refine WC.draw 13 rfl (by decide +kernel) ?_ | refine WC.draw 14 rfl (by decide +kernel) ?_ | refine WC.draw 15 rfl (by decide +kernel) ?_ | refine WC.draw 16 rfl (by decide +kernel) ?_ | refine WC.draw 17 rfl (by decide +kernel) ?_ | refine WC.draw 18 rfl (by decide +kernel) ?_ | refine WC.draw 19 rfl (by decide +kernel) ?_ | refine WC.draw 20 rfl (by decide +kernel) ?_ | refine WC.draw 21 rfl (by decide +kernel) ?_ | refine WC.draw 22 rfl (by decide +kernel) ?_ | refine WC.draw 23 rfl (by decide +kernel) ?_ | refine WC.draw 24 rfl (by decide +kernel) ?_)); (repeat (refine WD.cons rfl (fun c h => by cases h) sq_D8b_1 ?_)); refine WD.nil ?_)); (try (refine st ?_; (repeat intro zzc))))); (repeat ((first | (refine WL.add16 rfl rfl rfl (by omega) ?_) | ((refine iDraw ?_; (first | refine WC.drawAll rfl (by decide +kernel) ?_ | refine WC.draw 1 rfl (by decide +kernel) ?_ | refine WC.draw 2 rfl (by decide +kernel) ?_ | refine WC.draw 3 rfl (by decide +kernel) ?_ | refine WC.draw 4 rfl (by decide +kernel) ?_ | refine WC.draw 5 rfl (by decide +kernel) ?_ | refine WC.draw 6 rfl (by decide +kernel) ?_ | refine WC.draw 7 rfl (by decide +kernel) ?_ | refine WC.draw 8 rfl (by decide +kernel) ?_ | refine WC.draw 9 rfl (by decide +kernel) ?_ | refine WC.draw 10 rfl (by decide +kernel) ?_ | refine WC.draw 11 rfl (by decide +kernel) ?_ | refine WC.draw 12 rfl (by decide +kernel) ?_ | refine WC.draw 13 rfl (by decide +kernel) ?_ | refine WC.draw 14 rfl (by decide +kernel) ?_ | refine WC.draw 15 rfl (by decide +kernel) ?_ | refine WC.draw 16 rfl (by decide +kernel) ?_ | refine WC.draw 17 rfl (by decide +kernel) ?_ | refine WC.draw 18 rfl (by decide +kernel) ?_ | refine WC.draw 19 rfl (by decide +kernel) ?_ | refine WC.draw 20 rfl (by decide +kernel) ?_ | refine WC.draw 21 rfl (by decide +kernel) ?_ | refine WC.draw 22 rfl (by decide +kernel) ?_ | refine WC.draw 23 rfl (by decide +kernel) ?_ | refine WC.draw 24 rfl (by decide +kernel) ?_)); (repeat (refine WD.cons rfl (fun c h => by cases h) sq_D8b_1 ?_)); refine WD.nil ?_)); (try (refine st ?_; (repeat intro zzc))))); (repeat revert zzc); exact zzn.out) : G := h ⟨next⟩
theorem mid_find {A B : List Tx} {aa ab a : Option Addr} {ca cb cp k0 i k q bi b1 bo : Nat} {x : Tx} {E : List (List Value)} {L : List (Nat × Nat)} {w0 : World} {m : Mem} {Y : SHeap} {Q : Exit → Act → World → Prop} (hA : A.length ≤ 1024) (hB : B.length ≤ 1024) (hk0 : k0 ≤ 4194304) (hx : A[i]? = some x) (hk : k ≤ B.length) (hLl : L.length ≤ 1024) (hq : A.length + 1 = q)
    (hEl : E.length = q) (hE0 : E[i]? = some [Value.slice (some ⟨bi, 0, none⟩) (B.length + 1) (B.length + 1)]) (hE1 : E[i + 1]? = some [Value.slice (some ⟨b1, 0, none⟩) (B.length + 1) (B.length + 1)])
    (hr0 : RowR w0 m Y 1 (some ⟨bi, 0, none⟩) (rowP A B i 0)) (hr1 : RowR w0 m Y 1 (some ⟨b1, 0, none⟩) (rowP A B (i + 1) 0)) (hra : RowR w0 m Y 1 aa (strs A)) (hrb : RowR w0 m Y 1 ab (strs B))
    (hno : firstJ x (A.drop (i + 1)) (lcs (A.drop i) (B.drop k)) (B.drop k) = none → WQ 163 w0 Q (.exit 8) [(14, .int .i64 (i : Int)), (13, .int .i64 (k : Int)), (12, .slice a L.length cp), (110, .int .i64 (i : Int)), (109, .int .i64 (A.length : Int)), (7, .slice (some ⟨bo, 0, none⟩) q q), (0, .slice aa A.length ca), (1, .slice ab B.length cb), (2, .int .i64 (k0 : Int))] [] m (.row a cp 44 2 (L.map prE) :: .row (some ⟨bo, 0, none⟩) q 136 1 E :: Y))
    (hyes : ∀ (p : Nat) (a2 : Option Addr) (cp2 : Nat), k ≤ p → p < B.length → firstJ x (A.drop (i + 1)) (lcs (A.drop i) (B.drop k)) (B.drop k) = some (p - k) → WQ 163 w0 Q (.exit 7) [(13, .int .i64 ((p : Int) + 1)), (12, .slice a2 (L.length + 1) cp2), (110, .int .i64 (i : Int)), (109, .int .i64 (A.length : Int)), (7, .slice (some ⟨bo, 0, none⟩) q q), (0, .slice aa A.length ca), (1, .slice ab B.length cb), (2, .int .i64 (k0 : Int))] [] m (.row a2 cp2 44 2 (L.map prE ++ [[.int .i64 ((k0 : Int) + i), .int .i64 ((k0 : Int) + p)]]) :: .row (some ⟨bo, 0, none⟩) q 136 1 E :: Y)) :
    WC Try.prog none 163 w0 ((loopsIn (Try.f44.body.getD .skip)).getD 4 .skip) Q [(15, .int .i64 (k : Int)), (14, .int .i64 (i : Int)), (13, .int .i64 (k : Int)), (12, .slice a L.length cp), (110, .int .i64 (i : Int)), (109, .int .i64 (A.length : Int)), (7, .slice (some ⟨bo, 0, none⟩) q q), (0, .slice aa A.length ca), (1, .slice ab B.length cb), (2, .int .i64 (k0 : Int))] [] m
      (.row a cp 44 2 (L.map prE) :: .row (some ⟨bo, 0, none⟩) q 136 1 E :: Y) := by
  have hxi := (List.getElem?_eq_some_iff.1 hx).1
  have hgx : (strs A)[i]? = some [str x] := by unfold strs; rw [List.getElem?_map, hx]; rfl
  have hal : (strs A).length = A.length := by simp [strs]
  have hbl2 : (strs B).length = B.length := by simp [strs]
  have hLm : (L.map prE).length = L.length := List.length_map _
  have hn1 := rowP_get (A := A) (B := B) (i := i) (k := 0) (j := k) (by omega)
  rw [cut16_ge (Nat.zero_le _)] at hn1
  have hnl := (lcs_le (A.drop i) (B.drop k)).2
  rw [List.length_drop] at hnl
  have hP0 := rowP_length A B i 0
  have hP1 := rowP_length A B (i + 1) 0
  have hqs : ∀ p, p + 1 ≤ B.length → (rowP A B (i + 1) 0)[p + 1]? = some [.int .i16 (lcs (A.drop (i + 1)) (B.drop (p + 1)) : Int)] := fun p hp => by
    rw [rowP_get hp, cut16_ge (Nat.zero_le _)]
  generalize rowP A B (i + 1) 0 = P1 at *
  generalize rowP A B i 0 = P0 at *
  have hr0' : RowR w0 m (.row a cp 44 2 (L.map prE) :: .row (some ⟨bo, 0, none⟩) q 136 1 E :: Y) 1 (some ⟨bi, 0, none⟩) P0 := hr0.more.more
  have hr1' : RowR w0 m (.row a cp 44 2 (L.map prE) :: .row (some ⟨bo, 0, none⟩) q 136 1 E :: Y) 1 (some ⟨b1, 0, none⟩) P1 := hr1.more.more
  have hra' : RowR w0 m (.row a cp 44 2 (L.map prE) :: .row (some ⟨bo, 0, none⟩) q 136 1 E :: Y) 1 aa (strs A) := hra.more.more
  have hrb' : RowR w0 m (.row a cp 44 2 (L.map prE) :: .row (some ⟨bo, 0, none⟩) q 136 1 E :: Y) 1 ab (strs B) := hrb.more.more
  have hgys : ∀ p y, B[p]? = some y → (strs B)[p]? = some [str y] := fun p y h => by unfold strs; rw [List.getElem?_map, h]; rfl
  generalize strs A = SA at *
  generalize strs B = SB at *
  generalize L.map prE = LE at *
  generalize hn : lcs (A.drop i) (B.drop k) = n at *
  refine WC.rSome hra' (by omega) ?_
  rintro a0 rfl
  refine WC.loopH [(15, .int .i64 ((k) : Int)), (14, .int .i64 (i : Int)), (13, .int .i64 (k : Int)), (12, .slice a L.length cp), (110, .int .i64 (i : Int)), (109, .int .i64 (A.length : Int)), (7, .slice (some ⟨bo, 0, none⟩) q q), (0, .slice (some a0) A.length ca), (1, .slice ab B.length cb), (2, .int .i64 (k0 : Int))] ?_ ?_ (fun j r ds m' H' => ∃ p, j = B.length - p ∧ r = [(15, .int .i64 (p : Int)), (14, .int .i64 (i : Int)), (13, .int .i64 (k : Int)), (12, .slice a L.length cp), (110, .int .i64 (i : Int)), (109, .int .i64 (A.length : Int)), (7, .slice (some ⟨bo, 0, none⟩) q q), (0, .slice (some a0) A.length ca), (1, .slice ab B.length cb), (2, .int .i64 (k0 : Int))] ∧ ds = [] ∧ m = m' ∧ H' = .row a cp 44 2 LE :: .row (some ⟨bo, 0, none⟩) q 136 1 E :: Y ∧ (k ≤ p) ∧ (p ≤ B.length) ∧ (firstJ x (A.drop (i + 1)) n (B.drop k) = (firstJ x (A.drop (i + 1)) n (B.drop p)).map (· + (p - k)))) (B.length - (k)) ⟨k, rfl, rfl, rfl, rfl, rfl, by omega, by omega, by rw [Nat.sub_self]; cases firstJ x (A.drop (i + 1)) n (B.drop k) <;> rfl⟩ ?_
  · (repeat (first | exact Env.Sub.nil | refine Env.Sub.cons rfl ?_))
  · exact zpk
  rintro j r ds m' H' ⟨p, rfl, rfl, rfl, rfl, rfl, hkp, hpB, hf⟩
  by_cases hlt : p < B.length
  · obtain ⟨y, hy⟩ : ∃ y, B[p]? = some y := ⟨_, List.getElem?_eq_getElem hlt⟩
    have hyd := drop_get hy
    have hgy := hgys p y hy
    have hq1 := hqs p (by omega)
    rw [hyd, firstJ_cons] at hf
    have hl1 := (lcs_le (A.drop (i + 1)) (B.drop (p + 1))).2
    rw [List.length_drop] at hl1
    generalize hv : lcs (A.drop (i + 1)) (B.drop (p + 1)) = v at *
    refine WC.rSome hrb' (by omega) ?_
    rintro b0 rfl
    by_cases hxy : x = y
    · by_cases hvn : v + 1 = n
      · rw [if_pos ⟨hxy, hvn⟩] at hf
        have hfin := fun a2 cp2 => hyes p a2 cp2 hkp hlt (by rw [hf]; simp)
        have hvn' : (v : Int) + 1 = (n : Int) := by omega
        (refine st_D8b_1 ?_; intros; rename_i a9 a2 cp2)
        rw [hLm]
        exact WQ.weak zsb zpk (hfin _ _)
      · rw [if_neg (fun h => hvn h.2), map_shift (c := p + 1 - k) (by omega)] at hf
        have hvn' : ¬ (v : Int) + 1 = (n : Int) := by omega
        (try (refine st_D8b_1 ?_; intros))
        refine WQ.next (B.length - (p + 1)) ⟨p + 1, rfl, rfl, rfl, rfl, rfl, ?_, ?_, ?_⟩ (by omega) zsb zpk
        · omega
        · omega
        · exact hf
    · rw [if_neg (fun h => hxy h.1), map_shift (c := p + 1 - k) (by omega)] at hf
      (try (refine st_D8b_1 ?_; intros))
      refine WQ.next (B.length - (p + 1)) ⟨p + 1, rfl, rfl, rfl, rfl, rfl, ?_, ?_, ?_⟩ (by omega) zsb zpk
      · omega
      · omega
      · exact hf
  · have hBp : B.drop p = [] := List.drop_of_length_le (by omega)
    rw [hBp] at hf
    have hf0 : firstJ x (A.drop (i + 1)) n (B.drop k) = none := by rw [hf]; unfold firstJ; rfl
    (try (refine st_D8b_1 ?_; intros))
    exact WQ.weak zsb zpk (hno hf0)
end Go.Proofs.Ytieangfnjflfmaa

/-
  The walk of draft.middle. No condition.
-/
namespace Go.Proofs.Ytieangfnjflfmaa
open Go Go.Eng
set_option maxRecDepth 100000
set_option maxHeartbeats 4000000
set_option linter.all false
attribute [local irreducible] WL WC WQ QFun QLoop Does Q1 QRound QAssign Go.Addr.add
attribute [local irreducible] midL firstJ rowP outE tabL strs
theorem sq_D9_1 {G : Prop} (h : G := by (repeat (first | (refine sp ?_; (repeat intro zzc)) | (refine WL.makeRow (sz:=1) (by':=2) (zs:=[.int .i16 0]) rfl rfl (by (first | with_reducible exact natz _ | with_reducible exact natz0 | with_reducible exact natz1 | with_reducible exact natz2 | with_reducible exact natz3 | with_reducible exact natz4 | with_reducible exact natz8 | (apply natz_add; (· first | with_reducible exact natz _ | with_reducible exact natz0 | with_reducible exact natz1 | with_reducible exact natz2 | with_reducible exact natz3 | with_reducible exact natz4 | with_reducible exact natz8); (· first | with_reducible exact natz _ | with_reducible exact natz0 | with_reducible exact natz1 | with_reducible exact natz2 | with_reducible exact natz3 | with_reducible exact natz4 | with_reducible exact natz8)) | (apply natz_sub; (· first | with_reducible exact natz _ | with_reducible exact natz0 | with_reducible exact natz1 | with_reducible exact natz2 | with_reducible exact natz3 | with_reducible exact natz4 | with_reducible exact natz8); (· first | with_reducible exact natz _ | with_reducible exact natz0 | with_reducible exact natz1 | with_reducible exact natz2 | with_reducible exact natz3 | with_reducible exact natz4 | with_reducible exact natz8); (· omega)) | exact (Int.toNat_of_nonneg (by omega)).symm)) (by (first | with_reducible exact natz _ | with_reducible exact natz0 | with_reducible exact natz1 | with_reducible exact natz2 | with_reducible exact natz3 | with_reducible exact natz4 | with_reducible exact natz8 | (apply natz_add; (· first | with_reducible exact natz _ | with_reducible exact natz0 | with_reducible exact natz1 | with_reducible exact natz2 | with_reducible exact natz3 | with_reducible exact natz4 | with_reducible exact natz8); (· first | with_reducible exact natz _ | with_reducible exact natz0 | with_reducible exact natz1 | with_reducible exact natz2 | with_reducible exact natz3 | with_reducible exact natz4 | with_reducible exact natz8)) | (apply natz_sub; (· first | with_reducible exact natz _ | with_reducible exact natz0 | with_reducible exact natz1 | with_reducible exact natz2 | with_reducible exact natz3 | with_reducible exact natz4 | with_reducible exact natz8); (· first | with_reducible exact natz _ | with_reducible exact natz0 | with_reducible exact natz1 | with_reducible exact natz2 | with_reducible exact natz3 | with_reducible exact natz4 | with_reducible exact natz8); (· omega)) | exact (Int.toNat_of_nonneg (by omega)).symm)) rfl rfl rfl rfl rfl rfl (by decide) (by omega) (by omega) rfl ?_; intro zzc) | (refine WL.makeRow (sz:=1) (by':=24) (zs:=[.slice none 0 0]) rfl rfl (by (first | with_reducible exact natz _ | with_reducible exact natz0 | with_reducible exact natz1 | with_reducible exact natz2 | with_reducible exact natz3 | with_reducible exact natz4 | with_reducible exact natz8 | (apply natz_add; (· first | with_reducible exact natz _ | with_reducible exact natz0 | with_reducible exact natz1 | with_reducible exact natz2 | with_reducible exact natz3 | with_reducible exact natz4 | with_reducible exact natz8); (· first | with_reducible exact natz _ | with_reducible exact natz0 | with_reducible exact natz1 | with_reducible exact natz2 | with_reducible exact natz3 | with_reducible exact natz4 | with_reducible exact natz8)) | (apply natz_sub; (· first | with_reducible exact natz _ | with_reducible exact natz0 | with_reducible exact natz1 | with_reducible exact natz2 | with_reducible exact natz3 | with_reducible exact natz4 | with_reducible exact natz8); (· first | with_reducible exact natz _ | with_reducible exact natz0 | with_reducible exact natz1 | with_reducible exact natz2 | with_reducible exact natz3 | with_reducible exact natz4 | with_reducible exact natz8); (· omega)) | exact (Int.toNat_of_nonneg (by omega)).symm)) (by (first | with_reducible exact natz _ | with_reducible exact natz0 | with_reducible exact natz1 | with_reducible exact natz2 | with_reducible exact natz3 | with_reducible exact natz4 | with_reducible exact natz8 | (apply natz_add; (· first | with_reducible exact natz _ | with_reducible exact natz0 | with_reducible exact natz1 | with_reducible exact natz2 | with_reducible exact natz3 | with_reducible exact natz4 | with_reducible exact natz8); (· first | with_reducible exact natz _ | with_reducible exact natz0 | with_reducible exact natz1 | with_reducible exact natz2 | with_reducible exact natz3 | with_reducible exact natz4 | with_reducible exact natz8)) | (apply natz_sub; (· first | with_reducible exact natz _ | with_reducible exact natz0 | with_reducible exact natz1 | with_reducible exact natz2 | with_reducible exact natz3 | with_reducible exact natz4 | with_reducible exact natz8); (· first | with_reducible exact natz _ | with_reducible exact natz0 | with_reducible exact natz1 | with_reducible exact natz2 | with_reducible exact natz3 | with_reducible exact natz4 | with_reducible exact natz8); (· omega)) | exact (Int.toNat_of_nonneg (by omega)).symm)) rfl rfl rfl rfl rfl rfl (by decide) (by omega) (by omega) rfl ?_; intro zzc) | (refine WL.add16 rfl rfl rfl (by omega) ?_))); exact WQ.q1 rfl) : G := h
theorem st_D9_1 {G G' : Prop} (next : G') (h : Bx G' → G := by intro zzn; (first | ((refine st ?_; (repeat intro zzc)); (try ((first | (refine WL.makeRow (sz:=1) (by':=2) (zs:=[.int .i16 0]) rfl rfl (by (first | with_reducible exact natz _ | with_reducible exact natz0 | with_reducible exact natz1 | with_reducible exact natz2 | with_reducible exact natz3 | with_reducible exact natz4 | with_reducible exact natz8 | (apply natz_add; (· first | with_reducible exact natz _ | with_reducible exact natz0 | with_reducible exact natz1 | with_reducible exact natz2 | with_reducible exact natz3 | with_reducible exact natz4 | with_reducible exact natz8); (· first | with_reducible exact natz _ | with_reducible exact natz0 | with_reducible exact natz1 | with_reducible exact natz2 | with_reducible exact natz3 | with_reducible exact natz4 | with_reducible exact natz8)) | (apply natz_sub; (· first | with_reducible exact natz _ | with_reducible exact natz0 | with_reducible exact natz1 | with_reducible exact natz2 | with_reducible exact natz3 | with_reducible exact natz4 | with_reducible exact natz8); (· first | with_reducible exact natz _ | with_reducible exact natz0 | with_reducible exact natz1 | with_reducible exact natz2 | with_reducible exact natz3 | with_reducible exact natz4 | with_reducible exact natz8); (· omega)) | exact (Int.toNat_of_nonneg (by omega)).symm)) (by (first | with_reducible exact natz _ | with_reducible exact natz0 | with_reducible exact natz1 | with_reducible exact natz2 | with_reducible exact natz3 | with_reducible exact natz4 | with_reducible exact natz8 | (apply natz_add; (· first | with_reducible exact natz _ | with_reducible exact natz0 | with_reducible exact natz1 | with_reducible exact natz2 | with_reducible exact natz3 | with_reducible exact natz4 | with_reducible exact natz8); (· first | with_reducible exact natz _ | with_reducible exact natz0 | with_reducible exact natz1 | with_reducible exact natz2 | with_reducible exact natz3 | with_reducible exact natz4 | with_reducible exact natz8)) | (apply natz_sub; (· first | with_reducible exact natz _ | with_reducible exact natz0 | with_reducible exact natz1 | with_reducible exact natz2 | with_reducible exact natz3 | with_reducible exact natz4 | with_reducible exact natz8); (· first | with_reducible exact natz _ | with_reducible exact natz0 | with_reducible exact natz1 | with_reducible exact natz2 | with_reducible exact natz3 | with_reducible exact natz4 | with_reducible exact natz8); (· omega)) | exact (Int.toNat_of_nonneg (by omega)).symm)) rfl rfl rfl rfl rfl rfl (by decide) (by omega) (by omega) rfl ?_; intro zzc) | (refine WL.makeRow (sz:=1) (by':=24) (zs:=[.slice none 0 0]) rfl rfl (by (first | with_reducible exact natz _ | with_reducible exact natz0 | with_reducible exact natz1 | with_reducible exact natz2 | with_reducible exact natz3 | with_reducible exact natz4 | with_reducible exact natz8 | (apply natz_add; (· first | with_reducible exact natz _ | with_reducible exact natz0 | with_reducible exact natz1 | with_reducible exact natz2 | with_reducible exact natz3 | with_reducible exact natz4 | with_reducible exact natz8); (· first | with_reducible exact natz _ | with_reducible exact natz0 | with_reducible exact natz1 | with_reducible exact natz2 | with_reducible exact natz3 | with_reducible exact natz4 | with_reducible exact natz8)) | (apply natz_sub; (· first | with_reducible exact natz _ | with_reducible exact natz0 | with_reducible exact natz1 | with_reducible exact natz2 | with_reducible exact natz3 | with_reducible exact natz4 | with_reducible exact natz8); (· first | with_reducible exact natz _ | with_reducible exact natz0 | with_reducible exact natz1 | with_reducible exact natz2 | with_reducible exact natz3 | with_reducible exact natz4 | with_reducible exact natz8); (· omega)) | exact (Int.toNat_of_nonneg (by omega)).symm)) (by (first | with_reducible exact natz _ | with_reducible exact natz0 | with_reducible exact natz1 | with_reducible exact natz2 | with_reducible exact natz3 | with_reducible exact natz4 | with_reducible exact natz8 | (apply natz_add; (· first | with_reducible exact natz _ | with_reducible exact natz0 | with_reducible exact natz1 | with_reducible exact natz2 | with_reducible exact natz3 | with_reducible exact natz4 | with_reducible exact natz8); (· first | with_reducible exact natz _ | with_reducible exact natz0 | with_reducible exact natz1 | with_reducible exact natz2 | with_reducible exact natz3 | with_reducible exact natz4 | with_reducible exact natz8)) | (apply natz_sub; (· first | with_reducible exact natz _ | with_reducible exact natz0 | with_reducible exact natz1 | with_reducible exact natz2 | with_reducible exact natz3 | with_reducible exact natz4 | with_reducible exact natz8); (· first | with_reducible exact natz _ | with_reducible exact natz0 | with_reducible exact natz1 | with_reducible exact natz2 | with_reducible exact natz3 | with_reducible exact natz4 | with_reducible exact natz8); (· omega)) | exact (Int.toNat_of_nonneg (by omega)).symm)) rfl rfl rfl rfl rfl rfl (by decide) (by omega) (by omega) rfl ?_; intro zzc) | (refine WL.add16 rfl rfl rfl (by omega) ?_) | ((refine iDraw ?_; (first | refine WC.drawAll rfl (by decide +kernel) ?_ | refine WC.draw 1 rfl (by decide +kernel) ?_ | refine WC.draw 2 rfl (by decide +kernel) ?_ | refine WC.draw 3 rfl (by decide +kernel) ?_ | refine WC.draw 4 rfl (by decide +kernel) ?_ | refine WC.draw 5 rfl (by decide +kernel) ?_ | refine WC.draw 6 rfl (by decide +kernel) ?_ | refine WC.draw 7 rfl (by decide +kernel) ?_ | refine WC.draw 8 rfl (by decide +kernel) ?_ | refine WC.draw 9 rfl (by decide +kernel) ?_ | refine WC.draw 10 rfl (by decide +kernel) ?_ | refine WC.draw 11 rfl (by decide +kernel) ?_ | refine WC.draw 12 rfl (by decide +kernel) ?_ | refine WC.draw 13 rfl (by decide +kernel) ?_ | refine WC.draw 14 rfl (by decide +kernel) ?_ | refine WC.draw 15 rfl (by decide +kernel) ?_ | refine WC.draw 16 rfl (by decide +kernel) ?_ | refine WC.draw 17 rfl (by decide +kernel) ?_ | refine WC.draw 18 rfl (by decide +kernel) ?_ | refine WC.draw 19 rfl (by decide +kernel) ?_ | refine WC.draw 20 rfl (by decide +kernel) ?_ | refine WC.draw 21 rfl (by decide +kernel) ?_ | refine WC.draw 22 rfl (by decide +kernel) ?_ | refine WC.draw 23 rfl (by decide +kernel) ?_ | refine WC.draw 24 rfl (by decide +kernel) ?_)); (repeat (refine WD.cons rfl (fun c h => by cases h) sq_D9_1 ?_)); refine WD.nil ?_)); (try (refine st ?_; (repeat intro zzc)))))) | ((first | (refine WL.makeRow (sz:=1) (by':=2) (zs:=[.int .i16 0]) rfl rfl (by (first | with_reducible exact natz _ | with_reducible exact natz0 | with_reducible exact natz1 | with_reducible exact natz2 | with_reducible exact natz3 | with_reducible exact natz4 | with_reducible exact natz8 | (apply natz_add; (· first | with_reducible exact natz _ | with_reducible exact natz0 | with_reducible exact natz1 | with_reducible exact natz2 | with_reducible exact natz3 | with_reducible exact natz4 | with_reducible exact natz8); (· first | with_reducible exact natz _ | with_reducible exact natz0 | with_reducible exact natz1 | with_reducible exact natz2 | with_reducible exact natz3 | with_reducible exact natz4 | with_reducible exact natz8)) | (apply natz_sub; (· first | with_reducible exact natz _ | with_reducible exact natz0 | with_reducible exact natz1 | with_reducible exact natz2 | with_reducible exact natz3 | with_reducible exact natz4 | with_reducible exact natz8); (· first | with_reducible exact natz _ | with_reducible exact natz0 | with_reducible exact natz1 | with_reducible exact natz2 | with_reducible exact natz3 | with_reducible exact natz4 | with_reducible exact natz8); (· omega)) | exact (Int.toNat_of_nonneg (by omega)).symm)) (by (first | with_reducible exact natz _ | with_reducible exact natz0 | with_reducible exact natz1 | with_reducible exact natz2 | with_reducible exact natz3 | with_reducible exact natz4 | with_reducible exact natz8 | (apply natz_add; (· first | with_reducible exact natz _ | with_reducible exact natz0 | with_reducible exact natz1 | with_reducible exact natz2 | with_reducible exact natz3 | with_reducible exact natz4 | with_reducible exact natz8); (· first | with_reducible exact natz _ | with_reducible exact natz0 | with_reducible exact natz1 | with_reducible exact natz2 | with_reducible exact natz3 | with_reducible exact natz4 | with_reducible exact natz8)) | (apply natz_sub; (· first | with_reducible exact natz _ | with_reducible exact natz0 | with_reducible exact natz1 | with_reducible exact natz2 | with_reducible exact natz3 | with_reducible exact natz4 | with_reducible exact natz8); (· first | with_reducible exact natz _ | with_reducible exact natz0 | with_reducible exact natz1 | with_reducible exact natz2 | with_reducible exact natz3 | with_reducible exact natz4 | with_reducible exact natz8); (· omega)) | exact (Int.toNat_of_nonneg (by omega)).symm)) rfl rfl rfl rfl rfl rfl (by decide) (by omega) (by omega) rfl ?_; intro zzc) | (refine WL.makeRow (sz:=1) (by':=24) (zs:=[.slice none 0 0]) rfl rfl (by (first | with_reducible exact natz _ | with_reducible exact natz0 | with_reducible exact natz1 | with_reducible exact natz2 | with_reducible exact natz3 | with_reducible exact natz4 | with_reducible exact natz8 | (apply natz_add; (· first | with_reducible exact natz _ | with_reducible exact natz0 | with_reducible exact natz1 | with_reducible exact natz2 | with_reducible exact natz3 | with_reducible exact natz4 | with_reducible exact natz8); (· first | with_reducible exact natz _ | with_reducible exact natz0 | with_reducible exact natz1 | with_reducible exact natz2 | with_reducible exact natz3 | with_reducible exact natz4 | with_reducible exact natz8)) | (apply natz_sub; (· first | with_reducible exact natz _ | with_reducible exact natz0 | with_reducible exact natz1 | with_reducible exact natz2 | with_reducible exact natz3 | with_reducible exact natz4 | with_reducible exact natz8); (· first | with_reducible exact natz _ | with_reducible exact natz0 | with_reducible exact natz1 | with_reducible exact natz2 | with_reducible exact natz3 | with_reducible exact natz4 | with_reducible exact natz8); (· omega)) | exact (Int.toNat_of_nonneg (by omega)).symm)) (by (first | with_reducible exact natz _ | with_reducible exact natz0 | with_reducible exact natz1 | with_reducible exact natz2 | with_reducible exact natz3 | with_reducible exact natz4 | with_reducible exact natz8 | (apply natz_add; (· first | with_reducible exact natz _ | with_reducible exact natz0 | with_reducible exact natz1 | with_reducible exact natz2 | with_reducible exact natz3 | with_reducible exact natz4 | with_reducible exact natz8); (· first | with_reducible exact natz _ | with_reducible exact natz0 | with_reducible exact natz1 | with_reducible exact natz2 | with_reducible exact natz3 | with_reducible exact natz4 | with_reducible exact natz8)) | (apply natz_sub; (· first | with_reducible exact natz _ | with_reducible exact natz0 | with_reducible exact natz1 | with_reducible exact natz2 | with_reducible exact natz3 | with_reducible exact natz4 | with_reducible exact natz8); (· first | with_reducible exact natz _ | with_reducible exact natz0 | with_reducible exact natz1 | with_reducible exact natz2 | with_reducible exact natz3 | with_reducible exact natz4 | with_reducible exact natz8); (· omega)) | exact (Int.toNat_of_nonneg (by omega)).symm)) rfl rfl rfl rfl rfl rfl (by decide) (by omega) (by omega) rfl ?_; intro zzc) | (refine WL.add16 rfl rfl rfl (by omega) ?_) | ((refine iDraw ?_; (first | refine WC.drawAll rfl (by decide +kernel) ?_ | refine WC.draw 1 rfl (by decide +kernel) ?_ | refine WC.draw 2 rfl (by decide +kernel) ?_ | refine WC.draw 3 rfl (by decide +kernel) ?_ | refine WC.draw 4 rfl (by decide +kernel) ?_ | refine WC.draw 5 rfl (by decide +kernel) ?_ | refine WC.draw 6 rfl (by decide +kernel) ?_ | refine WC.draw 7 rfl (by decide +kernel) ?_ | refine WC.draw 8 rfl (by decide +kernel) ?_ | refine WC.draw 9 rfl (by decide +kernel) ?_ | refine WC.draw 10 rfl (by decide +kernel) ?_ | refine WC.draw 11 rfl (by decide +kernel) ?_ | refine WC.draw 12 rfl (by decide +kernel) ?_ | refine WC.draw 13 rfl (by decide +kernel) ?_ | refine WC.draw 14 rfl (by decide +kernel) ?_ | refine WC.draw 15 rfl (by decide +kernel) ?_ | refine WC.draw 16 rfl (by decide +kernel) ?_ | refine WC.draw 17 rfl (by decide +kernel) ?_ | refine WC.draw 18 rfl (by decide +kernel) ?_ | refine WC.draw 19 rfl (by decide +kernel) ?_ | refine WC.draw 20 rfl (by decide +kernel) ?_ | refine WC.draw 21 rfl (by decide +kernel) ?_ | refine WC.draw 22 rfl (by decide +kernel) ?_ | refine WC.draw 23 rfl (by decide +kernel) ?_ | refine WC.draw 24 rfl (by decide +kernel) ?_)); (repeat (refine WD.cons rfl (fun c h => by cases h) sq_D9_1 ?_)); refine WD.nil ?_)); (try (refine st ?_; (repeat intro zzc))))); (repeat ((first | (refine WL.makeRow (sz:=1) (by':=2) (zs:=[.int .i16 0]) rfl rfl (by (first | with_reducible exact natz _ | with_reducible exact natz0 | with_reducible exact natz1 | with_reducible exact natz2 | with_reducible exact natz3 | with_reducible exact natz4 | with_reducible exact natz8 | (apply natz_add; (· first | with_reducible exact natz _ | with_reducible exact natz0 | with_reducible exact natz1 | with_reducible exact natz2 | with_reducible exact natz3 | with_reducible exact natz4 | with_reducible exact natz8); (· first | with_reducible exact natz _ | with_reducible exact natz0 | with_reducible exact natz1 | with_reducible exact natz2 | with_reducible exact natz3 | with_reducible exact natz4 | with_reducible exact natz8)) | (apply natz_sub; (· first | with_reducible exact natz _ | with_reducible exact natz0 | with_reducible exact natz1 | with_reducible exact natz2 | with_reducible exact natz3 | with_reducible exact natz4 | with_reducible exact natz8); (· first | with_reducible exact natz _ | with_reducible exact natz0 | with_reducible exact natz1 | with_reducible exact natz2 | with_reducible exact natz3 | with_reducible exact natz4 | with_reducible exact natz8); (· omega)) | exact (Int.toNat_of_nonneg (by omega)).symm)) (by (first | with_reducible exact natz _ | with_reducible exact natz0 | with_reducible exact natz1 | with_reducible exact natz2 | with_reducible exact natz3 | with_reducible exact natz4 | with_reducible exact natz8 | (apply natz_add; (· first | with_reducible exact natz _ | with_reducible exact natz0 | with_reducible exact natz1 | with_reducible exact natz2 | with_reducible exact natz3 | with_reducible exact natz4 | with_reducible exact natz8); (· first | with_reducible exact natz _ | with_reducible exact natz0 | with_reducible exact natz1 | with_reducible exact natz2 | with_reducible exact natz3 | with_reducible exact natz4 | with_reducible exact natz8)) | (apply natz_sub; (· first | with_reducible exact natz _ | with_reducible exact natz0 | with_reducible exact natz1 | with_reducible exact natz2 | with_reducible exact natz3 | with_reducible exact natz4 | with_reducible exact natz8); (· first | with_reducible exact natz _ | with_reducible exact natz0 | with_reducible exact natz1 | with_reducible exact natz2 | with_reducible exact natz3 | with_reducible exact natz4 | with_reducible exact natz8); (· omega)) | exact (Int.toNat_of_nonneg (by omega)).symm)) rfl rfl rfl rfl rfl rfl (by decide) (by omega) (by omega) rfl ?_; intro zzc) | (refine WL.makeRow (sz:=1) (by':=24) (zs:=[.slice none 0 0]) rfl rfl (by (first | with_reducible exact natz _ | with_reducible exact natz0 | with_reducible exact natz1 | with_reducible exact natz2 | with_reducible exact natz3 | with_reducible exact natz4 | with_reducible exact natz8 | (apply natz_add; (· first | with_reducible exact natz _ | with_reducible exact natz0 | with_reducible exact natz1 | with_reducible exact natz2 | with_reducible exact natz3 | with_reducible exact natz4 | with_reducible exact natz8); (· first | with_reducible exact natz _ | with_reducible exact natz0 | with_reducible exact natz1 | with_reducible exact natz2 | with_reducible exact natz3 | with_reducible exact natz4 | with_reducible exact natz8)) | (apply natz_sub; (· first | with_reducible exact natz _ | with_reducible exact natz0 | with_reducible exact natz1 | with_reducible exact natz2 | with_reducible exact natz3 | with_reducible exact natz4 | with_reducible exact natz8); (· first | with_reducible exact natz _ | with_reducible exact natz0 | with_reducible exact natz1 | with_reducible exact natz2 | with_reducible exact natz3 | with_reducible exact natz4 | with_reducible exact natz8); (· omega)) | exact (Int.toNat_of_nonneg (by omega)).symm)) (by (first | with_reducible exact natz _ | with_reducible exact natz0 | with_reducible exact natz1 | with_reducible exact natz2 | with_reducible exact natz3 | with_reducible exact natz4 | with_reducible exact natz8 | (apply natz_add; (· first | with_reducible exact natz _ | with_reducible exact natz0 | with_reducible exact natz1 | with_reducible exact natz2 | with_reducible exact natz3 | with_reducible exact natz4 | with_reducible exact natz8); (· first | with_reducible exact natz _ | with_reducible exact natz0 | with_reducible exact natz1 | with_reducible exact natz2 | with_reducible exact natz3 | with_reducible exact natz4 | with_reducible exact natz8)) | (apply natz_sub; (· first | with_reducible exact natz _ | with_reducible exact natz0 | with_reducible exact natz1 | with_reducible exact natz2 | with_reducible exact natz3 | with_reducible exact natz4 | with_reducible exact natz8); (· first | with_reducible exact natz _ | with_reducible exact natz0 | with_reducible exact natz1 | with_reducible exact natz2 | with_reducible exact natz3 | with_reducible exact natz4 | with_reducible exact natz8); (· omega)) | exact (Int.toNat_of_nonneg (by omega)).symm)) rfl rfl rfl rfl rfl rfl (by decide) (by omega) (by omega) rfl ?_; intro zzc) | (refine WL.add16 rfl rfl rfl (by omega) ?_) | ((refine iDraw ?_; (first | refine WC.drawAll rfl (by decide +kernel) ?_ | refine WC.draw 1 rfl (by decide +kernel) ?_ | refine WC.draw 2 rfl (by decide +kernel) ?_ | refine WC.draw 3 rfl (by decide +kernel) ?_ | refine WC.draw 4 rfl (by decide +kernel) ?_ | refine WC.draw 5 rfl (by decide +kernel) ?_ | refine WC.draw 6 rfl (by decide +kernel) ?_ | refine WC.draw 7 rfl (by decide +kernel) ?_ | refine WC.draw 8 rfl (by decide +kernel) ?_ | refine WC.draw 9 rfl (by decide +kernel) ?_ | refine WC.draw 10 rfl (by decide +kernel) ?_ | refine WC.draw 11 rfl (by decide +kernel) ?_ | refine WC.draw 12 rfl (by decide +kernel) ?_ | refine WC.draw 13 rfl (by decide +kernel) ?_ | refine WC.draw 14 rfl (by decide +kernel) ?_ | refine WC.draw 15 rfl (by decide +kernel) ?_ | refine WC.draw 16 rfl (by decide +kernel) ?_ | refine WC.draw 17 rfl (by decide +kernel) ?_ | refine WC.draw 18 rfl (by decide +kernel) ?_ | refine WC.draw 19 rfl (by decide +kernel) ?_ | refine WC.draw 20 rfl (by decide +kernel) ?_ | refine WC.draw 21 rfl (by decide +kernel) ?_ | refine WC.draw 22 rfl (by decide +kernel) ?_ | refine WC.draw 23 rfl (by decide +kernel) ?_ | refine WC.draw 24 rfl (by decide +kernel) ?_)); (repeat (refine WD.cons rfl (fun c h => by cases h) sq_D9_1 ?_)); refine WD.nil ?_)); (try (refine st ?_; (repeat intro zzc))))); (repeat revert zzc); exact zzn.out) : G := h ⟨next⟩
theorem middle_any {A B : List Tx} {aa ab : Option Addr} {ca cb k0 : Nat} {w0 : World} {m : Mem} {H : SHeap} (hA : A.length ≤ 4194304) (hB : B.length ≤ 4194304) (hk0 : k0 ≤ 4194304) (ha : RowR w0 m H 1 aa (strs A)) (hb : RowR w0 m H 1 ab (strs B)) :
    Does Try.prog 44 #[.slice aa A.length ca, .slice ab B.length cb, .int .i64 (k0 : Int)] w0 m H (fun v m' H' => m' = m ∧ ∃ a cp, v = .slice a (mid A B k0).length cp ∧ H' = .row a cp 44 2 ((mid A B k0).map prE) :: H) := by
  refine Does.of_body (args := [.slice aa A.length ca, .slice ab B.length cb, .int .i64 (k0 : Int)]) Try.func44 rfl Try.ntmps44 rfl ?_
  by_cases h0 : A.length = 0
  · have hm : mid A B k0 = [] := by rw [List.eq_nil_of_length_eq_zero h0]; unfold mid; split <;> simp [midL]
    refine WC.newRow (T := 44) (sz := 2) ?_
    (try (refine st_D9_1 ?_; intros))
    exact q_fin0 (H0 := .row none 0 44 2 [] :: H) ⟨rfl, none, 0, by rw [hm], by rw [hm]; rfl⟩ (hd := zpk)
  by_cases h1 : B.length = 0
  · have hm : mid A B k0 = [] := by
      rw [List.eq_nil_of_length_eq_zero h1]; unfold mid
      split
      · exact midL_zero (lcs_nil _)
      · rfl
    refine WC.newRow (T := 44) (sz := 2) ?_
    (try (refine st_D9_1 ?_; intros))
    exact q_fin0 (H0 := .row none 0 44 2 [] :: H) ⟨rfl, none, 0, by rw [hm], by rw [hm]; rfl⟩ (hd := zpk)
  by_cases h2 : 1024 < A.length
  · have hm : mid A B k0 = [] := if_neg (by omega)
    refine WC.newRow (T := 44) (sz := 2) ?_
    (try (refine st_D9_1 ?_; intros))
    exact q_fin0 (H0 := .row none 0 44 2 [] :: H) ⟨rfl, none, 0, by rw [hm], by rw [hm]; rfl⟩ (hd := zpk)
  by_cases h3 : 1024 < B.length
  · have hm : mid A B k0 = [] := if_neg (by omega)
    refine WC.newRow (T := 44) (sz := 2) ?_
    (try (refine st_D9_1 ?_; intros))
    exact q_fin0 (H0 := .row none 0 44 2 [] :: H) ⟨rfl, none, 0, by rw [hm], by rw [hm]; rfl⟩ (hd := zpk)
  have hm : mid A B k0 = midL A B k0 k0 := if_pos (by omega)
  rw [hm]
  have hcA : (A.length : Int) + 1 = ((A.length + 1 : Nat) : Int) := by omega
  have hcB : (B.length : Int) + 1 = ((B.length + 1 : Nat) : Int) := by omega
  (refine st_D9_1 ?_; intros; rename_i bo)
  generalize hN : A.length + 1 = N at *
  rw [show List.replicate N [Value.slice none 0 0] = outE [] (B.length + 1) N by unfold outE; rfl]
  refine WC.heap (H' := .row (some ⟨bo, 0, none⟩) N 136 1 (outE [] (B.length + 1) N) :: (tabL 137 (B.length + 1) (fun _ => List.replicate (B.length + 1) [.int .i16 0]) [] ++ H)) (fun w h => by unfold tabL; exact h) ?_
  refine WC.loopH [(40, .int .i64 ((0) : Int)), (39, .int .i64 (N : Int)), (7, .slice (some ⟨bo, 0, none⟩) N N), (0, .slice aa A.length ca), (1, .slice ab B.length cb), (2, .int .i64 (k0 : Int))] ?_ ?_ (fun j r ds m' H' => ∃ (q : _) (bs : List Nat), j = N - q ∧ r = [(40, .int .i64 (q : Int)), (39, .int .i64 (N : Int)), (7, .slice (some ⟨bo, 0, none⟩) N N), (0, .slice aa A.length ca), (1, .slice ab B.length cb), (2, .int .i64 (k0 : Int))] ∧ ds = [] ∧ m = m' ∧ H' = .row (some ⟨bo, 0, none⟩) N 136 1 (outE bs (B.length + 1) N) :: (tabL 137 (B.length + 1) (fun _ => List.replicate (B.length + 1) [.int .i16 0]) bs ++ H) ∧ (bs.length = q) ∧ (q ≤ N)) (N - (0)) ⟨0, [], rfl, rfl, rfl, rfl, rfl, rfl, by omega⟩ ?_
  · (repeat (first | exact Env.Sub.nil | refine Env.Sub.cons rfl ?_))
  · exact zpk
  rintro j r ds m' H' ⟨q, bs, rfl, rfl, rfl, rfl, rfl, hbl, hjN⟩
  by_cases hlt : q < N
  · have hol : (outE bs (B.length + 1) N).length = N := outE_length (by omega)
    have hset : ∀ b, (outE bs (B.length + 1) N).set q [.slice (some ⟨b, 0, none⟩) (B.length + 1) (B.length + 1)] = outE (bs ++ [b]) (B.length + 1) N := fun b => by rw [← hbl]; exact outE_set (by omega)
    generalize hOE : outE bs (B.length + 1) N = OE at *
    (refine st_D9_1 ?_; intros; rename_i bn)
    rw [hset]
    refine WQ.heapX (H' := .row (some ⟨bo, 0, none⟩) N 136 1 (outE (bs ++ [bn]) (B.length + 1) N) :: (tabL 137 (B.length + 1) (fun _ => List.replicate (B.length + 1) [.int .i16 0]) (bs ++ [bn]) ++ H)) (fun w h => h.perm ?_) ?_
    · rw [tabL_snoc]
      exact (List.Perm.swap _ _ _).trans (List.Perm.cons _ ((List.perm_append_singleton _ _).symm.append_right H))
    · refine WQ.next (N - (q + 1)) ⟨q + 1, bs ++ [bn], rfl, rfl, rfl, rfl, rfl, ?_, ?_⟩ (by omega) zsb zpk
      · rw [List.length_append, List.length_singleton]; omega
      · omega
  · obtain rfl : q = N := by omega
    rw [tabL_congr (G := fun i => rowP A B i (if i < A.length then B.length else 0)) (fun i hi => by
      split
      · exact (rowP_zero (.inl (Nat.le_refl _))).symm
      · exact (rowP_zero (.inr (by omega))).symm)]
    obtain ⟨E, hE⟩ : ∃ E, E = outE bs (B.length + 1) q := ⟨_, rfl⟩
    have hEl : E.length = q := by rw [hE]; exact outE_length (by omega)
    have hEg : ∀ i b, bs[i]? = some b → E[i]? = some [Value.slice (some ⟨b, 0, none⟩) (B.length + 1) (B.length + 1)] := fun i b h => by rw [hE]; exact outE_get h
    rw [← hE]
    clear hE
    (try (refine st_D9_1 ?_; intros))
    refine WC.loopH [(9, .int .i64 (((A.length) : Int) - 1)), (7, .slice (some ⟨bo, 0, none⟩) q q), (0, .slice aa A.length ca), (1, .slice ab B.length cb), (2, .int .i64 (k0 : Int))] ?_ ?_ (fun j r ds m' H' => ∃ i, j = 2 * i ∧ r = [(9, .int .i64 ((i : Int) - 1)), (7, .slice (some ⟨bo, 0, none⟩) q q), (0, .slice aa A.length ca), (1, .slice ab B.length cb), (2, .int .i64 (k0 : Int))] ∧ ds = [] ∧ m = m' ∧ H' = .row (some ⟨bo, 0, none⟩) q 136 1 E :: (tabL 137 (B.length + 1) (fun k => rowP A B k (if k < i then B.length else 0)) bs ++ H) ∧ (i ≤ A.length)) (2 * (A.length)) ⟨A.length, rfl, rfl, rfl, rfl, rfl, by omega⟩ ?_
    · (repeat (first | exact Env.Sub.nil | refine Env.Sub.cons rfl ?_))
    · exact zpk
    rintro j r ds m' H' ⟨i, rfl, rfl, rfl, rfl, rfl, hi⟩
    by_cases hz : i = 0
    · subst hz
      clear hi
      have hrows : ∀ i b, bs[i]? = some b → RowR w0 m (tabL 137 (B.length + 1) (fun k => rowP A B k (if k < 0 then B.length else 0)) bs ++ H) 1 (some ⟨b, 0, none⟩) (rowP A B i 0) := fun i b h => RowR.row (List.mem_append.2 (.inl (tabL_mem h)))
      have hra : RowR w0 m (tabL 137 (B.length + 1) (fun k => rowP A B k (if k < 0 then B.length else 0)) bs ++ H) 1 aa (strs A) := ha.weak (fun w h => drops_app h)
      have hrb : RowR w0 m (tabL 137 (B.length + 1) (fun k => rowP A B k (if k < 0 then B.length else 0)) bs ++ H) 1 ab (strs B) := hb.weak (fun w h => drops_app h)
      have hdrop : ∀ w i, Sat w0 m (i :: .row (some ⟨bo, 0, none⟩) q 136 1 E :: (tabL 137 (B.length + 1) (fun k => rowP A B k (if k < 0 then B.length else 0)) bs ++ H)) w → Sat w0 m (i :: H) w := fun w i h => by
        have h2 := h.perm ((List.Perm.swap _ _ _).trans (List.Perm.cons _ (List.perm_middle (a := i)).symm))
        exact drops_app h2.drop
      generalize tabL 137 (B.length + 1) (fun k => rowP A B k (if k < 0 then B.length else 0)) bs ++ H = Y at hrows hra hrb hdrop ⊢
      clear ha hb hm
      (try (refine st_D9_1 ?_; intros))
      refine WC.newRow (T := 44) (sz := 2) ?_
      refine WC.loopH [(110, .int .i64 ((0) : Int)), (109, .int .i64 (A.length : Int)), (13, .int .i64 ((0) : Int)), (12, .slice (none) ([]).length (0)), (7, .slice (some ⟨bo, 0, none⟩) q q), (0, .slice aa A.length ca), (1, .slice ab B.length cb), (2, .int .i64 (k0 : Int))] ?_ ?_ (fun j r ds m' H' => ∃ (i : Nat) (k : Nat) (a : Option Addr) (cp : Nat) (L : List (Nat × Nat)), j = A.length - i ∧ r = [(110, .int .i64 (i : Int)), (109, .int .i64 (A.length : Int)), (13, .int .i64 (k : Int)), (12, .slice a L.length cp), (7, .slice (some ⟨bo, 0, none⟩) q q), (0, .slice aa A.length ca), (1, .slice ab B.length cb), (2, .int .i64 (k0 : Int))] ∧ ds = [] ∧ m = m' ∧ H' = .row a cp 44 2 (L.map prE) :: .row (some ⟨bo, 0, none⟩) q 136 1 E :: Y ∧ (i ≤ A.length) ∧ (k ≤ B.length) ∧ (L.length ≤ i) ∧ (L ++ midL (A.drop i) (B.drop k) (k0 + i) (k0 + k) = midL A B k0 k0)) (A.length - (0)) ⟨0, 0, none, 0, [], rfl, rfl, rfl, rfl, rfl, by omega, by omega, by simp, by simp⟩ ?_
      · (repeat (first | exact Env.Sub.nil | refine Env.Sub.cons rfl ?_))
      · exact zpk
      rintro j r ds m' H' ⟨i, k, a, cp, L, rfl, rfl, rfl, rfl, rfl, hi, hk, hLl, hL⟩
      by_cases hlt : i < A.length
      · obtain ⟨x, hx⟩ : ∃ x, A[i]? = some x := ⟨_, List.getElem?_eq_getElem hlt⟩
        obtain ⟨bi, hbi⟩ : ∃ b, bs[i]? = some b := ⟨_, List.getElem?_eq_getElem (by omega : i < bs.length)⟩
        obtain ⟨b1, hb1⟩ : ∃ b, bs[i + 1]? = some b := ⟨_, List.getElem?_eq_getElem (by omega : i + 1 < bs.length)⟩
        have hstep := hL
        rw [drop_get hx, midL, ← drop_get hx] at hstep
        (try (refine st_D9_1 ?_; intros))
        refine WC.weak zsb zpk (mid_find (L := L) (a := a) (cp := cp) (k := k) (k0 := k0) (i := i) (ca := ca) (cb := cb) (bo := bo) (by omega) (by omega) hk0 hx hk (by omega) hN hEl (hEg i bi hbi) (hEg (i + 1) b1 hb1) (hrows i bi hbi) (hrows (i + 1) b1 hb1) hra hrb ?_ ?_)
        · intro hno
          rw [hno] at hstep
          (try (refine st_D9_1 ?_; intros))
          refine WQ.next (A.length - (i + 1)) ⟨i + 1, k, a, cp, L, rfl, rfl, rfl, rfl, rfl, ?_, ?_, ?_, ?_⟩ (by omega) zsb zpk
          · omega
          · omega
          · omega
          · exact hstep
        · intro p a2 cp2 hkp hpB hyes
          rw [hyes] at hstep
          (try (refine st_D9_1 ?_; intros))
          rw [show (p : Int) + 1 = ((p + 1 : Nat) : Int) by omega, show L.length + 1 = (L ++ [(k0 + i, k0 + p)]).length by simp, show L.map prE ++ [[Value.int .i64 ((k0 : Int) + i), .int .i64 ((k0 : Int) + p)]] = (L ++ [(k0 + i, k0 + p)]).map prE by simp [prE]]
          refine WQ.next (A.length - (i + 1)) ⟨i + 1, p + 1, a2, cp2, L ++ [(k0 + i, k0 + p)], rfl, rfl, rfl, rfl, rfl, ?_, ?_, ?_, ?_⟩ (by omega) zsb zpk
          · omega
          · omega
          · rw [List.length_append, List.length_singleton]; omega
          · rw [List.append_assoc, List.singleton_append, ← hstep]
            simp only [List.drop_drop]
            rw [show k0 + k + (p - k) = k0 + p by omega, show k + (p - k + 1) = p + 1 by omega]
            rfl
      · have hAe : A.drop i = [] := List.drop_of_length_le (by omega)
        rw [hAe, midL, List.append_nil] at hL
        subst hL
        (try (refine st_D9_1 ?_; intros))
        exact q_fin0 (H0 := .row a cp 44 2 ((midL A B k0 k0).map prE) :: H) ⟨rfl, a, cp, rfl, rfl⟩ (hd := fun w h => hdrop w _ h)
    · obtain ⟨i', rfl⟩ : ∃ i', i = i' + 1 := ⟨i - 1, by omega⟩
      obtain ⟨x, hx⟩ : ∃ x, A[i']? = some x := ⟨_, List.getElem?_eq_getElem (by omega : i' < A.length)⟩
      obtain ⟨bi, hbi⟩ : ∃ b, bs[i']? = some b := ⟨_, List.getElem?_eq_getElem (by omega : i' < bs.length)⟩
      obtain ⟨b1, hb1⟩ : ∃ b, bs[i' + 1]? = some b := ⟨_, List.getElem?_eq_getElem (by omega : i' + 1 < bs.length)⟩
      obtain ⟨X, p1, p2, pX⟩ := tabL_out (T := 137) (c := B.length + 1) (F := fun k => rowP A B k (if k < i' + 1 then B.length else 0)) (G := fun k => rowP A B k (if k < i' then B.length else 0)) hbi (fun k hk => by
        show rowP A B k _ = rowP A B k _
        congr 1
        split <;> split <;> omega)
      have pX1 := pX (i' + 1) b1 (by omega) hb1
      simp only [if_neg (Nat.lt_irrefl _), if_pos (Nat.lt_succ_self _)] at p1 p2 pX1
      rw [show ((i' + 1 : Nat) : Int) - 1 = (i' : Int) by omega]
      have hxd := drop_get hx
      have hgx : (strs A)[i']? = some [str x] := by unfold strs; rw [List.getElem?_map, hx]; rfl
      have hE0 := hEg i' bi hbi
      have hE1 := hEg (i' + 1) b1 hb1
      refine WC.heap (H' := .row (some ⟨bi, 0, none⟩) (B.length + 1) 137 1 (rowP A B i' B.length) :: .row (some ⟨bo, 0, none⟩) q 136 1 E :: (X ++ H)) (fun w h => h.perm ((List.Perm.cons _ (p1.append_right H)).trans (List.Perm.swap _ _ _))) ?_
      have hback : ∀ w, Sat w0 m (.row (some ⟨bi, 0, none⟩) (B.length + 1) 137 1 (rowP A B i' 0) :: .row (some ⟨bo, 0, none⟩) q 136 1 E :: (X ++ H)) w → Sat w0 m (.row (some ⟨bo, 0, none⟩) q 136 1 E :: (tabL 137 (B.length + 1) (fun k => rowP A B k (if k < i' then B.length else 0)) bs ++ H)) w :=
        fun w h => h.perm ((List.Perm.swap _ _ _).trans (List.Perm.cons _ (p2.append_right H).symm))
      have hr1 : RowR w0 m (X ++ H) 1 (some ⟨b1, 0, none⟩) (rowP A B (i' + 1) 0) := RowR.row (List.mem_append.2 (.inl pX1))
      have hra : RowR w0 m (X ++ H) 1 aa (strs A) := ha.weak (fun w h => drops_app h)
      have hrb : RowR w0 m (X ++ H) 1 ab (strs B) := hb.weak (fun w h => drops_app h)
      have hal : (strs A).length = A.length := by simp [strs]
      have hbl2 : (strs B).length = B.length := by simp [strs]
      clear pX pX1 p1 p2 hEg ha hb hm
      generalize X ++ H = Y at hback hr1 hra hrb ⊢
      (try (refine st_D9_1 ?_; intros))
      refine WC.weak zsb zpk (mid_row (k0 := k0) (by omega) (by omega) hx hN hEl hE0 hE1 hr1 hra hrb ?_)
      (try (refine st_D9_1 ?_; intros))
      refine WQ.heapX hback ?_
      refine WQ.next (2 * (i')) ⟨i', rfl, rfl, rfl, rfl, rfl, ?_⟩ (by omega) zsb zpk
      · omega
end Go.Proofs.Ytieangfnjflfmaa

/-
  A match's pairs rise, lie within both lists and are alike; what is woven. No condition.
-/
namespace Go.Eng
open Go
/-- pairs from places i, k on, up to n, m: they rise, and are alike -/
def PrOk (a b : List Tx) : Nat → Nat → List (Nat × Nat) → Nat → Nat → Prop
  | i, k, [], n, m => i ≤ n ∧ k ≤ m
  | i, k, p :: l, n, m => i ≤ p.1 ∧ k ≤ p.2 ∧ p.1 < n ∧ p.2 < m ∧ (∃ x, a[p.1]? = some x ∧ b[p.2]? = some x) ∧ PrOk a b (p.1 + 1) (p.2 + 1) l n m
theorem PrOk.le {a b : List Tx} : ∀ {l : List (Nat × Nat)} {i k n m : Nat}, PrOk a b i k l n m → i ≤ n ∧ k ≤ m
  | [], i, k, n, m, h => h
  | p :: l, i, k, n, m, ⟨h1, h2, h3, h4, _, _⟩ => by omega
theorem PrOk.app {a b : List Tx} : ∀ {l l2 : List (Nat × Nat)} {i k n m n2 m2 : Nat}, PrOk a b i k l n m → PrOk a b n m l2 n2 m2 → PrOk a b i k (l ++ l2) n2 m2
  | [], l2, i, k, n, m, n2, m2, h, h2 => by
    cases l2 with
    | nil => exact ⟨Nat.le_trans h.1 h2.1, Nat.le_trans h.2 h2.2⟩
    | cons q l2 => obtain ⟨g1, g2, g3⟩ := h2; exact ⟨Nat.le_trans h.1 g1, Nat.le_trans h.2 g2, g3⟩
  | p :: l, l2, i, k, n, m, n2, m2, ⟨h1, h2, h3, h4, h5, h6⟩, hh => by
    have := hh.le
    exact ⟨h1, h2, by omega, by omega, h5, h6.app hh⟩
theorem PrOk.mono {a b : List Tx} {l : List (Nat × Nat)} {i k n m n2 m2 : Nat} (h : PrOk a b i k l n m) (h1 : n ≤ n2) (h2 : m ≤ m2) : PrOk a b i k l n2 m2 := by
  have := h.app (l2 := []) (n2 := n2) (m2 := m2) ⟨h1, h2⟩
  rwa [List.append_nil] at this
theorem headN_alike : ∀ (a b : List Tx) (i : Nat), i < headN a b → ∃ x, a[i]? = some x ∧ b[i]? = some x
  | [], b, i, h => by simp [headN] at h
  | _ :: _, [], i, h => by simp [headN] at h
  | x :: xs, y :: ys, i, h => by
    rw [headN] at h
    split at h
    · next e =>
      subst e
      cases i with
      | zero => exact ⟨x, rfl, rfl⟩
      | succ i => simpa using headN_alike xs ys i (by omega)
    · omega
theorem range_ok {a b : List Tx} (f g : Nat) : ∀ (n s : Nat), (∀ i, s ≤ i → i < s + n → ∃ x, a[f + i]? = some x ∧ b[g + i]? = some x) → PrOk a b (f + s) (g + s) ((List.range' s n).map fun i => (f + i, g + i)) (f + s + n) (g + s + n)
  | 0, s, _ => ⟨Nat.le_refl _, Nat.le_refl _⟩
  | n + 1, s, h => by
    rw [List.range'_succ, List.map_cons]
    have ih := range_ok (a := a) (b := b) f g n (s + 1) (fun i h1 h2 => h i (by omega) (by omega))
    refine ⟨Nat.le_refl _, Nat.le_refl _, by simp only; omega, by simp only; omega, h s (Nat.le_refl _) (by omega), ?_⟩
    have e1 : f + s + 1 + n = f + s + (n + 1) := by omega
    have e2 : g + s + 1 + n = g + s + (n + 1) := by omega
    have : PrOk a b (f + (s + 1)) (g + (s + 1)) ((List.range' (s + 1) n).map fun i => (f + i, g + i)) (f + (s + 1) + n) (g + (s + 1) + n) := ih
    simpa only [← Nat.add_assoc, e1, e2] using this
theorem midL_ok {a b : List Tx} : ∀ (xs ys : List Tx) (i k n m : Nat), xs = (a.take n).drop i → ys = (b.take m).drop k → i ≤ n → k ≤ m → n ≤ a.length → m ≤ b.length → PrOk a b i k (midL xs ys i k) n m
  | [], ys, i, k, n, m, _, _, hi, hk, _, _ => ⟨hi, hk⟩
  | x :: xs, ys, i, k, n, m, hx, hy, hi, hk, hn, hm => by
    have hxl := congrArg List.length hx
    rw [List.length_cons, List.length_drop, List.length_take] at hxl
    have hin : i < n := by omega
    have hx1 : xs = (a.take n).drop (i + 1) := by
      rw [← List.drop_drop, ← hx]; rfl
    have hax : a[i]? = some x := by
      have := congrArg (·[0]?) hx
      simp only [List.getElem?_cons_zero, List.getElem?_drop, Nat.add_zero, List.getElem?_take] at this
      rw [if_pos hin] at this; exact this.symm
    rw [midL]
    cases hf : firstJ x xs (lcs (x :: xs) ys) ys with
    | none =>
      have := midL_ok xs ys (i + 1) k n m hx1 hy (by omega) hk hn hm
      simp only
      cases hl : midL xs ys (i + 1) k with
      | nil => exact ⟨hi, hk⟩
      | cons p l =>
        rw [hl] at this
        obtain ⟨g1, g2, g3⟩ := this
        exact ⟨by omega, g2, g3⟩
    | some j =>
      obtain ⟨j1, j2, _⟩ := firstJ_some hf
      have hyl : ys.length = m - k := by rw [hy, List.length_drop, List.length_take]; omega
      have hbj : b[k + j]? = some x := by
        rw [hy, List.getElem?_drop, List.getElem?_take, if_pos (by omega)] at j2
        exact j2
      have hy1 : ys.drop (j + 1) = (b.take m).drop (k + j + 1) := by rw [hy, List.drop_drop]; congr 1
      exact ⟨Nat.le_refl _, Nat.le_add_right _ _, hin, by simp only; omega, ⟨x, hax, hbj⟩, midL_ok xs _ (i + 1) (k + j + 1) n m hx1 hy1 (by omega) (by omega) hn hm⟩
theorem tailN_le (a b : List Tx) : headN a b + tailN a b ≤ a.length ∧ headN a b + tailN a b ≤ b.length := by
  have h1 := headN_le a b
  have h2 := headN_le ((a.drop (headN a b)).reverse) ((b.drop (headN a b)).reverse)
  unfold tailN
  simp only [List.length_reverse, List.length_drop] at h2
  omega
theorem match_ok (a b : List Tx) : PrOk a b 0 0 (matchL a b) a.length b.length := by
  have h1 := tailN_le a b
  have r1 := range_ok (a := a) (b := b) 0 0 (headN a b) 0 (fun i _ h => by simpa using headN_alike a b i (by omega))
  have r3 := range_ok (a := a) (b := b) (a.length - tailN a b) (b.length - tailN a b) (tailN a b) 0 (fun i _ h => by
    obtain ⟨x, g1, g2⟩ := headN_alike ((a.drop (headN a b)).reverse) ((b.drop (headN a b)).reverse) (tailN a b - 1 - i) (by unfold tailN at h ⊢; omega)
    refine ⟨x, ?_, ?_⟩
    · rw [List.getElem?_reverse (by rw [List.length_drop]; omega), List.length_drop, List.getElem?_drop] at g1
      rw [← g1]; congr 1; omega
    · rw [List.getElem?_reverse (by rw [List.length_drop]; omega), List.length_drop, List.getElem?_drop] at g2
      rw [← g2]; congr 1; omega)
  simp only [Nat.zero_add, Nat.add_zero] at r1 r3
  have e1 : (List.range' 0 (headN a b)).map (fun i => (i, i)) = (List.range (headN a b)).map (fun i => (i, i)) := by rw [List.range_eq_range']
  have e3 : (List.range' 0 (tailN a b)).map (fun i => (a.length - tailN a b + i, b.length - tailN a b + i)) = (List.range (tailN a b)).map (fun i => (a.length - tailN a b + i, b.length - tailN a b + i)) := by rw [List.range_eq_range']
  rw [e1] at r1
  rw [e3, show a.length - tailN a b + tailN a b = a.length by omega, show b.length - tailN a b + tailN a b = b.length by omega] at r3
  unfold matchL
  refine (r1.app ?_).app r3
  split
  · exact midL_ok _ _ _ _ _ _ rfl rfl (by omega) (by omega) (by omega) (by omega)
  · exact ⟨by omega, by omega⟩
/-- a conflict: its span, the three sides -/
structure Cf where
  a : Nat
  z : Nat
  b : Tx
  i : Tx
  f : Tx
def Cf.cs (c : Cf) : List Value := [.int .i64 (c.a : Int), .int .i64 (c.z : Int), str c.b, str c.i, str c.f]
/-- what is woven so far, and where the sides begin -/
structure Wv where
  out : Tx
  l : List Cf
  p : Nat
  q : Nat
  r : Nat
/-- texts from a place to another one, joined -/
def jn (l : List Tx) (a z : Nat) : Tx := ((l.take z).drop a).flatten
/-- what a side gives, and its conflict -/
def sideT (old a c : Tx) : Tx := if c ≠ old ∧ a = old then c else a
def sideC (o : Nat) (old a c : Tx) : List Cf := if c ≠ old ∧ a ≠ old ∧ a ≠ c then [⟨o, o + a.length, old, a, c⟩] else []
def Wv.side (w : Wv) (x y z : List Tx) (n m k : Nat) : Wv :=
  ⟨w.out ++ sideT (jn x w.p n) (jn y w.q m) (jn z w.r k), w.l ++ sideC w.out.length (jn x w.p n) (jn y w.q m) (jn z w.r k), n + 1, m + 1, k + 1⟩
def Wv.add (w : Wv) (t : Tx) : Wv := ⟨w.out ++ t, w.l, w.p, w.q, w.r⟩
def wvGo (x y z : List Tx) (M N : List (Nat × Nat)) : List Tx → Nat → Wv → Wv
  | [], _, w => w.side x y z x.length y.length z.length
  | t :: ts, n, w => match M.lookup n, N.lookup n with
    | some m, some k => wvGo x y z M N ts (n + 1) ((w.side x y z n m k).add t)
    | _, _ => wvGo x y z M N ts (n + 1) w
def weaveL (s t u : Tx) : Wv := wvGo (toks s) (toks t) (toks u) (matchL (toks s) (toks t)) (matchL (toks s) (toks u)) (toks s) 0 ⟨[], [], 0, 0, 0⟩
end Go.Eng

/-
  What is woven of sides that are alike, and turned about. No condition.
-/
namespace Go.Eng
open Go
theorem PrOk.low {a b : List Tx} {l : List (Nat × Nat)} {i k i2 k2 n m : Nat} (h : PrOk a b i k l n m) (h1 : i2 ≤ i) (h2 : k2 ≤ k) : PrOk a b i2 k2 l n m := by
  cases l with
  | nil => exact ⟨Nat.le_trans h1 h.1, Nat.le_trans h2 h.2⟩
  | cons p l => obtain ⟨g1, g2, g3⟩ := h; exact ⟨Nat.le_trans h1 g1, Nat.le_trans h2 g2, g3⟩
theorem PrOk.none {a b : List Tx} : ∀ {l : List (Nat × Nat)} {i k n m j : Nat}, PrOk a b i k l n m → j < i → l.lookup j = none
  | [], i, k, n, m, j, _, _ => rfl
  | p :: l, i, k, n, m, j, ⟨h1, h2, h3, h4, h5, h6⟩, hj => by
    obtain ⟨p1, p2⟩ := p
    simp only at *
    have e : (j == p1) = false := by simp; omega
    rw [List.lookup_cons, e]
    exact h6.none (by omega)
/-- what a match says of the next place -/
theorem PrOk.next {a b : List Tx} {l : List (Nat × Nat)} {i k n m : Nat} (h : PrOk a b i k l n m) (hi : i < n) :
    (l.lookup i = Option.none ∧ PrOk a b (i + 1) k l n m) ∨ (∃ p l2, l.lookup i = some p ∧ k ≤ p ∧ p < m ∧ (∃ x, a[i]? = some x ∧ b[p]? = some x) ∧ PrOk a b (i + 1) (p + 1) l2 n m ∧ ∀ j, i < j → l.lookup j = l2.lookup j) := by
  cases l with
  | nil => exact .inl ⟨rfl, hi, h.2⟩
  | cons p l =>
    obtain ⟨h1, h2, h3, h4, h5, h6⟩ := h
    obtain ⟨p1, p2⟩ := p
    simp only at *
    by_cases e : p1 = i
    · subst e
      refine .inr ⟨p2, l, by rw [List.lookup_cons]; simp, h2, h4, h5, h6, fun j hj => ?_⟩
      rw [List.lookup_cons, show (j == p1) = false by simp; omega]
    · refine .inl ⟨?_, by omega, h2, h3, h4, h5, h6⟩
      rw [List.lookup_cons, show (i == p1) = false by simp; omega]
      exact h6.none (by omega)
theorem jn_app {l : List Tx} {a z z2 : Nat} (h1 : a ≤ z) (h2 : z ≤ z2) : jn l a z ++ jn l z z2 = jn l a z2 := by
  unfold jn
  rw [← List.flatten_append]
  congr 1
  have e : (l.take z2).drop a = ((l.take z2).drop a).take (z - a) ++ ((l.take z2).drop a).drop (z - a) := (List.take_append_drop _ _).symm
  rw [e, List.drop_drop, show a + (z - a) = z by omega]
  congr 1
  rw [List.take_drop, show a + (z - a) = z by omega, List.take_take, Nat.min_eq_left h2]
theorem jn_one {l : List Tx} {k : Nat} {x : Tx} (h : l[k]? = some x) : jn l k (k + 1) = x := by
  obtain ⟨hk, he⟩ := List.getElem?_eq_some_iff.1 h
  unfold jn
  rw [List.take_succ_eq_append_getElem hk, List.drop_append_of_le_length (by rw [List.length_take]; omega), List.drop_of_length_le (by rw [List.length_take]; omega), List.nil_append, he]
  simp
theorem jn_all (l : List Tx) : jn l 0 l.length = l.flatten := by unfold jn; rw [List.take_length, List.drop_zero]
theorem jn_nil (l : List Tx) (a : Nat) : jn l a a = [] := by
  unfold jn
  rw [List.drop_of_length_le (by rw [List.length_take]; omega)]; rfl
end Go.Eng

/-
  The walk of draft.match. No condition.
-/
namespace Go.Eng
open Go Go.RowKit
theorem strs_get {A : List Tx} {i : Nat} {x : Tx} (h : A[i]? = some x) : (strs A)[i]? = some [str x] := by unfold strs; rw [List.getElem?_map, h]; rfl
theorem headN_step {A B : List Tx} {h : Nat} {x y : Tx} (hx : A[h]? = some x) (hy : B[h]? = some y) : headN (A.drop h) (B.drop h) = if x = y then headN (A.drop (h + 1)) (B.drop (h + 1)) + 1 else 0 := by
  rw [drop_get hx, drop_get hy, headN]
theorem headN_nil {A B : List Tx} {h : Nat} (g : A.length ≤ h ∨ B.length ≤ h) : headN (A.drop h) (B.drop h) = 0 := by
  rcases g with g | g
  · rw [List.drop_of_length_le g]; rfl
  · rw [List.drop_of_length_le g]; cases A.drop h <;> rfl
theorem rev_get {A : List Tx} {h t : Nat} (hh : t < A.length - h) : ((A.drop h).reverse)[t]? = A[A.length - 1 - t]? := by
  rw [List.getElem?_reverse (by rw [List.length_drop]; omega), List.length_drop, List.getElem?_drop]
  congr 1; omega
theorem strs_sub (A : List Tx) (p q : Nat) : ((strs A).take q).drop p = strs ((A.take q).drop p) := by
  unfold strs
  rw [List.map_drop, List.map_take]
end Go.Eng
namespace Go.Proofs.Ytieangfnjflfmaa
open Go Go.Eng
set_option maxRecDepth 100000
set_option maxHeartbeats 4000000
set_option linter.all false
attribute [local irreducible] WL WC WQ QFun QLoop Does Q1 QRound QAssign Go.Addr.add
attribute [local irreducible] midL strs headN mid
theorem match_head {A B : List Tx} {aa ab : Option Addr} {ca cb : Nat} {w0 : World} {m : Mem} {H : SHeap} {Q : Exit → Act → World → Prop} (hA : A.length ≤ 4194304) (hB : B.length ≤ 4194304) (ha : RowR w0 m H 1 aa (strs A)) (hb : RowR w0 m H 1 ab (strs B))
    (hK : WQ 115 w0 Q (.exit 0) [(5, .int .i64 (headN A B : Int)), (0, .slice aa A.length ca), (1, .slice ab B.length cb)] [] m H) :
    WC Try.prog none 115 w0 ((loopsIn (Try.f25.body.getD .skip)).getD 0 .skip) Q [(5, .int .i64 0), (0, .slice aa A.length ca), (1, .slice ab B.length cb)] [] m H := by
  have hal : (strs A).length = A.length := by simp [strs]
  have hbl : (strs B).length = B.length := by simp [strs]
  refine WC.loopH [(5, .int .i64 ((0) : Int)), (0, .slice aa A.length ca), (1, .slice ab B.length cb)] ?_ ?_ (fun j r ds m' H' => ∃ h, j = A.length - h ∧ r = [(5, .int .i64 (h : Int)), (0, .slice aa A.length ca), (1, .slice ab B.length cb)] ∧ ds = [] ∧ m = m' ∧ H' = H ∧ (h ≤ A.length ∧ h ≤ B.length) ∧ (headN A B = h + headN (A.drop h) (B.drop h))) (A.length - (0)) ⟨0, rfl, rfl, rfl, rfl, rfl, ⟨by omega, by omega⟩, by simp⟩ ?_
  · (repeat (first | exact Env.Sub.nil | refine Env.Sub.cons rfl ?_))
  · exact zpk
  rintro j r ds m' H' ⟨h, rfl, rfl, rfl, rfl, rfl, hh, hN⟩
  by_cases hlt : h < A.length ∧ h < B.length
  · obtain ⟨hlA, hlB⟩ := hlt
    obtain ⟨x, hx⟩ : ∃ x, A[h]? = some x := ⟨_, List.getElem?_eq_getElem hlA⟩
    obtain ⟨y, hy⟩ : ∃ y, B[h]? = some y := ⟨_, List.getElem?_eq_getElem hlB⟩
    have hgx := strs_get hx
    have hgy := strs_get hy
    have hst := headN_step hx hy
    generalize hSA : strs A = SA at *
    generalize hSB : strs B = SB at *
    refine WC.rSome ha (by omega) ?_
    rintro a0 rfl
    refine WC.rSome hb (by omega) ?_
    rintro b0 rfl
    by_cases hxy : x = y
    · rw [if_pos hxy] at hst
      (try (refine st ?_; intros))
      refine WQ.next (A.length - (h + 1)) ⟨h + 1, rfl, rfl, rfl, rfl, rfl, ?_, ?_⟩ (by omega) zsb zpk
      · exact ⟨by omega, by omega⟩
      · omega
    · rw [if_neg hxy] at hst
      rw [show headN A B = h by omega] at hK
      (try (refine st ?_; intros))
      exact WQ.weak zsb zpk hK
  · have hst := headN_nil (A := A) (B := B) (h := h) (by omega)
    have hl2 : ¬ h < A.length ∨ h < A.length ∧ ¬ h < B.length := by omega
    rw [show headN A B = h by omega] at hK
    rcases hl2 with hl2 | ⟨hl2, hl3⟩
    · (try (refine st ?_; intros))
      exact WQ.weak zsb zpk hK
    · (try (refine st ?_; intros))
      exact WQ.weak zsb zpk hK
theorem match_tail {A B : List Tx} {aa ab : Option Addr} {ca cb h : Nat} {w0 : World} {m : Mem} {H : SHeap} {Q : Exit → Act → World → Prop} (hA : A.length ≤ 4194304) (hB : B.length ≤ 4194304) (hh : h ≤ A.length ∧ h ≤ B.length) (ha : RowR w0 m H 1 aa (strs A)) (hb : RowR w0 m H 1 ab (strs B))
    (hK : WQ 115 w0 Q (.exit 2) [(6, .int .i64 (headN ((A.drop h).reverse) ((B.drop h).reverse) : Int)), (5, .int .i64 (h : Int)), (0, .slice aa A.length ca), (1, .slice ab B.length cb)] [] m H) :
    WC Try.prog none 115 w0 ((loopsIn (Try.f25.body.getD .skip)).getD 1 .skip) Q [(6, .int .i64 0), (5, .int .i64 (h : Int)), (0, .slice aa A.length ca), (1, .slice ab B.length cb)] [] m H := by
  have hal : (strs A).length = A.length := by simp [strs]
  have hbl : (strs B).length = B.length := by simp [strs]
  obtain ⟨RA, hRA⟩ : ∃ RA, RA = (A.drop h).reverse := ⟨_, rfl⟩
  obtain ⟨RB, hRB⟩ : ∃ RB, RB = (B.drop h).reverse := ⟨_, rfl⟩
  have hRAl : RA.length = A.length - h := by rw [hRA]; simp
  have hRBl : RB.length = B.length - h := by rw [hRB]; simp
  have hga : ∀ t x, t < A.length - h → RA[t]? = some x → (strs A)[((A.length : Int) - 1 - (t : Int)).toNat]? = some [str x] := fun t x ht hx => by
    rw [hRA, rev_get ht] at hx
    rw [show ((A.length : Int) - 1 - (t : Int)).toNat = A.length - 1 - t by omega]
    exact strs_get hx
  have hgb : ∀ t x, t < B.length - h → RB[t]? = some x → (strs B)[((B.length : Int) - 1 - (t : Int)).toNat]? = some [str x] := fun t x ht hx => by
    rw [hRB, rev_get ht] at hx
    rw [show ((B.length : Int) - 1 - (t : Int)).toNat = B.length - 1 - t by omega]
    exact strs_get hx
  rw [← hRA, ← hRB] at hK
  clear hRA hRB
  refine WC.loopH [(6, .int .i64 ((0) : Int)), (5, .int .i64 (h : Int)), (0, .slice aa A.length ca), (1, .slice ab B.length cb)] ?_ ?_ (fun j r ds m' H' => ∃ t, j = A.length - t ∧ r = [(6, .int .i64 (t : Int)), (5, .int .i64 (h : Int)), (0, .slice aa A.length ca), (1, .slice ab B.length cb)] ∧ ds = [] ∧ m = m' ∧ H' = H ∧ (t ≤ A.length - h ∧ t ≤ B.length - h) ∧ (headN RA RB = t + headN (RA.drop t) (RB.drop t))) (A.length - (0)) ⟨0, rfl, rfl, rfl, rfl, rfl, ⟨by omega, by omega⟩, by simp⟩ ?_
  · (repeat (first | exact Env.Sub.nil | refine Env.Sub.cons rfl ?_))
  · exact zpk
  rintro j r ds m' H' ⟨t, rfl, rfl, rfl, rfl, rfl, ht, hN⟩
  by_cases hlt : t < A.length - h ∧ t < B.length - h
  · obtain ⟨hlA, hlB⟩ := hlt
    obtain ⟨x, hx⟩ : ∃ x, RA[t]? = some x := ⟨_, List.getElem?_eq_getElem (by omega)⟩
    obtain ⟨y, hy⟩ : ∃ y, RB[t]? = some y := ⟨_, List.getElem?_eq_getElem (by omega)⟩
    have hgx := hga t x hlA hx
    have hgy := hgb t y hlB hy
    have hst := headN_step hx hy
    clear hga hgb
    generalize hSA : strs A = SA at *
    generalize hSB : strs B = SB at *
    refine WC.rSome ha (by omega) ?_
    rintro a0 rfl
    refine WC.rSome hb (by omega) ?_
    rintro b0 rfl
    by_cases hxy : x = y
    · rw [if_pos hxy] at hst
      (try (refine st ?_; intros))
      refine WQ.next (A.length - (t + 1)) ⟨t + 1, rfl, rfl, rfl, rfl, rfl, ?_, ?_⟩ (by omega) zsb zpk
      · exact ⟨by omega, by omega⟩
      · omega
    · rw [if_neg hxy] at hst
      rw [show headN RA RB = t by omega] at hK
      (try (refine st ?_; intros))
      exact WQ.weak zsb zpk hK
  · have hst := headN_nil (A := RA) (B := RB) (h := t) (by omega)
    have hl2 : ¬ t < A.length - h ∨ t < A.length - h ∧ ¬ t < B.length - h := by omega
    rw [show headN RA RB = t by omega] at hK
    rcases hl2 with hl2 | ⟨hl2, hl3⟩
    · (try (refine st ?_; intros))
      exact WQ.weak zsb zpk hK
    · (try (refine st ?_; intros))
      exact WQ.weak zsb zpk hK
end Go.Proofs.Ytieangfnjflfmaa

/-
  The walk of draft.match, put together. No condition.
-/
namespace Go.Eng
open Go Go.RowKit
def diagL (a b n : Nat) : List (Nat × Nat) := (List.range n).map fun i => (a + i, b + i)
theorem diagL_length (a b n : Nat) : (diagL a b n).length = n := by simp [diagL]
theorem diagL_succ (a b n : Nat) : diagL a b (n + 1) = diagL a b n ++ [(a + n, b + n)] := by
  unfold diagL; rw [List.range_succ, List.map_append]; rfl
theorem prE_two (L : List (Nat × Nat)) : ∀ q ∈ L.map prE, q.length = 2 := by
  intro q hq
  obtain ⟨p, _, rfl⟩ := List.mem_map.1 hq
  rfl
theorem prE_ok (L : List (Nat × Nat)) : ∀ q ∈ L.map prE, q.all okCell = true := by
  intro q hq
  obtain ⟨p, _, rfl⟩ := List.mem_map.1 hq
  rfl
theorem mid_len (A B : List Tx) (k : Nat) : (mid A B k).length ≤ 1024 := by
  unfold mid
  split
  · rename_i h
    rw [midL_length]
    have := (lcs_le A B).1
    omega
  · simp
theorem match_eq (A B : List Tx) : matchL A B = diagL 0 0 (headN A B) ++ mid (midA A B) (midB A B) (headN A B) ++ diagL (A.length - tailN A B) (B.length - tailN A B) (tailN A B) := by
  unfold matchL mid diagL
  simp
end Go.Eng
namespace Go.Proofs.Ytieangfnjflfmaa
open Go Go.Eng
set_option maxRecDepth 100000
set_option maxHeartbeats 4000000
set_option linter.all false
attribute [local irreducible] WL WC WQ QFun QLoop Does Q1 QRound QAssign Go.Addr.add
attribute [local irreducible] midL strs headN mid diagL
theorem match_any {A B : List Tx} {aa ab : Option Addr} {ca cb : Nat} {w0 : World} {m : Mem} {H : SHeap} (hA : A.length ≤ 4194304) (hB : B.length ≤ 4194304) (hcA : A.length ≤ ca) (hcB : B.length ≤ cb) (ha : RowR w0 m H 1 aa (strs A)) (hb : RowR w0 m H 1 ab (strs B)) :
    Does Try.prog 25 #[.slice aa A.length ca, .slice ab B.length cb] w0 m H (fun v m' H' => m' = m ∧ ∃ a cp, v = .slice a (matchL A B).length cp ∧ H' = .row a cp 44 2 ((matchL A B).map prE) :: H) := by
  refine Does.of_body (args := [.slice aa A.length ca, .slice ab B.length cb]) Try.func25 rfl Try.ntmps25 rfl ?_
  have hal : (strs A).length = A.length := by simp [strs]
  have hbl : (strs B).length = B.length := by simp [strs]
  rw [match_eq]
  have hht := tailN_le A B
  have hhl := headN_le A B
  have hTd : tailN A B = headN ((A.drop (headN A B)).reverse) ((B.drop (headN A B)).reverse) := rfl
  have hmA : midA A B = (A.take (A.length - tailN A B)).drop (headN A B) := rfl
  have hmB : midB A B = (B.take (B.length - tailN A B)).drop (headN A B) := rfl
  (try (refine st ?_; intros))
  refine WC.weak zsb zpk (match_head hA hB ha hb ?_)
  generalize headN A B = h at *
  (try (refine st ?_; intros))
  refine WC.weak zsb zpk (match_tail hA hB hhl ha hb ?_)
  rw [← hTd]
  clear hTd
  generalize tailN A B = t at *
  have hmAl : (midA A B).length = A.length - t - h := by rw [hmA, List.length_drop, List.length_take]; omega
  have hmBl : (midB A B).length = B.length - t - h := by rw [hmB, List.length_drop, List.length_take]; omega
  have hsa := ha.sub (lo := h) (hi := A.length - t) (cap := ca) (by omega) (by omega)
  have hsb := hb.sub (lo := h) (hi := B.length - t) (cap := cb) (by omega) (by omega)
  rw [strs_sub, ← hmA] at hsa
  rw [strs_sub, ← hmB] at hsb
  generalize midA A B = MA at *
  generalize midB A B = MB at *
  clear hmA hmB ha hb
  (try (refine st ?_; intros))
  refine WC.newRow (T := 44) (sz := 2) ?_
  rw [show ([] : List (List Value)) = (diagL 0 0 0).map prE from by unfold diagL; rfl]
  refine WC.loopH [(69, .int .i64 ((0) : Int)), (68, .int .i64 (h : Int)), (7, .slice (none) (0) (0)), (6, .int .i64 (t : Int)), (5, .int .i64 (h : Int)), (0, .slice aa A.length ca), (1, .slice ab B.length cb)] ?_ ?_ (fun j r ds m' H' => ∃ (i : Nat) (a : Option Addr) (cp : Nat), j = h - i ∧ r = [(69, .int .i64 (i : Int)), (68, .int .i64 (h : Int)), (7, .slice a i cp), (6, .int .i64 (t : Int)), (5, .int .i64 (h : Int)), (0, .slice aa A.length ca), (1, .slice ab B.length cb)] ∧ ds = [] ∧ m = m' ∧ H' = .row a cp 44 2 ((diagL 0 0 i).map prE) :: H ∧ (i ≤ h)) (h - (0)) ⟨0, none, 0, rfl, rfl, rfl, rfl, rfl, by omega⟩ ?_
  · (repeat (first | exact Env.Sub.nil | refine Env.Sub.cons rfl ?_))
  · exact zpk
  rintro j r ds m' H' ⟨i, a, cp, rfl, rfl, rfl, rfl, rfl, hi⟩
  by_cases hlt : i < h
  · have hdl : ((diagL 0 0 i).map prE).length = i := by rw [List.length_map, diagL_length]
    have hds : (diagL 0 0 (i + 1)).map prE = (diagL 0 0 i).map prE ++ [[.int .i64 (i : Int), .int .i64 (i : Int)]] := by rw [diagL_succ, List.map_append]; simp [prE]
    generalize (diagL 0 0 i).map prE = LE at *
    (refine st ?_; intros; rename_i b9 a2 cp2)
    rw [hdl, ← hds]
    refine WQ.next (h - (i + 1)) ⟨i + 1, a2, cp2, rfl, rfl, rfl, rfl, rfl, ?_⟩ (by omega) zsb zpk
    · omega
  · obtain rfl : i = h := by omega
    have hdl : ((diagL 0 0 i).map prE).length = i := by rw [List.length_map, diagL_length]
    have hdo := prE_ok (diagL 0 0 i)
    have hd2 := prE_two (diagL 0 0 i)
    have hml := mid_len MA MB i
    have hme : ((mid MA MB i).map prE).length = (mid MA MB i).length := List.length_map _
    generalize hLE : (diagL 0 0 i).map prE = LE at *
    (try (refine st ?_; intros))
    refine WC.drawE 18 ([]) (.row a cp 44 2 LE :: H) rfl (by decide +kernel) zpk ?_
    (refine cm0 ?_)
    refine WE.act1 16 (by decide +kernel) rfl rfl (fun c h => by cases h) ?_
    have e1 : subSl aa ca i (A.length - t) 1 = .slice (if ca = i then aa else aa.map (·.add (i * 1))) MA.length (ca - i) := by unfold subSl; rw [hmAl]
    have e2 : subSl ab cb i (B.length - t) 1 = .slice (if cb = i then ab else ab.map (·.add (i * 1))) MB.length (cb - i) := by unfold subSl; rw [hmBl]
    rw [e1, e2]
    refine w_callF Try.func44 ?_ (hs := middle_any (k0 := i) (by omega) (by omega) (by omega) hsa.more hsb.more)
    rintro v m H9 ⟨rfl, a2, cp2, rfl, rfl⟩
    (try (refine st ?_; intros))
    refine WQ.acted (B := []) (U := .row a2 cp2 44 2 ((mid MA MB i).map prE) :: .row a cp 44 2 LE :: H) rfl (Mem.le.refl _) zpk ?_
    (refine cm0 ?_)
    refine WE.act1 17 (by decide +kernel) rfl rfl (fun c h => by cases h) ?_
    refine WL.appendR (es := LE) (es' := (mid MA MB i).map prE) (by' := 16) rfl rfl rfl rfl (by (repeat (first | exact Out.here | apply Out.there))) (RowR.row (T := 44) (cap := cp2) zhs) (prE_ok _) (prE_two _) rfl rfl rfl rfl hdl.symm hme.symm (by rw [hdl, hme]; omega) (by omega) rfl ?_
    intro a3 cp3
    (try (refine st ?_; intros))
    refine WQ.acted (B := []) (U := .row a3 cp3 44 2 (LE ++ (mid MA MB i).map prE) :: .row a2 cp2 44 2 ((mid MA MB i).map prE) :: H) rfl (Mem.le.refl _) zpk ?_
    (refine cm0 ?_)
    refine WE.done (by decide +kernel) ?_
    rw [hdl, hme]
    obtain ⟨P, hP⟩ : ∃ P, P = diagL 0 0 i ++ mid MA MB i := ⟨_, rfl⟩
    have hPl : P.length = i + (mid MA MB i).length := by rw [hP, List.length_append, diagL_length]
    rw [show LE ++ (mid MA MB i).map prE = (P ++ diagL (A.length - t) (B.length - t) 0).map prE by rw [← hLE, hP, ← List.map_append, show diagL (A.length - t) (B.length - t) 0 = [] from by unfold diagL; rfl, List.append_nil], ← hPl, ← hP]
    clear hdo hd2 hLE hsa hsb e1 e2
    (try (refine st ?_; intros))
    refine WC.loopH [(9, .int .i64 ((t : Int) - ((0) : Int))), (7, .slice (a3) (P.length + (0)) (cp3)), (0, .slice aa A.length ca), (1, .slice ab B.length cb)] ?_ ?_ (fun j r ds m' H' => ∃ (c : Nat) (a : Option Addr) (cp : Nat), j = t - c ∧ r = [(9, .int .i64 ((t : Int) - (c : Int))), (7, .slice a (P.length + c) cp), (0, .slice aa A.length ca), (1, .slice ab B.length cb)] ∧ ds = [] ∧ m = m' ∧ H' = .row a cp 44 2 ((P ++ diagL (A.length - t) (B.length - t) c).map prE) :: .row a2 cp2 44 2 ((mid MA MB i).map prE) :: H ∧ (c ≤ t)) (t - (0)) ⟨0, a3, cp3, rfl, rfl, rfl, rfl, rfl, by omega⟩ ?_
    · (repeat (first | exact Env.Sub.nil | refine Env.Sub.cons rfl ?_))
    · exact zpk
    rintro j r ds m' H' ⟨c, a, cp, rfl, rfl, rfl, rfl, rfl, hc⟩
    by_cases hlt : c < t
    · have hdl2 : ((P ++ diagL (A.length - t) (B.length - t) c).map prE).length = P.length + c := by rw [List.length_map, List.length_append, diagL_length]
      have hds : (P ++ diagL (A.length - t) (B.length - t) (c + 1)).map prE = (P ++ diagL (A.length - t) (B.length - t) c).map prE ++ [[.int .i64 ((A.length : Int) - ((t : Int) - (c : Int))), .int .i64 ((B.length : Int) - ((t : Int) - (c : Int)))]] := by
        rw [diagL_succ, ← List.append_assoc, List.map_append, List.map_append]
        simp only [List.map_cons, List.map_nil, prE]
        rw [show ((A.length - t + c : Nat) : Int) = (A.length : Int) - ((t : Int) - (c : Int)) by omega, show ((B.length - t + c : Nat) : Int) = (B.length : Int) - ((t : Int) - (c : Int)) by omega]
      generalize (P ++ diagL (A.length - t) (B.length - t) c).map prE = LE2 at *
      (refine st ?_; intros; rename_i b9 a4 cp4)
      rw [hdl2, ← hds, show (t : Int) - (c : Int) - 1 = (t : Int) - ((c + 1 : Nat) : Int) by omega]
      refine WQ.next (t - (c + 1)) ⟨c + 1, a4, cp4, rfl, rfl, rfl, rfl, rfl, ?_⟩ (by omega) zsb zpk
      · omega
    · obtain rfl : c = t := by omega
      (try (refine st ?_; intros))
      exact q_fin0 (H0 := .row a cp 44 2 ((P ++ diagL (A.length - c) (B.length - c) c).map prE) :: H) ⟨rfl, a, cp, by rw [List.length_append, diagL_length], rfl⟩ (hd := zpk)
end Go.Proofs.Ytieangfnjflfmaa

/-
  The walk of the reference's longest: a row of the table. No condition.
-/
namespace Go.Eng
open Go Go.RowKit
/-- a row of the reference's table, reckoned from a place on -/
def rowQ (A B : List Tx) (i k : Nat) : List (List Value) := (List.range (B.length + 1)).map fun j => [.int .i64 (cut16 A B i k j)]
theorem rowQ_length (A B : List Tx) (i k : Nat) : (rowQ A B i k).length = B.length + 1 := by simp [rowQ]
theorem rowQ_get {A B : List Tx} {i k j : Nat} (hj : j ≤ B.length) : (rowQ A B i k)[j]? = some [.int .i64 (cut16 A B i k j)] := by
  unfold rowQ
  rw [List.getElem?_map, List.getElem?_range (by omega)]; rfl
theorem rowQ_set {A B : List Tx} {i k : Nat} {v : Int} (hv : v = (lcs (A.drop i) (B.drop k) : Int)) : (rowQ A B i (k + 1)).set k [.int .i64 v] = rowQ A B i k := by
  apply List.ext_getElem? 
  intro j
  rw [List.getElem?_set]
  by_cases hj : j ≤ B.length
  · rw [rowQ_get hj, rowQ_get hj, rowQ_length]
    by_cases e : k = j
    · subst e
      rw [if_pos rfl, if_pos (by omega), cut16_ge (Nat.le_refl _), hv]
    · rw [if_neg e]
      unfold cut16
      by_cases h : k + 1 ≤ j
      · rw [if_pos h, if_pos (by omega)]
      · rw [if_neg h, if_neg (by omega)]
  · have h0 : ∀ k, (rowQ A B i k)[j]? = none := fun k => List.getElem?_eq_none (by rw [rowQ_length]; omega)
    rw [h0, h0, rowQ_length]
    split
    · rw [if_neg (by omega)]
    · rfl
theorem rowQ_zero {A B : List Tx} {i k : Nat} (h : B.length ≤ k ∨ A.length ≤ i) : rowQ A B i k = List.replicate (B.length + 1) [.int .i64 0] := by
  apply List.ext_getElem?
  intro j
  by_cases hj : j ≤ B.length
  · rw [rowQ_get hj, List.getElem?_replicate, if_pos (by omega)]
    congr 3
    unfold cut16
    split
    · rcases h with h | h
      · rw [List.drop_of_length_le (l := B) (by omega), lcs_nil]; rfl
      · rw [List.drop_of_length_le (l := A) (by omega), lcs_nil']; rfl
    · rfl
  · rw [List.getElem?_eq_none (by rw [rowQ_length]; omega), List.getElem?_eq_none (by rw [List.length_replicate]; omega)]
end Go.Eng
namespace Go.Proofs.Ytieangfnjflfmaa
open Go Go.Eng
set_option maxRecDepth 100000
set_option maxHeartbeats 4000000
set_option linter.all false
attribute [local irreducible] WL WC WQ QFun QLoop Does Q1 QRound QAssign Go.Addr.add
attribute [local irreducible] midL firstJ rowQ outE tabL strs
theorem long_row {A B : List Tx} {aa ab : Option Addr} {ca cb i' q bi b1 bo : Nat} {x : Tx} {E : List (List Value)} {w0 : World} {m : Mem} {Y : SHeap} {Q : Exit → Act → World → Prop} (hA : A.length ≤ 1024) (hB : B.length ≤ 1024) (hx : A[i']? = some x) (hq : A.length + 1 = q)
    (hEl : E.length = q) (hE0 : E[i']? = some [Value.slice (some ⟨bi, 0, none⟩) (B.length + 1) (B.length + 1)]) (hE1 : E[i' + 1]? = some [Value.slice (some ⟨b1, 0, none⟩) (B.length + 1) (B.length + 1)])
    (hr1 : RowR w0 m Y 1 (some ⟨b1, 0, none⟩) (rowQ A B (i' + 1) 0)) (hra : RowR w0 m Y 1 aa (strs A)) (hrb : RowR w0 m Y 1 ab (strs B))
    (hK : WQ 163 w0 Q (.exit 4) [(7, .int .i64 (i' : Int)), (5, .slice (some ⟨bo, 0, none⟩) q q), (0, .slice aa A.length ca), (1, .slice ab B.length cb)] [] m (.row (some ⟨bi, 0, none⟩) (B.length + 1) 3 1 (rowQ A B i' 0) :: .row (some ⟨bo, 0, none⟩) q 51 1 E :: Y)) :
    WC Try.prog none 163 w0 ((loopsIn (Try.f34.body.getD .skip)).getD 2 .skip) Q [(8, .int .i64 ((B.length : Int) - 1)), (7, .int .i64 (i' : Int)), (5, .slice (some ⟨bo, 0, none⟩) q q), (0, .slice aa A.length ca), (1, .slice ab B.length cb)] [] m
      (.row (some ⟨bi, 0, none⟩) (B.length + 1) 3 1 (rowQ A B i' B.length) :: .row (some ⟨bo, 0, none⟩) q 51 1 E :: Y) := by
  have hxd := drop_get hx
  have hxi := (List.getElem?_eq_some_iff.1 hx).1
  have hgx : (strs A)[i']? = some [str x] := strs_get hx
  have hal : (strs A).length = A.length := by simp [strs]
  have hbl2 : (strs B).length = B.length := by simp [strs]
  refine WC.loopH [(8, .int .i64 (((B.length) : Int) - 1)), (7, .int .i64 (i' : Int)), (5, .slice (some ⟨bo, 0, none⟩) q q), (0, .slice aa A.length ca), (1, .slice ab B.length cb)] ?_ ?_ (fun j r ds m' H' => ∃ k, j = 2 * k ∧ r = [(8, .int .i64 ((k : Int) - 1)), (7, .int .i64 (i' : Int)), (5, .slice (some ⟨bo, 0, none⟩) q q), (0, .slice aa A.length ca), (1, .slice ab B.length cb)] ∧ ds = [] ∧ m = m' ∧ H' = .row (some ⟨bi, 0, none⟩) (B.length + 1) 3 1 (rowQ A B i' k) :: .row (some ⟨bo, 0, none⟩) q 51 1 E :: Y ∧ (k ≤ B.length)) (2 * (B.length)) ⟨B.length, rfl, rfl, rfl, rfl, rfl, by omega⟩ ?_
  · (repeat (first | exact Env.Sub.nil | refine Env.Sub.cons rfl ?_))
  · exact zpk
  rintro j r ds m' H' ⟨k, rfl, rfl, rfl, rfl, rfl, hk⟩
  by_cases hkz : k = 0
  · subst hkz
    (try (refine st ?_; intros))
    exact WQ.weak zsb zpk hK
  · obtain ⟨k', rfl⟩ : ∃ k', k = k' + 1 := ⟨k - 1, by omega⟩
    rw [show ((k' + 1 : Nat) : Int) - 1 = (k' : Int) by omega]
    obtain ⟨y, hy⟩ : ∃ y, B[k']? = some y := ⟨_, List.getElem?_eq_getElem (by omega : k' < B.length)⟩
    have hyd := drop_get hy
    have hgy : (strs B)[k']? = some [str y] := strs_get hy
    have hq0 := rowQ_get (A := A) (B := B) (i := i') (k := k' + 1) (j := k' + 1) (by omega)
    have hq1 := rowQ_get (A := A) (B := B) (i := i' + 1) (k := 0) (j := k') (by omega)
    have hq2 := rowQ_get (A := A) (B := B) (i := i' + 1) (k := 0) (j := k' + 1) (by omega)
    rw [cut16_ge (Nat.le_refl _)] at hq0
    rw [cut16_ge (Nat.zero_le _)] at hq1 hq2
    have hst : ∀ v : Int, v = (lcs (A.drop i') (B.drop k') : Int) → (rowQ A B i' (k' + 1)).set k' [.int .i64 v] = rowQ A B i' k' := fun v hv => rowQ_set hv
    have hP0 := rowQ_length A B i' (k' + 1)
    have hP1 := rowQ_length A B (i' + 1) 0
    have hl0 := (lcs_le (A.drop i') (B.drop (k' + 1))).2
    have hl1 := (lcs_le (A.drop (i' + 1)) (B.drop k')).2
    have hl2 := (lcs_le (A.drop (i' + 1)) (B.drop (k' + 1))).2
    rw [List.length_drop] at hl0 hl1 hl2
    rw [hxd, hyd] at hst
    rw [hyd] at hq1 hl1
    rw [hxd] at hq0 hl0
    have hmx : ¬ x = y → max (lcs (A.drop (i' + 1)) (y :: B.drop (k' + 1)) : Int) (lcs (x :: A.drop (i' + 1)) (B.drop (k' + 1)) : Int) = (lcs (x :: A.drop (i' + 1)) (y :: B.drop (k' + 1)) : Int) := fun h => by rw [lcs_ne h]; omega
    have heq : x = y → max (max (lcs (A.drop (i' + 1)) (y :: B.drop (k' + 1)) : Int) (lcs (x :: A.drop (i' + 1)) (B.drop (k' + 1)) : Int)) ((lcs (A.drop (i' + 1)) (B.drop (k' + 1)) : Int) + 1) = (lcs (x :: A.drop (i' + 1)) (y :: B.drop (k' + 1)) : Int) := fun h => by rw [lcs_max, if_pos h]; omega
    generalize lcs (x :: A.drop (i' + 1)) (B.drop (k' + 1)) = n0 at *
    generalize lcs (A.drop (i' + 1)) (y :: B.drop (k' + 1)) = n1 at *
    generalize lcs (A.drop (i' + 1)) (B.drop (k' + 1)) = n2 at *
    generalize hP0e : rowQ A B i' (k' + 1) = P0 at *
    generalize rowQ A B (i' + 1) 0 = P1 at *
    generalize strs A = SA at *
    generalize strs B = SB at *
    have up : ∀ {a es P}, RowR w0 m Y 1 a es → RowR w0 m (.row (some ⟨bi, 0, none⟩) (B.length + 1) 3 1 P :: .row (some ⟨bo, 0, none⟩) q 51 1 E :: Y) 1 a es := fun h => h.more.more
    have hr1' := up (P := P0) hr1
    have hra' := up (P := P0) hra
    have hrb' := up (P := P0) hrb
    refine WC.rSome hra' (by omega) ?_
    rintro a0 rfl
    refine WC.rSome hrb' (by omega) ?_
    rintro b0 rfl
    obtain ⟨M1, hM1⟩ : ∃ M1 : Int, M1 = max (n1 : Int) (n0 : Int) := ⟨_, rfl⟩
    have hr2' := up (P := P0.set k' [.int .i64 M1]) hr1
    have hra2' := up (P := P0.set k' [.int .i64 M1]) hra
    have hrb2' := up (P := P0.set k' [.int .i64 M1]) hrb
    have hg2 : (P0.set k' [.int .i64 M1])[k']? = some [.int .i64 M1] := List.getElem?_set_self (by omega)
    have hP2 : (P0.set k' [.int .i64 M1]).length = B.length + 1 := by rw [List.length_set]; exact hP0
    rw [hM1] at hr2' hra2' hrb2' hg2 hP2
    by_cases hxy : x = y
    · (try (refine st ?_; intros))
      rw [List.set_set, hst _ (heq hxy)]
      refine WQ.next (2 * (k')) ⟨k', rfl, rfl, rfl, rfl, rfl, ?_⟩ (by omega) zsb zpk
      · omega
    · (try (refine st ?_; intros))
      rw [hst _ (hmx hxy)]
      refine WQ.next (2 * (k')) ⟨k', rfl, rfl, rfl, rfl, rfl, ?_⟩ (by omega) zsb zpk
      · omega
end Go.Proofs.Ytieangfnjflfmaa

/-
  The walk of the reference's longest: the search for a pair. No condition.
-/
namespace Go.Proofs.Ytieangfnjflfmaa
open Go Go.Eng
set_option maxRecDepth 100000
set_option maxHeartbeats 4000000
set_option linter.all false
attribute [local irreducible] WL WC WQ QFun QLoop Does Q1 QRound QAssign Go.Addr.add
attribute [local irreducible] midL firstJ rowQ outE tabL strs
theorem long_z {A B : List Tx} {aa ab a : Option Addr} {ca cb cp i k x n q bi b1 bo : Nat} {X : Tx} {E : List (List Value)} {L : List (Nat × Nat)} {w0 : World} {m : Mem} {Y : SHeap} {Q : Exit → Act → World → Prop} (hA : A.length ≤ 1024) (hB : B.length ≤ 1024) (hx : A[x]? = some X) (hk : k ≤ B.length) (hi : i ≤ A.length) (hn : n = lcs (A.drop i) (B.drop k)) (hq : A.length + 1 = q)
    (hEl : E.length = q) (hE0 : E[i]? = some [Value.slice (some ⟨bi, 0, none⟩) (B.length + 1) (B.length + 1)]) (hE1 : E[x + 1]? = some [Value.slice (some ⟨b1, 0, none⟩) (B.length + 1) (B.length + 1)])
    (hr0 : RowR w0 m Y 1 (some ⟨bi, 0, none⟩) (rowQ A B i 0)) (hr1 : RowR w0 m Y 1 (some ⟨b1, 0, none⟩) (rowQ A B (x + 1) 0)) (hra : RowR w0 m Y 1 aa (strs A)) (hrb : RowR w0 m Y 1 ab (strs B))
    (hno : firstJ X (A.drop (x + 1)) n (B.drop k) = none → WQ 163 w0 Q (.exit 10) [(13, .int .i64 (-1)), (12, .int .i64 (x : Int)), (11, .int .i64 (k : Int)), (10, .int .i64 (i : Int)), (9, .slice a L.length cp), (5, .slice (some ⟨bo, 0, none⟩) q q), (0, .slice aa A.length ca), (1, .slice ab B.length cb)] [] m (.row a cp 44 2 (L.map prE) :: .row (some ⟨bo, 0, none⟩) q 51 1 E :: Y))
    (hyes : ∀ p : Nat, k ≤ p → p < B.length → firstJ X (A.drop (x + 1)) n (B.drop k) = some (p - k) → WQ 163 w0 Q (.exit 10) [(13, .int .i64 (p : Int)), (12, .int .i64 (x : Int)), (11, .int .i64 (k : Int)), (10, .int .i64 (i : Int)), (9, .slice a L.length cp), (5, .slice (some ⟨bo, 0, none⟩) q q), (0, .slice aa A.length ca), (1, .slice ab B.length cb)] [] m (.row a cp 44 2 (L.map prE) :: .row (some ⟨bo, 0, none⟩) q 51 1 E :: Y)) :
    WC Try.prog none 163 w0 ((loopsIn (Try.f34.body.getD .skip)).getD 5 .skip) Q [(14, .int .i64 (k : Int)), (13, .int .i64 (-1)), (12, .int .i64 (x : Int)), (11, .int .i64 (k : Int)), (10, .int .i64 (i : Int)), (9, .slice a L.length cp), (5, .slice (some ⟨bo, 0, none⟩) q q), (0, .slice aa A.length ca), (1, .slice ab B.length cb)] [] m (.row a cp 44 2 (L.map prE) :: .row (some ⟨bo, 0, none⟩) q 51 1 E :: Y) := by
  have hxi := (List.getElem?_eq_some_iff.1 hx).1
  have hgx : (strs A)[x]? = some [str X] := strs_get hx
  have hal : (strs A).length = A.length := by simp [strs]
  have hbl2 : (strs B).length = B.length := by simp [strs]
  have hn1 := rowQ_get (A := A) (B := B) (i := i) (k := 0) (j := k) (by omega)
  rw [cut16_ge (Nat.zero_le _), ← hn] at hn1
  have hnl := (lcs_le (A.drop i) (B.drop k)).2
  rw [List.length_drop, ← hn] at hnl
  have hP0 := rowQ_length A B i 0
  have hP1 := rowQ_length A B (x + 1) 0
  have hqs : ∀ p, p + 1 ≤ B.length → (rowQ A B (x + 1) 0)[p + 1]? = some [.int .i64 (lcs (A.drop (x + 1)) (B.drop (p + 1)) : Int)] := fun p hp => by
    rw [rowQ_get hp, cut16_ge (Nat.zero_le _)]
  clear hn
  generalize rowQ A B (x + 1) 0 = P1 at *
  generalize rowQ A B i 0 = P0 at *
  generalize L.map prE = LE at *
  have hr0' : RowR w0 m (.row a cp 44 2 LE :: .row (some ⟨bo, 0, none⟩) q 51 1 E :: Y) 1 (some ⟨bi, 0, none⟩) P0 := hr0.more.more
  have hr1' : RowR w0 m (.row a cp 44 2 LE :: .row (some ⟨bo, 0, none⟩) q 51 1 E :: Y) 1 (some ⟨b1, 0, none⟩) P1 := hr1.more.more
  have hra' : RowR w0 m (.row a cp 44 2 LE :: .row (some ⟨bo, 0, none⟩) q 51 1 E :: Y) 1 aa (strs A) := hra.more.more
  have hrb' : RowR w0 m (.row a cp 44 2 LE :: .row (some ⟨bo, 0, none⟩) q 51 1 E :: Y) 1 ab (strs B) := hrb.more.more
  have hgys : ∀ p y, B[p]? = some y → (strs B)[p]? = some [str y] := fun p y h => strs_get h
  generalize strs A = SA at *
  generalize strs B = SB at *
  refine WC.rSome hra' (by omega) ?_
  rintro a0 rfl
  refine WC.loopH [(14, .int .i64 ((k) : Int)), (13, .int .i64 (-1)), (12, .int .i64 (x : Int)), (11, .int .i64 (k : Int)), (10, .int .i64 (i : Int)), (9, .slice a L.length cp), (5, .slice (some ⟨bo, 0, none⟩) q q), (0, .slice (some a0) A.length ca), (1, .slice ab B.length cb)] ?_ ?_ (fun j r ds m' H' => ∃ p, j = B.length - p ∧ r = [(14, .int .i64 (p : Int)), (13, .int .i64 (-1)), (12, .int .i64 (x : Int)), (11, .int .i64 (k : Int)), (10, .int .i64 (i : Int)), (9, .slice a L.length cp), (5, .slice (some ⟨bo, 0, none⟩) q q), (0, .slice (some a0) A.length ca), (1, .slice ab B.length cb)] ∧ ds = [] ∧ m = m' ∧ H' = .row a cp 44 2 LE :: .row (some ⟨bo, 0, none⟩) q 51 1 E :: Y ∧ (k ≤ p) ∧ (p ≤ B.length) ∧ (firstJ X (A.drop (x + 1)) n (B.drop k) = (firstJ X (A.drop (x + 1)) n (B.drop p)).map (· + (p - k)))) (B.length - (k)) ⟨k, rfl, rfl, rfl, rfl, rfl, by omega, by omega, by rw [Nat.sub_self]; cases firstJ X (A.drop (x + 1)) n (B.drop k) <;> rfl⟩ ?_
  · (repeat (first | exact Env.Sub.nil | refine Env.Sub.cons rfl ?_))
  · exact zpk
  rintro j r ds m' H' ⟨p, rfl, rfl, rfl, rfl, rfl, hkp, hpB, hf⟩
  by_cases hlt : p < B.length
  · obtain ⟨y, hy⟩ : ∃ y, B[p]? = some y := ⟨_, List.getElem?_eq_getElem hlt⟩
    have hyd := drop_get hy
    have hgy := hgys p y hy
    have hq1 := hqs p (by omega)
    rw [hyd, firstJ_cons] at hf
    have hl1 := (lcs_le (A.drop (x + 1)) (B.drop (p + 1))).2
    rw [List.length_drop] at hl1
    generalize hv : lcs (A.drop (x + 1)) (B.drop (p + 1)) = v at *
    refine WC.rSome hrb' (by omega) ?_
    rintro b0 rfl
    by_cases hxy : X = y
    · by_cases hvn : v + 1 = n
      · rw [if_pos ⟨hxy, hvn⟩] at hf
        have hfin := hyes p hkp hlt (by rw [hf]; simp)
        have hvn' : (v : Int) + 1 = (n : Int) := by omega
        (try (refine st ?_; intros))
        exact WQ.weak zsb zpk hfin
      · rw [if_neg (fun g => hvn g.2), map_shift (show 1 + (p - k) = p + 1 - k by omega)] at hf
        have hvn' : (v : Int) + 1 ≠ (n : Int) := by omega
        (try (refine st ?_; intros))
        refine WQ.next (B.length - (p + 1)) ⟨p + 1, rfl, rfl, rfl, rfl, rfl, ?_, ?_, ?_⟩ (by omega) zsb zpk
        · omega
        · omega
        · exact hf
    · rw [if_neg (fun g => hxy g.1), map_shift (show 1 + (p - k) = p + 1 - k by omega)] at hf
      (try (refine st ?_; intros))
      refine WQ.next (B.length - (p + 1)) ⟨p + 1, rfl, rfl, rfl, rfl, rfl, ?_, ?_, ?_⟩ (by omega) zsb zpk
      · omega
      · omega
      · exact hf
  · rw [List.drop_of_length_le (by omega : B.length ≤ p), show firstJ X (A.drop (x + 1)) n [] = none by unfold firstJ; rfl] at hf
    (try (refine st ?_; intros))
    exact WQ.weak zsb zpk (hno hf)
theorem long_x {A B : List Tx} {aa ab a : Option Addr} {ca cb cp i k q bi bo : Nat} {bs : List Nat} {E : List (List Value)} {L : List (Nat × Nat)} {w0 : World} {m : Mem} {Y : SHeap} {Q : Exit → Act → World → Prop} (hA : A.length ≤ 1024) (hB : B.length ≤ 1024) (hk : k ≤ B.length) (hi : i ≤ A.length) (hpos : 0 < lcs (A.drop i) (B.drop k)) (hq : A.length + 1 = q)
    (hEl : E.length = q) (hE0 : E[i]? = some [Value.slice (some ⟨bi, 0, none⟩) (B.length + 1) (B.length + 1)]) (hbs : bs.length = q) (hEg : ∀ (i b : Nat), bs[i]? = some b → E[i]? = some [Value.slice (some ⟨b, 0, none⟩) (B.length + 1) (B.length + 1)])
    (hr0 : RowR w0 m Y 1 (some ⟨bi, 0, none⟩) (rowQ A B i 0)) (hrows : ∀ (i b : Nat), bs[i]? = some b → RowR w0 m Y 1 (some ⟨b, 0, none⟩) (rowQ A B i 0)) (hra : RowR w0 m Y 1 aa (strs A)) (hrb : RowR w0 m Y 1 ab (strs B))
    (hK : ∀ x p : Nat, i ≤ x → x < A.length → k ≤ p → p < B.length → midL (A.drop i) (B.drop k) i k = (x, p) :: midL (A.drop (x + 1)) (B.drop (p + 1)) (x + 1) (p + 1) → WQ 163 w0 Q (.exit 8) [(13, .int .i64 (p : Int)), (12, .int .i64 ((x + 1 : Nat) : Int)), (11, .int .i64 (k : Int)), (10, .int .i64 (i : Int)), (9, .slice a L.length cp), (5, .slice (some ⟨bo, 0, none⟩) q q), (0, .slice aa A.length ca), (1, .slice ab B.length cb)] [] m (.row a cp 44 2 (L.map prE) :: .row (some ⟨bo, 0, none⟩) q 51 1 E :: Y)) :
    WC Try.prog none 163 w0 ((loopsIn (Try.f34.body.getD .skip)).getD 4 .skip) Q [(13, .int .i64 (-1)), (12, .int .i64 (i : Int)), (11, .int .i64 (k : Int)), (10, .int .i64 (i : Int)), (9, .slice a L.length cp), (5, .slice (some ⟨bo, 0, none⟩) q q), (0, .slice aa A.length ca), (1, .slice ab B.length cb)] [] m (.row a cp 44 2 (L.map prE) :: .row (some ⟨bo, 0, none⟩) q 51 1 E :: Y) := by
  refine WC.loopH [(13, .int .i64 (-1)), (12, .int .i64 ((i) : Int)), (11, .int .i64 (k : Int)), (10, .int .i64 (i : Int)), (9, .slice a L.length cp), (5, .slice (some ⟨bo, 0, none⟩) q q), (0, .slice aa A.length ca), (1, .slice ab B.length cb)] ?_ ?_ (fun j r ds m' H' => ∃ (x : Nat) (y : Int), j = (A.length + 1 - x) ∧ r = [(13, .int .i64 y), (12, .int .i64 (x : Int)), (11, .int .i64 (k : Int)), (10, .int .i64 (i : Int)), (9, .slice a L.length cp), (5, .slice (some ⟨bo, 0, none⟩) q q), (0, .slice aa A.length ca), (1, .slice ab B.length cb)] ∧ ds = [] ∧ m = m' ∧ H' = .row a cp 44 2 (L.map prE) :: .row (some ⟨bo, 0, none⟩) q 51 1 E :: Y ∧ (i ≤ x) ∧ ((y = -1 ∧ lcs (A.drop x) (B.drop k) = lcs (A.drop i) (B.drop k) ∧ midL (A.drop i) (B.drop k) i k = midL (A.drop x) (B.drop k) x k) ∨ (∃ p x' : Nat, y = (p : Int) ∧ x = x' + 1 ∧ i ≤ x' ∧ x' < A.length ∧ k ≤ p ∧ p < B.length ∧ midL (A.drop i) (B.drop k) i k = (x', p) :: midL (A.drop (x' + 1)) (B.drop (p + 1)) (x' + 1) (p + 1)))) ((A.length + 1 - (i))) ⟨i, -1, rfl, rfl, rfl, rfl, rfl, by omega, .inl ⟨by omega, rfl, rfl⟩⟩ ?_
  · (repeat (first | exact Env.Sub.nil | refine Env.Sub.cons rfl ?_))
  · exact zpk
  rintro j r ds m' H' ⟨x, y, rfl, rfl, rfl, rfl, rfl, hix, hy⟩
  rcases hy with ⟨rfl, hl, hm⟩ | ⟨p, x', rfl, rfl, hix', hx', hkp, hpB, hm⟩
  · have hxA : x < A.length := by
      rcases Nat.lt_or_ge x A.length with h | h
      · exact h
      · rw [List.drop_of_length_le h, lcs_nil'] at hl; omega
    obtain ⟨X, hX⟩ : ∃ X, A[x]? = some X := ⟨_, List.getElem?_eq_getElem hxA⟩
    obtain ⟨b1, hb1⟩ : ∃ b, bs[x + 1]? = some b := ⟨_, List.getElem?_eq_getElem (by omega : x + 1 < bs.length)⟩
    have hstep := hm
    rw [drop_get hX, midL, ← drop_get hX] at hstep
    have hnone := firstJ_none (x := X) (xs := A.drop (x + 1)) (bs := B.drop k)
    rw [← drop_get hX, hl] at hnone
    rw [hl] at hstep
    (try (refine st ?_; intros))
    refine WC.weak zsb zpk (long_z (L := L) (a := a) (cp := cp) (k := k) (i := i) (x := x) (ca := ca) (cb := cb) (bo := bo) hA hB hX hk hi rfl hq hEl hE0 (hEg (x + 1) b1 hb1) hr0 (hrows (x + 1) b1 hb1) hra hrb ?_ ?_)
    · intro hno
      rw [hno] at hstep
      have h2 := hnone hno
      (try (refine st ?_; intros))
      refine WQ.next ((A.length + 1 - (x + 1))) ⟨x + 1, -1, rfl, rfl, rfl, rfl, rfl, ?_, ?_⟩ (by omega) zsb zpk
      · omega
      · exact .inl ⟨rfl, h2.symm, hstep⟩
    · intro p hkp hpB hyes
      rw [hyes] at hstep
      simp only [List.drop_drop] at hstep
      rw [show k + (p - k) = p by omega, show k + (p - k + 1) = p + 1 by omega] at hstep
      (try (refine st ?_; intros))
      refine WQ.next ((A.length + 1 - (x + 1))) ⟨x + 1, (p : Int), rfl, rfl, rfl, rfl, rfl, ?_, ?_⟩ (by omega) zsb zpk
      · omega
      · exact .inr ⟨p, x, rfl, rfl, hix, hxA, hkp, hpB, hstep⟩
  · have hfin := hK x' p hix' hx' hkp hpB hm
    (try (refine st ?_; intros))
    exact WQ.weak zsb zpk hfin
end Go.Proofs.Ytieangfnjflfmaa

