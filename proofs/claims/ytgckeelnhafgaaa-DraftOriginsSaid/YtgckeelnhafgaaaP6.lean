/-
  Parts of a walk, joined: D8 D8b D9 DT6 DT7 D10 D11 WSH D12 EngMC D13. No condition.
-/
import Derived.Test.YtgckeelnhafgaaaP5
import Derived.Test.YtgckeelnhafgaaaP4
import Derived.Shelf.Strings.Builder1
import Derived.Shelf.Strings.Builder2
import Derived.Shelf.Strings.OnBuilder
import Derived.Shelf.Strings.BuilderF
import Derived.Shelf.Strings.BuilderK
import Derived.Shelf.Strings.Builder2Cap
import Derived.Shelf.Strings.BuilderCap
import Derived.Test.YtgckeelnhafgaaaProg
set_option linter.all false
/-
  The walk of draft.middle. No condition.
-/
namespace Go.Eng
open Go Go.RowKit
def prE (p : Nat × Nat) : List Value := [.int .i64 (p.1 : Int), .int .i64 (p.2 : Int)]
def mid (A B : List Tx) (k : Nat) : List (Nat × Nat) := if A.length ≤ 1024 ∧ B.length ≤ 1024 then midL A B k k else []
def cut16 (A B : List Tx) (i k j : Nat) : Int := if k ≤ j then (lcs (A.drop i) (B.drop j) : Int) else 0
/-- a row of the table, reckoned from a place on -/
def rowP (A B : List Tx) (i k : Nat) : List (List Value) := (List.range (B.length + 1)).map fun j => [.int .i16 (cut16 A B i k j)]
theorem rowP_length (A B : List Tx) (i k : Nat) : (rowP A B i k).length = B.length + 1 := by simp [rowP]
theorem rowP_get {A B : List Tx} {i k j : Nat} (hj : j ≤ B.length) : (rowP A B i k)[j]? = some [.int .i16 (cut16 A B i k j)] := by
  unfold rowP
  rw [List.getElem?_map, List.getElem?_range (by omega)]; rfl
theorem cut16_ge {A B : List Tx} {i k j : Nat} (h : k ≤ j) : cut16 A B i k j = (lcs (A.drop i) (B.drop j) : Int) := if_pos h
theorem rowP_set {A B : List Tx} {i k : Nat} {v : Int} (hv : v = (lcs (A.drop i) (B.drop k) : Int)) : (rowP A B i (k + 1)).set k [.int .i16 v] = rowP A B i k := by
  apply List.ext_getElem? 
  intro j
  rw [List.getElem?_set]
  by_cases hj : j ≤ B.length
  · rw [rowP_get hj, rowP_get hj, rowP_length]
    by_cases e : k = j
    · subst e
      rw [if_pos rfl, if_pos (by omega), cut16_ge (Nat.le_refl _), hv]
    · rw [if_neg e]
      unfold cut16
      by_cases h : k + 1 ≤ j
      · rw [if_pos h, if_pos (by omega)]
      · rw [if_neg h, if_neg (by omega)]
  · have h0 : ∀ k, (rowP A B i k)[j]? = none := fun k => List.getElem?_eq_none (by rw [rowP_length]; omega)
    rw [h0, h0, rowP_length]
    split
    · rw [if_neg (by omega)]
    · rfl
theorem rowP_zero {A B : List Tx} {i k : Nat} (h : B.length ≤ k ∨ A.length ≤ i) : rowP A B i k = List.replicate (B.length + 1) [.int .i16 0] := by
  apply List.ext_getElem?
  intro j
  by_cases hj : j ≤ B.length
  · rw [rowP_get hj, List.getElem?_replicate, if_pos (by omega)]
    congr 3
    unfold cut16
    split
    · rcases h with h | h
      · rw [List.drop_of_length_le (l := B) (by omega), lcs_nil]; rfl
      · rw [List.drop_of_length_le (l := A) (by omega), lcs_nil']; rfl
    · rfl
  · rw [List.getElem?_eq_none (by rw [rowP_length]; omega), List.getElem?_eq_none (by rw [List.length_replicate]; omega)]
/-- the row of the rows, so many of them made -/
def outE (bs : List Nat) (c N : Nat) : List (List Value) := (bs.map fun b => [.slice (some ⟨b, 0, none⟩) c c]) ++ List.replicate (N - bs.length) [.slice none 0 0]
theorem outE_set {bs : List Nat} {c N b : Nat} (h : bs.length < N) : (outE bs c N).set bs.length [.slice (some ⟨b, 0, none⟩) c c] = outE (bs ++ [b]) c N := by
  unfold outE
  rw [List.set_append_right _ _ (by simp), List.map_append, List.append_assoc]
  congr 1
  rw [List.length_map, Nat.sub_self, List.length_append, List.length_singleton, show N - bs.length = (N - (bs.length + 1)) + 1 by omega, List.replicate_succ]
  rfl
theorem outE_length {bs : List Nat} {c N : Nat} (h : bs.length ≤ N) : (outE bs c N).length = N := by
  unfold outE
  rw [List.length_append, List.length_map, List.length_replicate]; omega
theorem outE_get {bs : List Nat} {c N i b : Nat} (h : bs[i]? = some b) : (outE bs c N)[i]? = some [.slice (some ⟨b, 0, none⟩) c c] := by
  have hi := (List.getElem?_eq_some_iff.1 h).1
  unfold outE
  rw [List.getElem?_append_left (by simpa using hi), List.getElem?_map, h]; rfl
theorem drop_get {l : List Tx} {i : Nat} {x : Tx} (h : l[i]? = some x) : l.drop i = x :: l.drop (i + 1) := by
  obtain ⟨hi, he⟩ := List.getElem?_eq_some_iff.1 h
  rw [List.drop_eq_getElem_cons hi, he]
end Go.Eng
namespace Go.Proofs.Ytgckeelnhafgaaa
open Go Go.Eng
set_option maxRecDepth 100000
set_option maxHeartbeats 4000000
set_option linter.all false
attribute [local irreducible] WL WC WQ QFun QLoop Does Q1 QRound QAssign Go.Addr.add
attribute [local irreducible] midL firstJ rowP outE tabL strs
theorem sq_D8_1 {G : Prop} (h : G := by (repeat (first | (refine sp ?_; (repeat intro zzc)) | (refine WL.makeRow (sz:=1) (by':=2) (zs:=[.int .i16 0]) rfl rfl (by (first | with_reducible exact natz _ | with_reducible exact natz0 | with_reducible exact natz1 | with_reducible exact natz2 | with_reducible exact natz3 | with_reducible exact natz4 | with_reducible exact natz8 | (apply natz_add; (· first | with_reducible exact natz _ | with_reducible exact natz0 | with_reducible exact natz1 | with_reducible exact natz2 | with_reducible exact natz3 | with_reducible exact natz4 | with_reducible exact natz8); (· first | with_reducible exact natz _ | with_reducible exact natz0 | with_reducible exact natz1 | with_reducible exact natz2 | with_reducible exact natz3 | with_reducible exact natz4 | with_reducible exact natz8)) | (apply natz_sub; (· first | with_reducible exact natz _ | with_reducible exact natz0 | with_reducible exact natz1 | with_reducible exact natz2 | with_reducible exact natz3 | with_reducible exact natz4 | with_reducible exact natz8); (· first | with_reducible exact natz _ | with_reducible exact natz0 | with_reducible exact natz1 | with_reducible exact natz2 | with_reducible exact natz3 | with_reducible exact natz4 | with_reducible exact natz8); (· omega)) | exact (Int.toNat_of_nonneg (by omega)).symm)) (by (first | with_reducible exact natz _ | with_reducible exact natz0 | with_reducible exact natz1 | with_reducible exact natz2 | with_reducible exact natz3 | with_reducible exact natz4 | with_reducible exact natz8 | (apply natz_add; (· first | with_reducible exact natz _ | with_reducible exact natz0 | with_reducible exact natz1 | with_reducible exact natz2 | with_reducible exact natz3 | with_reducible exact natz4 | with_reducible exact natz8); (· first | with_reducible exact natz _ | with_reducible exact natz0 | with_reducible exact natz1 | with_reducible exact natz2 | with_reducible exact natz3 | with_reducible exact natz4 | with_reducible exact natz8)) | (apply natz_sub; (· first | with_reducible exact natz _ | with_reducible exact natz0 | with_reducible exact natz1 | with_reducible exact natz2 | with_reducible exact natz3 | with_reducible exact natz4 | with_reducible exact natz8); (· first | with_reducible exact natz _ | with_reducible exact natz0 | with_reducible exact natz1 | with_reducible exact natz2 | with_reducible exact natz3 | with_reducible exact natz4 | with_reducible exact natz8); (· omega)) | exact (Int.toNat_of_nonneg (by omega)).symm)) rfl rfl rfl rfl rfl rfl (by decide) (by omega) (by omega) rfl ?_; intro zzc) | (refine WL.makeRow (sz:=1) (by':=24) (zs:=[.slice none 0 0]) rfl rfl (by (first | with_reducible exact natz _ | with_reducible exact natz0 | with_reducible exact natz1 | with_reducible exact natz2 | with_reducible exact natz3 | with_reducible exact natz4 | with_reducible exact natz8 | (apply natz_add; (· first | with_reducible exact natz _ | with_reducible exact natz0 | with_reducible exact natz1 | with_reducible exact natz2 | with_reducible exact natz3 | with_reducible exact natz4 | with_reducible exact natz8); (· first | with_reducible exact natz _ | with_reducible exact natz0 | with_reducible exact natz1 | with_reducible exact natz2 | with_reducible exact natz3 | with_reducible exact natz4 | with_reducible exact natz8)) | (apply natz_sub; (· first | with_reducible exact natz _ | with_reducible exact natz0 | with_reducible exact natz1 | with_reducible exact natz2 | with_reducible exact natz3 | with_reducible exact natz4 | with_reducible exact natz8); (· first | with_reducible exact natz _ | with_reducible exact natz0 | with_reducible exact natz1 | with_reducible exact natz2 | with_reducible exact natz3 | with_reducible exact natz4 | with_reducible exact natz8); (· omega)) | exact (Int.toNat_of_nonneg (by omega)).symm)) (by (first | with_reducible exact natz _ | with_reducible exact natz0 | with_reducible exact natz1 | with_reducible exact natz2 | with_reducible exact natz3 | with_reducible exact natz4 | with_reducible exact natz8 | (apply natz_add; (· first | with_reducible exact natz _ | with_reducible exact natz0 | with_reducible exact natz1 | with_reducible exact natz2 | with_reducible exact natz3 | with_reducible exact natz4 | with_reducible exact natz8); (· first | with_reducible exact natz _ | with_reducible exact natz0 | with_reducible exact natz1 | with_reducible exact natz2 | with_reducible exact natz3 | with_reducible exact natz4 | with_reducible exact natz8)) | (apply natz_sub; (· first | with_reducible exact natz _ | with_reducible exact natz0 | with_reducible exact natz1 | with_reducible exact natz2 | with_reducible exact natz3 | with_reducible exact natz4 | with_reducible exact natz8); (· first | with_reducible exact natz _ | with_reducible exact natz0 | with_reducible exact natz1 | with_reducible exact natz2 | with_reducible exact natz3 | with_reducible exact natz4 | with_reducible exact natz8); (· omega)) | exact (Int.toNat_of_nonneg (by omega)).symm)) rfl rfl rfl rfl rfl rfl (by decide) (by omega) (by omega) rfl ?_; intro zzc) | (refine WL.add16 rfl rfl rfl (by omega) ?_))); exact WQ.q1 rfl) : G := h
theorem st_D8_1 {G G' : Prop} (next : G') (h : Bx G' → G := by intro zzn; (first | ((refine st ?_; (repeat intro zzc)); (try ((first | (refine WL.makeRow (sz:=1) (by':=2) (zs:=[.int .i16 0]) rfl rfl (by (first | with_reducible exact natz _ | with_reducible exact natz0 | with_reducible exact natz1 | with_reducible exact natz2 | with_reducible exact natz3 | with_reducible exact natz4 | with_reducible exact natz8 | (apply natz_add; (· first | with_reducible exact natz _ | with_reducible exact natz0 | with_reducible exact natz1 | with_reducible exact natz2 | with_reducible exact natz3 | with_reducible exact natz4 | with_reducible exact natz8); (· first | with_reducible exact natz _ | with_reducible exact natz0 | with_reducible exact natz1 | with_reducible exact natz2 | with_reducible exact natz3 | with_reducible exact natz4 | with_reducible exact natz8)) | (apply natz_sub; (· first | with_reducible exact natz _ | with_reducible exact natz0 | with_reducible exact natz1 | with_reducible exact natz2 | with_reducible exact natz3 | with_reducible exact natz4 | with_reducible exact natz8); (· first | with_reducible exact natz _ | with_reducible exact natz0 | with_reducible exact natz1 | with_reducible exact natz2 | with_reducible exact natz3 | with_reducible exact natz4 | with_reducible exact natz8); (· omega)) | exact (Int.toNat_of_nonneg (by omega)).symm)) (by (first | with_reducible exact natz _ | with_reducible exact natz0 | with_reducible exact natz1 | with_reducible exact natz2 | with_reducible exact natz3 | with_reducible exact natz4 | with_reducible exact natz8 | (apply natz_add; (· first | with_reducible exact natz _ | with_reducible exact natz0 | with_reducible exact natz1 | with_reducible exact natz2 | with_reducible exact natz3 | with_reducible exact natz4 | with_reducible exact natz8); (· first | with_reducible exact natz _ | with_reducible exact natz0 | with_reducible exact natz1 | with_reducible exact natz2 | with_reducible exact natz3 | with_reducible exact natz4 | with_reducible exact natz8)) | (apply natz_sub; (· first | with_reducible exact natz _ | with_reducible exact natz0 | with_reducible exact natz1 | with_reducible exact natz2 | with_reducible exact natz3 | with_reducible exact natz4 | with_reducible exact natz8); (· first | with_reducible exact natz _ | with_reducible exact natz0 | with_reducible exact natz1 | with_reducible exact natz2 | with_reducible exact natz3 | with_reducible exact natz4 | with_reducible exact natz8); (· omega)) | exact (Int.toNat_of_nonneg (by omega)).symm)) rfl rfl rfl rfl rfl rfl (by decide) (by omega) (by omega) rfl ?_; intro zzc) | (refine WL.makeRow (sz:=1) (by':=24) (zs:=[.slice none 0 0]) rfl rfl (by (first | with_reducible exact natz _ | with_reducible exact natz0 | with_reducible exact natz1 | with_reducible exact natz2 | with_reducible exact natz3 | with_reducible exact natz4 | with_reducible exact natz8 | (apply natz_add; (· first | with_reducible exact natz _ | with_reducible exact natz0 | with_reducible exact natz1 | with_reducible exact natz2 | with_reducible exact natz3 | with_reducible exact natz4 | with_reducible exact natz8); (· first | with_reducible exact natz _ | with_reducible exact natz0 | with_reducible exact natz1 | with_reducible exact natz2 | with_reducible exact natz3 | with_reducible exact natz4 | with_reducible exact natz8)) | (apply natz_sub; (· first | with_reducible exact natz _ | with_reducible exact natz0 | with_reducible exact natz1 | with_reducible exact natz2 | with_reducible exact natz3 | with_reducible exact natz4 | with_reducible exact natz8); (· first | with_reducible exact natz _ | with_reducible exact natz0 | with_reducible exact natz1 | with_reducible exact natz2 | with_reducible exact natz3 | with_reducible exact natz4 | with_reducible exact natz8); (· omega)) | exact (Int.toNat_of_nonneg (by omega)).symm)) (by (first | with_reducible exact natz _ | with_reducible exact natz0 | with_reducible exact natz1 | with_reducible exact natz2 | with_reducible exact natz3 | with_reducible exact natz4 | with_reducible exact natz8 | (apply natz_add; (· first | with_reducible exact natz _ | with_reducible exact natz0 | with_reducible exact natz1 | with_reducible exact natz2 | with_reducible exact natz3 | with_reducible exact natz4 | with_reducible exact natz8); (· first | with_reducible exact natz _ | with_reducible exact natz0 | with_reducible exact natz1 | with_reducible exact natz2 | with_reducible exact natz3 | with_reducible exact natz4 | with_reducible exact natz8)) | (apply natz_sub; (· first | with_reducible exact natz _ | with_reducible exact natz0 | with_reducible exact natz1 | with_reducible exact natz2 | with_reducible exact natz3 | with_reducible exact natz4 | with_reducible exact natz8); (· first | with_reducible exact natz _ | with_reducible exact natz0 | with_reducible exact natz1 | with_reducible exact natz2 | with_reducible exact natz3 | with_reducible exact natz4 | with_reducible exact natz8); (· omega)) | exact (Int.toNat_of_nonneg (by omega)).symm)) rfl rfl rfl rfl rfl rfl (by decide) (by omega) (by omega) rfl ?_; intro zzc) | (refine WL.add16 rfl rfl rfl (by omega) ?_) | ((refine iDraw ?_; (first | refine WC.drawAll rfl (by decide +kernel) ?_ | refine WC.draw 1 rfl (by decide +kernel) ?_ | refine WC.draw 2 rfl (by decide +kernel) ?_ | refine WC.draw 3 rfl (by decide +kernel) ?_ | refine WC.draw 4 rfl (by decide +kernel) ?_ | refine WC.draw 5 rfl (by decide +kernel) ?_ | refine WC.draw 6 rfl (by decide +kernel) ?_ | refine WC.draw 7 rfl (by decide +kernel) ?_ | refine WC.draw 8 rfl (by decide +kernel) ?_ | refine WC.draw 9 rfl (by decide +kernel) ?_ | refine WC.draw 10 rfl (by decide +kernel) ?_ | refine WC.draw 11 rfl (by decide +kernel) ?_ | refine WC.draw 12 rfl (by decide +kernel) ?_ | refine WC.draw 13 rfl (by decide +kernel) ?_ | refine WC.draw 14 rfl (by decide +kernel) ?_ | refine WC.draw 15 rfl (by decide +kernel) ?_ | refine WC.draw 16 rfl (by decide +kernel) ?_ | refine WC.draw 17 rfl (by decide +kernel) ?_ | refine WC.draw 18 rfl (by decide +kernel) ?_ | refine WC.draw 19 rfl (by decide +kernel) ?_ | refine WC.draw 20 rfl (by decide +kernel) ?_ | refine WC.draw 21 rfl (by decide +kernel) ?_ | refine WC.draw 22 rfl (by decide +kernel) ?_ | refine WC.draw 23 rfl (by decide +kernel) ?_ | refine WC.draw 24 rfl (by decide +kernel) ?_)); (repeat (refine WD.cons rfl (fun c h => by cases h) sq_D8_1 ?_)); refine WD.nil ?_)); (try (refine st ?_; (repeat intro zzc)))))) | ((first | (refine WL.makeRow (sz:=1) (by':=2) (zs:=[.int .i16 0]) rfl rfl (by (first | with_reducible exact natz _ | with_reducible exact natz0 | with_reducible exact natz1 | with_reducible exact natz2 | with_reducible exact natz3 | with_reducible exact natz4 | with_reducible exact natz8 | (apply natz_add; (· first | with_reducible exact natz _ | with_reducible exact natz0 | with_reducible exact natz1 | with_reducible exact natz2 | with_reducible exact natz3 | with_reducible exact natz4 | with_reducible exact natz8); (· first | with_reducible exact natz _ | with_reducible exact natz0 | with_reducible exact natz1 | with_reducible exact natz2 | with_reducible exact natz3 | with_reducible exact natz4 | with_reducible exact natz8)) | (apply natz_sub; (· first | with_reducible exact natz _ | with_reducible exact natz0 | with_reducible exact natz1 | with_reducible exact natz2 | with_reducible exact natz3 | with_reducible exact natz4 | with_reducible exact natz8); (· first | with_reducible exact natz _ | with_reducible exact natz0 | with_reducible exact natz1 | with_reducible exact natz2 | with_reducible exact natz3 | with_reducible exact natz4 | with_reducible exact natz8); (· omega)) | exact (Int.toNat_of_nonneg (by omega)).symm)) (by (first | with_reducible exact natz _ | with_reducible exact natz0 | with_reducible exact natz1 | with_reducible exact natz2 | with_reducible exact natz3 | with_reducible exact natz4 | with_reducible exact natz8 | (apply natz_add; (· first | with_reducible exact natz _ | with_reducible exact natz0 | with_reducible exact natz1 | with_reducible exact natz2 | with_reducible exact natz3 | with_reducible exact natz4 | with_reducible exact natz8); (· first | with_reducible exact natz _ | with_reducible exact natz0 | with_reducible exact natz1 | with_reducible exact natz2 | with_reducible exact natz3 | with_reducible exact natz4 | with_reducible exact natz8)) | (apply natz_sub; (· first | with_reducible exact natz _ | with_reducible exact natz0 | with_reducible exact natz1 | with_reducible exact natz2 | with_reducible exact natz3 | with_reducible exact natz4 | with_reducible exact natz8); (· first | with_reducible exact natz _ | with_reducible exact natz0 | with_reducible exact natz1 | with_reducible exact natz2 | with_reducible exact natz3 | with_reducible exact natz4 | with_reducible exact natz8); (· omega)) | exact (Int.toNat_of_nonneg (by omega)).symm)) rfl rfl rfl rfl rfl rfl (by decide) (by omega) (by omega) rfl ?_; intro zzc) | (refine WL.makeRow (sz:=1) (by':=24) (zs:=[.slice none 0 0]) rfl rfl (by (first | with_reducible exact natz _ | with_reducible exact natz0 | with_reducible exact natz1 | with_reducible exact natz2 | with_reducible exact natz3 | with_reducible exact natz4 | with_reducible exact natz8 | (apply natz_add; (· first | with_reducible exact natz _ | with_reducible exact natz0 | with_reducible exact natz1 | with_reducible exact natz2 | with_reducible exact natz3 | with_reducible exact natz4 | with_reducible exact natz8); (· first | with_reducible exact natz _ | with_reducible exact natz0 | with_reducible exact natz1 | with_reducible exact natz2 | with_reducible exact natz3 | with_reducible exact natz4 | with_reducible exact natz8)) | (apply natz_sub; (· first | with_reducible exact natz _ | with_reducible exact natz0 | with_reducible exact natz1 | with_reducible exact natz2 | with_reducible exact natz3 | with_reducible exact natz4 | with_reducible exact natz8); (· first | with_reducible exact natz _ | with_reducible exact natz0 | with_reducible exact natz1 | with_reducible exact natz2 | with_reducible exact natz3 | with_reducible exact natz4 | with_reducible exact natz8); (· omega)) | exact (Int.toNat_of_nonneg (by omega)).symm)) (by (first | with_reducible exact natz _ | with_reducible exact natz0 | with_reducible exact natz1 | with_reducible exact natz2 | with_reducible exact natz3 | with_reducible exact natz4 | with_reducible exact natz8 | (apply natz_add; (· first | with_reducible exact natz _ | with_reducible exact natz0 | with_reducible exact natz1 | with_reducible exact natz2 | with_reducible exact natz3 | with_reducible exact natz4 | with_reducible exact natz8); (· first | with_reducible exact natz _ | with_reducible exact natz0 | with_reducible exact natz1 | with_reducible exact natz2 | with_reducible exact natz3 | with_reducible exact natz4 | with_reducible exact natz8)) | (apply natz_sub; (· first | with_reducible exact natz _ | with_reducible exact natz0 | with_reducible exact natz1 | with_reducible exact natz2 | with_reducible exact natz3 | with_reducible exact natz4 | with_reducible exact natz8); (· first | with_reducible exact natz _ | with_reducible exact natz0 | with_reducible exact natz1 | with_reducible exact natz2 | with_reducible exact natz3 | with_reducible exact natz4 | with_reducible exact natz8); (· omega)) | exact (Int.toNat_of_nonneg (by omega)).symm)) rfl rfl rfl rfl rfl rfl (by decide) (by omega) (by omega) rfl ?_; intro zzc) | (refine WL.add16 rfl rfl rfl (by omega) ?_) | ((refine iDraw ?_; (first | refine WC.drawAll rfl (by decide +kernel) ?_ | refine WC.draw 1 rfl (by decide +kernel) ?_ | refine WC.draw 2 rfl (by decide +kernel) ?_ | refine WC.draw 3 rfl (by decide +kernel) ?_ | refine WC.draw 4 rfl (by decide +kernel) ?_ | refine WC.draw 5 rfl (by decide +kernel) ?_ | refine WC.draw 6 rfl (by decide +kernel) ?_ | refine WC.draw 7 rfl (by decide +kernel) ?_ | refine WC.draw 8 rfl (by decide +kernel) ?_ | refine WC.draw 9 rfl (by decide +kernel) ?_ | refine WC.draw 10 rfl (by decide +kernel) ?_ | refine WC.draw 11 rfl (by decide +kernel) ?_ | refine WC.draw 12 rfl (by decide +kernel) ?_ | refine WC.draw 13 rfl (by decide +kernel) ?_ | refine WC.draw 14 rfl (by decide +kernel) ?_ | refine WC.draw 15 rfl (by decide +kernel) ?_ | refine WC.draw 16 rfl (by decide +kernel) ?_ | refine WC.draw 17 rfl (by decide +kernel) ?_ | refine WC.draw 18 rfl (by decide +kernel) ?_ | refine WC.draw 19 rfl (by decide +kernel) ?_ | refine WC.draw 20 rfl (by decide +kernel) ?_ | refine WC.draw 21 rfl (by decide +kernel) ?_ | refine WC.draw 22 rfl (by decide +kernel) ?_ | refine WC.draw 23 rfl (by decide +kernel) ?_ | refine WC.draw 24 rfl (by decide +kernel) ?_)); (repeat (refine WD.cons rfl (fun c h => by cases h) sq_D8_1 ?_)); refine WD.nil ?_)); (try (refine st ?_; (repeat intro zzc))))); (repeat ((first | (refine WL.makeRow (sz:=1) (by':=2) (zs:=[.int .i16 0]) rfl rfl (by (first | with_reducible exact natz _ | with_reducible exact natz0 | with_reducible exact natz1 | with_reducible exact natz2 | with_reducible exact natz3 | with_reducible exact natz4 | with_reducible exact natz8 | (apply natz_add; (· first | with_reducible exact natz _ | with_reducible exact natz0 | with_reducible exact natz1 | with_reducible exact natz2 | with_reducible exact natz3 | with_reducible exact natz4 | with_reducible exact natz8); (· first | with_reducible exact natz _ | with_reducible exact natz0 | with_reducible exact natz1 | with_reducible exact natz2 | with_reducible exact natz3 | with_reducible exact natz4 | with_reducible exact natz8)) | (apply natz_sub; (· first | with_reducible exact natz _ | with_reducible exact natz0 | with_reducible exact natz1 | with_reducible exact natz2 | with_reducible exact natz3 | with_reducible exact natz4 | with_reducible exact natz8); (· first | with_reducible exact natz _ | with_reducible exact natz0 | with_reducible exact natz1 | with_reducible exact natz2 | with_reducible exact natz3 | with_reducible exact natz4 | with_reducible exact natz8); (· omega)) | exact (Int.toNat_of_nonneg (by omega)).symm)) (by (first | with_reducible exact natz _ | with_reducible exact natz0 | with_reducible exact natz1 | with_reducible exact natz2 | with_reducible exact natz3 | with_reducible exact natz4 | with_reducible exact natz8 | (apply natz_add; (· first | with_reducible exact natz _ | with_reducible exact natz0 | with_reducible exact natz1 | with_reducible exact natz2 | with_reducible exact natz3 | with_reducible exact natz4 | with_reducible exact natz8); (· first | with_reducible exact natz _ | with_reducible exact natz0 | with_reducible exact natz1 | with_reducible exact natz2 | with_reducible exact natz3 | with_reducible exact natz4 | with_reducible exact natz8)) | (apply natz_sub; (· first | with_reducible exact natz _ | with_reducible exact natz0 | with_reducible exact natz1 | with_reducible exact natz2 | with_reducible exact natz3 | with_reducible exact natz4 | with_reducible exact natz8); (· first | with_reducible exact natz _ | with_reducible exact natz0 | with_reducible exact natz1 | with_reducible exact natz2 | with_reducible exact natz3 | with_reducible exact natz4 | with_reducible exact natz8); (· omega)) | exact (Int.toNat_of_nonneg (by omega)).symm)) rfl rfl rfl rfl rfl rfl (by decide) (by omega) (by omega) rfl ?_; intro zzc) | (refine WL.makeRow (sz:=1) (by':=24) (zs:=[.slice none 0 0]) rfl rfl (by (first | with_reducible exact natz _ | with_reducible exact natz0 | with_reducible exact natz1 | with_reducible exact natz2 | with_reducible exact natz3 | with_reducible exact natz4 | with_reducible exact natz8 | (apply natz_add; (· first | with_reducible exact natz _ | with_reducible exact natz0 | with_reducible exact natz1 | with_reducible exact natz2 | with_reducible exact natz3 | with_reducible exact natz4 | with_reducible exact natz8); (· first | with_reducible exact natz _ | with_reducible exact natz0 | with_reducible exact natz1 | with_reducible exact natz2 | with_reducible exact natz3 | with_reducible exact natz4 | with_reducible exact natz8)) | (apply natz_sub; (· first | with_reducible exact natz _ | with_reducible exact natz0 | with_reducible exact natz1 | with_reducible exact natz2 | with_reducible exact natz3 | with_reducible exact natz4 | with_reducible exact natz8); (· first | with_reducible exact natz _ | with_reducible exact natz0 | with_reducible exact natz1 | with_reducible exact natz2 | with_reducible exact natz3 | with_reducible exact natz4 | with_reducible exact natz8); (· omega)) | exact (Int.toNat_of_nonneg (by omega)).symm)) (by (first | with_reducible exact natz _ | with_reducible exact natz0 | with_reducible exact natz1 | with_reducible exact natz2 | with_reducible exact natz3 | with_reducible exact natz4 | with_reducible exact natz8 | (apply natz_add; (· first | with_reducible exact natz _ | with_reducible exact natz0 | with_reducible exact natz1 | with_reducible exact natz2 | with_reducible exact natz3 | with_reducible exact natz4 | with_reducible exact natz8); (· first | with_reducible exact natz _ | with_reducible exact natz0 | with_reducible exact natz1 | with_reducible exact natz2 | with_reducible exact natz3 | with_reducible exact natz4 | with_reducible exact natz8)) | (apply natz_sub; (· first | with_reducible exact natz _ | with_reducible exact natz0 | with_reducible exact natz1 | with_reducible exact natz2 | with_reducible exact natz3 | with_reducible exact natz4 | with_reducible exact natz8); (· first | with_reducible exact natz _ | with_reducible exact natz0 | with_reducible exact natz1 | with_reducible exact natz2 | with_reducible exact natz3 | with_reducible exact natz4 | with_reducible exact natz8); (· omega)) | exact (Int.toNat_of_nonneg (by omega)).symm)) rfl rfl rfl rfl rfl rfl (by decide) (by omega) (by omega) rfl ?_; intro zzc) | (refine WL.add16 rfl rfl rfl (by omega) ?_) | ((refine iDraw ?_; (first | refine WC.drawAll rfl (by decide +kernel) ?_ | refine WC.draw 1 rfl (by decide +kernel) ?_ | refine WC.draw 2 rfl (by decide +kernel) ?_ | refine WC.draw 3 rfl (by decide +kernel) ?_ | refine WC.draw 4 rfl (by decide +kernel) ?_ | refine WC.draw 5 rfl (by decide +kernel) ?_ | refine WC.draw 6 rfl (by decide +kernel) ?_ | refine WC.draw 7 rfl (by decide +kernel) ?_ | refine WC.draw 8 rfl (by decide +kernel) ?_ | refine WC.draw 9 rfl (by decide +kernel) ?_ | refine WC.draw 10 rfl (by decide +kernel) ?_ | refine WC.draw 11 rfl (by decide +kernel) ?_ | refine WC.draw 12 rfl (by decide +kernel) ?_ | refine WC.draw 13 rfl (by decide +kernel) ?_ | refine WC.draw 14 rfl (by decide +kernel) ?_ | refine WC.draw 15 rfl (by decide +kernel) ?_ | refine WC.draw 16 rfl (by decide +kernel) ?_ | refine WC.draw 17 rfl (by decide +kernel) ?_ | refine WC.draw 18 rfl (by decide +kernel) ?_ | refine WC.draw 19 rfl (by decide +kernel) ?_ | refine WC.draw 20 rfl (by decide +kernel) ?_ | refine WC.draw 21 rfl (by decide +kernel) ?_ | refine WC.draw 22 rfl (by decide +kernel) ?_ | refine WC.draw 23 rfl (by decide +kernel) ?_ | refine WC.draw 24 rfl (by decide +kernel) ?_)); (repeat (refine WD.cons rfl (fun c h => by cases h) sq_D8_1 ?_)); refine WD.nil ?_)); (try (refine st ?_; (repeat intro zzc))))); (repeat revert zzc); exact zzn.out) : G := h ⟨next⟩
theorem mid_row {A B : List Tx} {aa ab : Option Addr} {ca cb k0 i' q bi b1 bo : Nat} {x : Tx} {E : List (List Value)} {w0 : World} {m : Mem} {Y : SHeap} {Q : Exit → Act → World → Prop} (hA : A.length ≤ 1024) (hB : B.length ≤ 1024) (hx : A[i']? = some x) (hq : A.length + 1 = q)
    (hEl : E.length = q) (hE0 : E[i']? = some [Value.slice (some ⟨bi, 0, none⟩) (B.length + 1) (B.length + 1)]) (hE1 : E[i' + 1]? = some [Value.slice (some ⟨b1, 0, none⟩) (B.length + 1) (B.length + 1)])
    (hr1 : RowR w0 m Y 1 (some ⟨b1, 0, none⟩) (rowP A B (i' + 1) 0)) (hra : RowR w0 m Y 1 aa (strs A)) (hrb : RowR w0 m Y 1 ab (strs B))
    (hK : WQ 163 w0 Q (.exit 4) [(9, .int .i64 (i' : Int)), (7, .slice (some ⟨bo, 0, none⟩) q q), (0, .slice aa A.length ca), (1, .slice ab B.length cb), (2, .int .i64 (k0 : Int))] [] m (.row (some ⟨bi, 0, none⟩) (B.length + 1) 150 1 (rowP A B i' 0) :: .row (some ⟨bo, 0, none⟩) q 149 1 E :: Y)) :
    WC Try.prog none 163 w0 ((loopsIn (Try.f51.body.getD .skip)).getD 2 .skip) Q [(10, .int .i64 ((B.length : Int) - 1)), (9, .int .i64 (i' : Int)), (7, .slice (some ⟨bo, 0, none⟩) q q), (0, .slice aa A.length ca), (1, .slice ab B.length cb), (2, .int .i64 (k0 : Int))] [] m
      (.row (some ⟨bi, 0, none⟩) (B.length + 1) 150 1 (rowP A B i' B.length) :: .row (some ⟨bo, 0, none⟩) q 149 1 E :: Y) := by
  have hxd := drop_get hx
  have hxi := (List.getElem?_eq_some_iff.1 hx).1
  have hgx : (strs A)[i']? = some [str x] := by unfold strs; rw [List.getElem?_map, hx]; rfl
  have hal : (strs A).length = A.length := by simp [strs]
  have hbl2 : (strs B).length = B.length := by simp [strs]
  refine WC.loopH [(10, .int .i64 (((B.length) : Int) - 1)), (9, .int .i64 (i' : Int)), (7, .slice (some ⟨bo, 0, none⟩) q q), (0, .slice aa A.length ca), (1, .slice ab B.length cb), (2, .int .i64 (k0 : Int))] ?_ ?_ (fun j r ds m' H' => ∃ k, j = 2 * k ∧ r = [(10, .int .i64 ((k : Int) - 1)), (9, .int .i64 (i' : Int)), (7, .slice (some ⟨bo, 0, none⟩) q q), (0, .slice aa A.length ca), (1, .slice ab B.length cb), (2, .int .i64 (k0 : Int))] ∧ ds = [] ∧ m = m' ∧ H' = .row (some ⟨bi, 0, none⟩) (B.length + 1) 150 1 (rowP A B i' k) :: .row (some ⟨bo, 0, none⟩) q 149 1 E :: Y ∧ (k ≤ B.length)) (2 * (B.length)) ⟨B.length, rfl, rfl, rfl, rfl, rfl, by omega⟩ ?_
  · (repeat (first | exact Env.Sub.nil | refine Env.Sub.cons rfl ?_))
  · exact zpk
  rintro j r ds m' H' ⟨k, rfl, rfl, rfl, rfl, rfl, hk⟩
  by_cases hkz : k = 0
  · subst hkz
    (try (refine st_D8_1 ?_; intros))
    exact WQ.weak zsb zpk hK
  · obtain ⟨k', rfl⟩ : ∃ k', k = k' + 1 := ⟨k - 1, by omega⟩
    rw [show ((k' + 1 : Nat) : Int) - 1 = (k' : Int) by omega]
    obtain ⟨y, hy⟩ : ∃ y, B[k']? = some y := ⟨_, List.getElem?_eq_getElem (by omega : k' < B.length)⟩
    have hyd := drop_get hy
    have hgy : (strs B)[k']? = some [str y] := by unfold strs; rw [List.getElem?_map, hy]; rfl
    have hq0 := rowP_get (A := A) (B := B) (i := i') (k := k' + 1) (j := k' + 1) (by omega)
    have hq1 := rowP_get (A := A) (B := B) (i := i' + 1) (k := 0) (j := k') (by omega)
    have hq2 := rowP_get (A := A) (B := B) (i := i' + 1) (k := 0) (j := k' + 1) (by omega)
    rw [cut16_ge (Nat.le_refl _)] at hq0
    rw [cut16_ge (Nat.zero_le _)] at hq1 hq2
    have hst : ∀ v : Int, v = (lcs (A.drop i') (B.drop k') : Int) → (rowP A B i' (k' + 1)).set k' [.int .i16 v] = rowP A B i' k' := fun v hv => rowP_set hv
    have hP0 := rowP_length A B i' (k' + 1)
    have hP1 := rowP_length A B (i' + 1) 0
    have hl0 := (lcs_le (A.drop i') (B.drop (k' + 1))).2
    have hl1 := (lcs_le (A.drop (i' + 1)) (B.drop k')).2
    have hl2 := (lcs_le (A.drop (i' + 1)) (B.drop (k' + 1))).2
    rw [List.length_drop] at hl0 hl1 hl2
    rw [hxd, hyd] at hst
    rw [hyd] at hq1 hl1
    rw [hxd] at hq0 hl0
    have hmx : ¬ x = y → max (lcs (A.drop (i' + 1)) (y :: B.drop (k' + 1)) : Int) (lcs (x :: A.drop (i' + 1)) (B.drop (k' + 1)) : Int) = (lcs (x :: A.drop (i' + 1)) (y :: B.drop (k' + 1)) : Int) := fun h => by rw [lcs_ne h]; omega
    have heq : x = y → (lcs (A.drop (i' + 1)) (B.drop (k' + 1)) : Int) + 1 = (lcs (x :: A.drop (i' + 1)) (y :: B.drop (k' + 1)) : Int) := fun h => by rw [h, lcs_eq]; omega
    generalize lcs (x :: A.drop (i' + 1)) (B.drop (k' + 1)) = n0 at *
    generalize lcs (A.drop (i' + 1)) (y :: B.drop (k' + 1)) = n1 at *
    generalize lcs (A.drop (i' + 1)) (B.drop (k' + 1)) = n2 at *
    generalize hP0e : rowP A B i' (k' + 1) = P0 at *
    generalize rowP A B (i' + 1) 0 = P1 at *
    have hr1' : RowR w0 m (.row (some ⟨bi, 0, none⟩) (B.length + 1) 150 1 P0 :: .row (some ⟨bo, 0, none⟩) q 149 1 E :: Y) 1 (some ⟨b1, 0, none⟩) P1 := hr1.more.more
    have hra' : RowR w0 m (.row (some ⟨bi, 0, none⟩) (B.length + 1) 150 1 P0 :: .row (some ⟨bo, 0, none⟩) q 149 1 E :: Y) 1 aa (strs A) := hra.more.more
    have hrb' : RowR w0 m (.row (some ⟨bi, 0, none⟩) (B.length + 1) 150 1 P0 :: .row (some ⟨bo, 0, none⟩) q 149 1 E :: Y) 1 ab (strs B) := hrb.more.more
    generalize strs A = SA at *
    generalize strs B = SB at *
    refine WC.rSome hra' (by omega) ?_
    rintro a0 rfl
    refine WC.rSome hrb' (by omega) ?_
    rintro b0 rfl
    by_cases hxy : x = y
    · (try (refine st_D8_1 ?_; intros))
      rw [hst _ (heq hxy)]
      refine WQ.next (2 * (k')) ⟨k', rfl, rfl, rfl, rfl, rfl, ?_⟩ (by omega) zsb zpk
      · omega
    · (try (refine st_D8_1 ?_; intros))
      rw [hst _ (hmx hxy)]
      refine WQ.next (2 * (k')) ⟨k', rfl, rfl, rfl, rfl, rfl, ?_⟩ (by omega) zsb zpk
      · omega
end Go.Proofs.Ytgckeelnhafgaaa

/-
  The walk of draft.middle: the search for a pair. No condition.
-/
namespace Go.Eng
open Go
theorem firstJ_cons {x y : Tx} {xs ys : List Tx} {n : Nat} : firstJ x xs n (y :: ys) = if x = y ∧ lcs xs ys + 1 = n then some 0 else (firstJ x xs n ys).map (· + 1) := rfl
theorem map_shift {o : Option Nat} {a b c : Nat} (h : a + b = c) : (o.map (· + a)).map (· + b) = o.map (· + c) := by
  cases o with
  | none => rfl
  | some v => simp only [Option.map_some]; congr 1; omega
end Go.Eng
namespace Go.Proofs.Ytgckeelnhafgaaa
open Go Go.Eng
set_option maxRecDepth 100000
set_option maxHeartbeats 4000000
set_option linter.all false
attribute [local irreducible] WL WC WQ QFun QLoop Does Q1 QRound QAssign Go.Addr.add
attribute [local irreducible] midL firstJ rowP outE tabL strs
theorem sq_D8b_1 {G : Prop} (h : G := by (repeat (first | (refine sp ?_; (repeat intro zzc)) | (refine WL.add16 rfl rfl rfl (by omega) ?_))); exact WQ.q1 rfl) : G := h
theorem st_D8b_1 {G G' : Prop} (next : G') (h : Bx G' → G := by intro zzn; (first | ((refine st ?_; (repeat intro zzc)); (try ((first | (refine WL.add16 rfl rfl rfl (by omega) ?_) | ((refine iDraw ?_; (first | refine WC.drawAll rfl (by decide +kernel) ?_ | refine WC.draw 1 rfl (by decide +kernel) ?_ | refine WC.draw 2 rfl (by decide +kernel) ?_ | refine WC.draw 3 rfl (by decide +kernel) ?_ | refine WC.draw 4 rfl (by decide +kernel) ?_ | refine WC.draw 5 rfl (by decide +kernel) ?_ | refine WC.draw 6 rfl (by decide +kernel) ?_ | refine WC.draw 7 rfl (by decide +kernel) ?_ | refine WC.draw 8 rfl (by decide +kernel) ?_ | refine WC.draw 9 rfl (by decide +kernel) ?_ | refine WC.draw 10 rfl (by decide +kernel) ?_ | refine WC.draw 11 rfl (by decide +kernel) ?_ | refine WC.draw 12 rfl (by decide +kernel) ?_ | refine WC.draw 13 rfl (by decide +kernel) ?_ | refine WC.draw 14 rfl (by decide +kernel) ?_ | refine WC.draw 15 rfl (by decide +kernel) ?_ | refine WC.draw 16 rfl (by decide +kernel) ?_ | refine WC.draw 17 rfl (by decide +kernel) ?_ | refine WC.draw 18 rfl (by decide +kernel) ?_ | refine WC.draw 19 rfl (by decide +kernel) ?_ | refine WC.draw 20 rfl (by decide +kernel) ?_ | refine WC.draw 21 rfl (by decide +kernel) ?_ | refine WC.draw 22 rfl (by decide +kernel) ?_ | refine WC.draw 23 rfl (by decide +kernel) ?_ | refine WC.draw 24 rfl (by decide +kernel) ?_)); (repeat (refine WD.cons rfl (fun c h => by cases h) sq_D8b_1 ?_)); refine WD.nil ?_)); (try (refine st ?_; (repeat intro zzc)))))) | ((first | (refine WL.add16 rfl rfl rfl (by omega) ?_) | ((refine iDraw ?_; (first | refine WC.drawAll rfl (by decide +kernel) ?_ | refine WC.draw 1 rfl (by decide +kernel) ?_ | refine WC.draw 2 rfl (by decide +kernel) ?_ | refine WC.draw 3 rfl (by decide +kernel) ?_ | refine WC.draw 4 rfl (by decide +kernel) ?_ | refine WC.draw 5 rfl (by decide +kernel) ?_ | refine WC.draw 6 rfl (by decide +kernel) ?_ | refine WC.draw 7 rfl (by decide +kernel) ?_ | refine WC.draw 8 rfl (by decide +kernel) ?_ | refine WC.draw 9 rfl (by decide +kernel) ?_ | refine WC.draw 10 rfl (by decide +kernel) ?_ | refine WC.draw 11 rfl (by decide +kernel) ?_ | refine WC.draw 12 rfl (by decide +kernel) ?_ | refine WC.draw 13 rfl (by decide +kernel) ?_ | refine WC.draw 14 rfl (by decide +kernel) ?_ | refine WC.draw 15 rfl (by decide +kernel) ?_ | refine WC.draw 16 rfl (by decide +kernel) ?_ | refine WC.draw 17 rfl (by decide +kernel) ?_ | refine WC.draw 18 rfl (by decide +kernel) ?_ | refine WC.draw 19 rfl (by decide +kernel) ?_ | refine WC.draw 20 rfl (by decide +kernel) ?_ | refine WC.draw 21 rfl (by decide +kernel) ?_ | refine WC.draw 22 rfl (by decide +kernel) ?_ | refine WC.draw 23 rfl (by decide +kernel) ?_ | refine WC.draw 24 rfl (by decide +kernel) ?_)); (repeat (refine WD.cons rfl (fun c h => by cases h) sq_D8b_1 ?_)); refine WD.nil ?_)); (try (refine st ?_; (repeat intro zzc))))); (repeat ((first | (refine WL.add16 rfl rfl rfl (by omega) ?_) | ((refine iDraw ?_; (first | refine WC.drawAll rfl (by decide +kernel) ?_ | refine WC.draw 1 rfl (by decide +kernel) ?_ | refine WC.draw 2 rfl (by decide +kernel) ?_ | refine WC.draw 3 rfl (by decide +kernel) ?_ | refine WC.draw 4 rfl (by decide +kernel) ?_ | refine WC.draw 5 rfl (by decide +kernel) ?_ | refine WC.draw 6 rfl (by decide +kernel) ?_ | refine WC.draw 7 rfl (by decide +kernel) ?_ | refine WC.draw 8 rfl (by decide +kernel) ?_ | refine WC.draw 9 rfl (by decide +kernel) ?_ | refine WC.draw 10 rfl (by decide +kernel) ?_ | refine WC.draw 11 rfl (by decide +kernel) ?_ | refine WC.draw 12 rfl (by decide +kernel) ?_ | refine WC.draw 13 rfl (by decide +kernel) ?_ | refine WC.draw 14 rfl (by decide +kernel) ?_ | refine WC.draw 15 rfl (by decide +kernel) ?_ | refine WC.draw 16 rfl (by decide +kernel) ?_ | refine WC.draw 17 rfl (by decide +kernel) ?_ | refine WC.draw 18 rfl (by decide +kernel) ?_ | refine WC.draw 19 rfl (by decide +kernel) ?_ | refine WC.draw 20 rfl (by decide +kernel) ?_ | refine WC.draw 21 rfl (by decide +kernel) ?_ | refine WC.draw 22 rfl (by decide +kernel) ?_ | refine WC.draw 23 rfl (by decide +kernel) ?_ | refine WC.draw 24 rfl (by decide +kernel) ?_)); (repeat (refine WD.cons rfl (fun c h => by cases h) sq_D8b_1 ?_)); refine WD.nil ?_)); (try (refine st ?_; (repeat intro zzc))))); (repeat revert zzc); exact zzn.out) : G := h ⟨next⟩
theorem mid_find {A B : List Tx} {aa ab a : Option Addr} {ca cb cp k0 i k q bi b1 bo : Nat} {x : Tx} {E : List (List Value)} {L : List (Nat × Nat)} {w0 : World} {m : Mem} {Y : SHeap} {Q : Exit → Act → World → Prop} (hA : A.length ≤ 1024) (hB : B.length ≤ 1024) (hk0 : k0 ≤ 4194304) (hx : A[i]? = some x) (hk : k ≤ B.length) (hLl : L.length ≤ 1024) (hq : A.length + 1 = q)
    (hEl : E.length = q) (hE0 : E[i]? = some [Value.slice (some ⟨bi, 0, none⟩) (B.length + 1) (B.length + 1)]) (hE1 : E[i + 1]? = some [Value.slice (some ⟨b1, 0, none⟩) (B.length + 1) (B.length + 1)])
    (hr0 : RowR w0 m Y 1 (some ⟨bi, 0, none⟩) (rowP A B i 0)) (hr1 : RowR w0 m Y 1 (some ⟨b1, 0, none⟩) (rowP A B (i + 1) 0)) (hra : RowR w0 m Y 1 aa (strs A)) (hrb : RowR w0 m Y 1 ab (strs B))
    (hno : firstJ x (A.drop (i + 1)) (lcs (A.drop i) (B.drop k)) (B.drop k) = none → WQ 163 w0 Q (.exit 8) [(14, .int .i64 (i : Int)), (13, .int .i64 (k : Int)), (12, .slice a L.length cp), (110, .int .i64 (i : Int)), (109, .int .i64 (A.length : Int)), (7, .slice (some ⟨bo, 0, none⟩) q q), (0, .slice aa A.length ca), (1, .slice ab B.length cb), (2, .int .i64 (k0 : Int))] [] m (.row a cp 93 2 (L.map prE) :: .row (some ⟨bo, 0, none⟩) q 149 1 E :: Y))
    (hyes : ∀ (p : Nat) (a2 : Option Addr) (cp2 : Nat), k ≤ p → p < B.length → firstJ x (A.drop (i + 1)) (lcs (A.drop i) (B.drop k)) (B.drop k) = some (p - k) → WQ 163 w0 Q (.exit 7) [(13, .int .i64 ((p : Int) + 1)), (12, .slice a2 (L.length + 1) cp2), (110, .int .i64 (i : Int)), (109, .int .i64 (A.length : Int)), (7, .slice (some ⟨bo, 0, none⟩) q q), (0, .slice aa A.length ca), (1, .slice ab B.length cb), (2, .int .i64 (k0 : Int))] [] m (.row a2 cp2 93 2 (L.map prE ++ [[.int .i64 ((k0 : Int) + i), .int .i64 ((k0 : Int) + p)]]) :: .row (some ⟨bo, 0, none⟩) q 149 1 E :: Y)) :
    WC Try.prog none 163 w0 ((loopsIn (Try.f51.body.getD .skip)).getD 4 .skip) Q [(15, .int .i64 (k : Int)), (14, .int .i64 (i : Int)), (13, .int .i64 (k : Int)), (12, .slice a L.length cp), (110, .int .i64 (i : Int)), (109, .int .i64 (A.length : Int)), (7, .slice (some ⟨bo, 0, none⟩) q q), (0, .slice aa A.length ca), (1, .slice ab B.length cb), (2, .int .i64 (k0 : Int))] [] m
      (.row a cp 93 2 (L.map prE) :: .row (some ⟨bo, 0, none⟩) q 149 1 E :: Y) := by
  have hxi := (List.getElem?_eq_some_iff.1 hx).1
  have hgx : (strs A)[i]? = some [str x] := by unfold strs; rw [List.getElem?_map, hx]; rfl
  have hal : (strs A).length = A.length := by simp [strs]
  have hbl2 : (strs B).length = B.length := by simp [strs]
  have hLm : (L.map prE).length = L.length := List.length_map _
  have hn1 := rowP_get (A := A) (B := B) (i := i) (k := 0) (j := k) (by omega)
  rw [cut16_ge (Nat.zero_le _)] at hn1
  have hnl := (lcs_le (A.drop i) (B.drop k)).2
  rw [List.length_drop] at hnl
  have hP0 := rowP_length A B i 0
  have hP1 := rowP_length A B (i + 1) 0
  have hqs : ∀ p, p + 1 ≤ B.length → (rowP A B (i + 1) 0)[p + 1]? = some [.int .i16 (lcs (A.drop (i + 1)) (B.drop (p + 1)) : Int)] := fun p hp => by
    rw [rowP_get hp, cut16_ge (Nat.zero_le _)]
  generalize rowP A B (i + 1) 0 = P1 at *
  generalize rowP A B i 0 = P0 at *
  have hr0' : RowR w0 m (.row a cp 93 2 (L.map prE) :: .row (some ⟨bo, 0, none⟩) q 149 1 E :: Y) 1 (some ⟨bi, 0, none⟩) P0 := hr0.more.more
  have hr1' : RowR w0 m (.row a cp 93 2 (L.map prE) :: .row (some ⟨bo, 0, none⟩) q 149 1 E :: Y) 1 (some ⟨b1, 0, none⟩) P1 := hr1.more.more
  have hra' : RowR w0 m (.row a cp 93 2 (L.map prE) :: .row (some ⟨bo, 0, none⟩) q 149 1 E :: Y) 1 aa (strs A) := hra.more.more
  have hrb' : RowR w0 m (.row a cp 93 2 (L.map prE) :: .row (some ⟨bo, 0, none⟩) q 149 1 E :: Y) 1 ab (strs B) := hrb.more.more
  have hgys : ∀ p y, B[p]? = some y → (strs B)[p]? = some [str y] := fun p y h => by unfold strs; rw [List.getElem?_map, h]; rfl
  generalize strs A = SA at *
  generalize strs B = SB at *
  generalize L.map prE = LE at *
  generalize hn : lcs (A.drop i) (B.drop k) = n at *
  refine WC.rSome hra' (by omega) ?_
  rintro a0 rfl
  refine WC.loopH [(15, .int .i64 ((k) : Int)), (14, .int .i64 (i : Int)), (13, .int .i64 (k : Int)), (12, .slice a L.length cp), (110, .int .i64 (i : Int)), (109, .int .i64 (A.length : Int)), (7, .slice (some ⟨bo, 0, none⟩) q q), (0, .slice (some a0) A.length ca), (1, .slice ab B.length cb), (2, .int .i64 (k0 : Int))] ?_ ?_ (fun j r ds m' H' => ∃ p, j = B.length - p ∧ r = [(15, .int .i64 (p : Int)), (14, .int .i64 (i : Int)), (13, .int .i64 (k : Int)), (12, .slice a L.length cp), (110, .int .i64 (i : Int)), (109, .int .i64 (A.length : Int)), (7, .slice (some ⟨bo, 0, none⟩) q q), (0, .slice (some a0) A.length ca), (1, .slice ab B.length cb), (2, .int .i64 (k0 : Int))] ∧ ds = [] ∧ m = m' ∧ H' = .row a cp 93 2 LE :: .row (some ⟨bo, 0, none⟩) q 149 1 E :: Y ∧ (k ≤ p) ∧ (p ≤ B.length) ∧ (firstJ x (A.drop (i + 1)) n (B.drop k) = (firstJ x (A.drop (i + 1)) n (B.drop p)).map (· + (p - k)))) (B.length - (k)) ⟨k, rfl, rfl, rfl, rfl, rfl, by omega, by omega, by rw [Nat.sub_self]; cases firstJ x (A.drop (i + 1)) n (B.drop k) <;> rfl⟩ ?_
  · (repeat (first | exact Env.Sub.nil | refine Env.Sub.cons rfl ?_))
  · exact zpk
  rintro j r ds m' H' ⟨p, rfl, rfl, rfl, rfl, rfl, hkp, hpB, hf⟩
  by_cases hlt : p < B.length
  · obtain ⟨y, hy⟩ : ∃ y, B[p]? = some y := ⟨_, List.getElem?_eq_getElem hlt⟩
    have hyd := drop_get hy
    have hgy := hgys p y hy
    have hq1 := hqs p (by omega)
    rw [hyd, firstJ_cons] at hf
    have hl1 := (lcs_le (A.drop (i + 1)) (B.drop (p + 1))).2
    rw [List.length_drop] at hl1
    generalize hv : lcs (A.drop (i + 1)) (B.drop (p + 1)) = v at *
    refine WC.rSome hrb' (by omega) ?_
    rintro b0 rfl
    by_cases hxy : x = y
    · by_cases hvn : v + 1 = n
      · rw [if_pos ⟨hxy, hvn⟩] at hf
        have hfin := fun a2 cp2 => hyes p a2 cp2 hkp hlt (by rw [hf]; simp)
        have hvn' : (v : Int) + 1 = (n : Int) := by omega
        (refine st_D8b_1 ?_; intros; rename_i a9 a2 cp2)
        rw [hLm]
        exact WQ.weak zsb zpk (hfin _ _)
      · rw [if_neg (fun h => hvn h.2), map_shift (c := p + 1 - k) (by omega)] at hf
        have hvn' : ¬ (v : Int) + 1 = (n : Int) := by omega
        (try (refine st_D8b_1 ?_; intros))
        refine WQ.next (B.length - (p + 1)) ⟨p + 1, rfl, rfl, rfl, rfl, rfl, ?_, ?_, ?_⟩ (by omega) zsb zpk
        · omega
        · omega
        · exact hf
    · rw [if_neg (fun h => hxy h.1), map_shift (c := p + 1 - k) (by omega)] at hf
      (try (refine st_D8b_1 ?_; intros))
      refine WQ.next (B.length - (p + 1)) ⟨p + 1, rfl, rfl, rfl, rfl, rfl, ?_, ?_, ?_⟩ (by omega) zsb zpk
      · omega
      · omega
      · exact hf
  · have hBp : B.drop p = [] := List.drop_of_length_le (by omega)
    rw [hBp] at hf
    have hf0 : firstJ x (A.drop (i + 1)) n (B.drop k) = none := by rw [hf]; unfold firstJ; rfl
    (try (refine st_D8b_1 ?_; intros))
    exact WQ.weak zsb zpk (hno hf0)
end Go.Proofs.Ytgckeelnhafgaaa

/-
  The walk of draft.middle. No condition.
-/
namespace Go.Proofs.Ytgckeelnhafgaaa
open Go Go.Eng
set_option maxRecDepth 100000
set_option maxHeartbeats 4000000
set_option linter.all false
attribute [local irreducible] WL WC WQ QFun QLoop Does Q1 QRound QAssign Go.Addr.add
attribute [local irreducible] midL firstJ rowP outE tabL strs
theorem sq_D9_1 {G : Prop} (h : G := by (repeat (first | (refine sp ?_; (repeat intro zzc)) | (refine WL.makeRow (sz:=1) (by':=2) (zs:=[.int .i16 0]) rfl rfl (by (first | with_reducible exact natz _ | with_reducible exact natz0 | with_reducible exact natz1 | with_reducible exact natz2 | with_reducible exact natz3 | with_reducible exact natz4 | with_reducible exact natz8 | (apply natz_add; (· first | with_reducible exact natz _ | with_reducible exact natz0 | with_reducible exact natz1 | with_reducible exact natz2 | with_reducible exact natz3 | with_reducible exact natz4 | with_reducible exact natz8); (· first | with_reducible exact natz _ | with_reducible exact natz0 | with_reducible exact natz1 | with_reducible exact natz2 | with_reducible exact natz3 | with_reducible exact natz4 | with_reducible exact natz8)) | (apply natz_sub; (· first | with_reducible exact natz _ | with_reducible exact natz0 | with_reducible exact natz1 | with_reducible exact natz2 | with_reducible exact natz3 | with_reducible exact natz4 | with_reducible exact natz8); (· first | with_reducible exact natz _ | with_reducible exact natz0 | with_reducible exact natz1 | with_reducible exact natz2 | with_reducible exact natz3 | with_reducible exact natz4 | with_reducible exact natz8); (· omega)) | exact (Int.toNat_of_nonneg (by omega)).symm)) (by (first | with_reducible exact natz _ | with_reducible exact natz0 | with_reducible exact natz1 | with_reducible exact natz2 | with_reducible exact natz3 | with_reducible exact natz4 | with_reducible exact natz8 | (apply natz_add; (· first | with_reducible exact natz _ | with_reducible exact natz0 | with_reducible exact natz1 | with_reducible exact natz2 | with_reducible exact natz3 | with_reducible exact natz4 | with_reducible exact natz8); (· first | with_reducible exact natz _ | with_reducible exact natz0 | with_reducible exact natz1 | with_reducible exact natz2 | with_reducible exact natz3 | with_reducible exact natz4 | with_reducible exact natz8)) | (apply natz_sub; (· first | with_reducible exact natz _ | with_reducible exact natz0 | with_reducible exact natz1 | with_reducible exact natz2 | with_reducible exact natz3 | with_reducible exact natz4 | with_reducible exact natz8); (· first | with_reducible exact natz _ | with_reducible exact natz0 | with_reducible exact natz1 | with_reducible exact natz2 | with_reducible exact natz3 | with_reducible exact natz4 | with_reducible exact natz8); (· omega)) | exact (Int.toNat_of_nonneg (by omega)).symm)) rfl rfl rfl rfl rfl rfl (by decide) (by omega) (by omega) rfl ?_; intro zzc) | (refine WL.makeRow (sz:=1) (by':=24) (zs:=[.slice none 0 0]) rfl rfl (by (first | with_reducible exact natz _ | with_reducible exact natz0 | with_reducible exact natz1 | with_reducible exact natz2 | with_reducible exact natz3 | with_reducible exact natz4 | with_reducible exact natz8 | (apply natz_add; (· first | with_reducible exact natz _ | with_reducible exact natz0 | with_reducible exact natz1 | with_reducible exact natz2 | with_reducible exact natz3 | with_reducible exact natz4 | with_reducible exact natz8); (· first | with_reducible exact natz _ | with_reducible exact natz0 | with_reducible exact natz1 | with_reducible exact natz2 | with_reducible exact natz3 | with_reducible exact natz4 | with_reducible exact natz8)) | (apply natz_sub; (· first | with_reducible exact natz _ | with_reducible exact natz0 | with_reducible exact natz1 | with_reducible exact natz2 | with_reducible exact natz3 | with_reducible exact natz4 | with_reducible exact natz8); (· first | with_reducible exact natz _ | with_reducible exact natz0 | with_reducible exact natz1 | with_reducible exact natz2 | with_reducible exact natz3 | with_reducible exact natz4 | with_reducible exact natz8); (· omega)) | exact (Int.toNat_of_nonneg (by omega)).symm)) (by (first | with_reducible exact natz _ | with_reducible exact natz0 | with_reducible exact natz1 | with_reducible exact natz2 | with_reducible exact natz3 | with_reducible exact natz4 | with_reducible exact natz8 | (apply natz_add; (· first | with_reducible exact natz _ | with_reducible exact natz0 | with_reducible exact natz1 | with_reducible exact natz2 | with_reducible exact natz3 | with_reducible exact natz4 | with_reducible exact natz8); (· first | with_reducible exact natz _ | with_reducible exact natz0 | with_reducible exact natz1 | with_reducible exact natz2 | with_reducible exact natz3 | with_reducible exact natz4 | with_reducible exact natz8)) | (apply natz_sub; (· first | with_reducible exact natz _ | with_reducible exact natz0 | with_reducible exact natz1 | with_reducible exact natz2 | with_reducible exact natz3 | with_reducible exact natz4 | with_reducible exact natz8); (· first | with_reducible exact natz _ | with_reducible exact natz0 | with_reducible exact natz1 | with_reducible exact natz2 | with_reducible exact natz3 | with_reducible exact natz4 | with_reducible exact natz8); (· omega)) | exact (Int.toNat_of_nonneg (by omega)).symm)) rfl rfl rfl rfl rfl rfl (by decide) (by omega) (by omega) rfl ?_; intro zzc) | (refine WL.add16 rfl rfl rfl (by omega) ?_))); exact WQ.q1 rfl) : G := h
theorem st_D9_1 {G G' : Prop} (next : G') (h : Bx G' → G := by intro zzn; (first | ((refine st ?_; (repeat intro zzc)); (try ((first | (refine WL.makeRow (sz:=1) (by':=2) (zs:=[.int .i16 0]) rfl rfl (by (first | with_reducible exact natz _ | with_reducible exact natz0 | with_reducible exact natz1 | with_reducible exact natz2 | with_reducible exact natz3 | with_reducible exact natz4 | with_reducible exact natz8 | (apply natz_add; (· first | with_reducible exact natz _ | with_reducible exact natz0 | with_reducible exact natz1 | with_reducible exact natz2 | with_reducible exact natz3 | with_reducible exact natz4 | with_reducible exact natz8); (· first | with_reducible exact natz _ | with_reducible exact natz0 | with_reducible exact natz1 | with_reducible exact natz2 | with_reducible exact natz3 | with_reducible exact natz4 | with_reducible exact natz8)) | (apply natz_sub; (· first | with_reducible exact natz _ | with_reducible exact natz0 | with_reducible exact natz1 | with_reducible exact natz2 | with_reducible exact natz3 | with_reducible exact natz4 | with_reducible exact natz8); (· first | with_reducible exact natz _ | with_reducible exact natz0 | with_reducible exact natz1 | with_reducible exact natz2 | with_reducible exact natz3 | with_reducible exact natz4 | with_reducible exact natz8); (· omega)) | exact (Int.toNat_of_nonneg (by omega)).symm)) (by (first | with_reducible exact natz _ | with_reducible exact natz0 | with_reducible exact natz1 | with_reducible exact natz2 | with_reducible exact natz3 | with_reducible exact natz4 | with_reducible exact natz8 | (apply natz_add; (· first | with_reducible exact natz _ | with_reducible exact natz0 | with_reducible exact natz1 | with_reducible exact natz2 | with_reducible exact natz3 | with_reducible exact natz4 | with_reducible exact natz8); (· first | with_reducible exact natz _ | with_reducible exact natz0 | with_reducible exact natz1 | with_reducible exact natz2 | with_reducible exact natz3 | with_reducible exact natz4 | with_reducible exact natz8)) | (apply natz_sub; (· first | with_reducible exact natz _ | with_reducible exact natz0 | with_reducible exact natz1 | with_reducible exact natz2 | with_reducible exact natz3 | with_reducible exact natz4 | with_reducible exact natz8); (· first | with_reducible exact natz _ | with_reducible exact natz0 | with_reducible exact natz1 | with_reducible exact natz2 | with_reducible exact natz3 | with_reducible exact natz4 | with_reducible exact natz8); (· omega)) | exact (Int.toNat_of_nonneg (by omega)).symm)) rfl rfl rfl rfl rfl rfl (by decide) (by omega) (by omega) rfl ?_; intro zzc) | (refine WL.makeRow (sz:=1) (by':=24) (zs:=[.slice none 0 0]) rfl rfl (by (first | with_reducible exact natz _ | with_reducible exact natz0 | with_reducible exact natz1 | with_reducible exact natz2 | with_reducible exact natz3 | with_reducible exact natz4 | with_reducible exact natz8 | (apply natz_add; (· first | with_reducible exact natz _ | with_reducible exact natz0 | with_reducible exact natz1 | with_reducible exact natz2 | with_reducible exact natz3 | with_reducible exact natz4 | with_reducible exact natz8); (· first | with_reducible exact natz _ | with_reducible exact natz0 | with_reducible exact natz1 | with_reducible exact natz2 | with_reducible exact natz3 | with_reducible exact natz4 | with_reducible exact natz8)) | (apply natz_sub; (· first | with_reducible exact natz _ | with_reducible exact natz0 | with_reducible exact natz1 | with_reducible exact natz2 | with_reducible exact natz3 | with_reducible exact natz4 | with_reducible exact natz8); (· first | with_reducible exact natz _ | with_reducible exact natz0 | with_reducible exact natz1 | with_reducible exact natz2 | with_reducible exact natz3 | with_reducible exact natz4 | with_reducible exact natz8); (· omega)) | exact (Int.toNat_of_nonneg (by omega)).symm)) (by (first | with_reducible exact natz _ | with_reducible exact natz0 | with_reducible exact natz1 | with_reducible exact natz2 | with_reducible exact natz3 | with_reducible exact natz4 | with_reducible exact natz8 | (apply natz_add; (· first | with_reducible exact natz _ | with_reducible exact natz0 | with_reducible exact natz1 | with_reducible exact natz2 | with_reducible exact natz3 | with_reducible exact natz4 | with_reducible exact natz8); (· first | with_reducible exact natz _ | with_reducible exact natz0 | with_reducible exact natz1 | with_reducible exact natz2 | with_reducible exact natz3 | with_reducible exact natz4 | with_reducible exact natz8)) | (apply natz_sub; (· first | with_reducible exact natz _ | with_reducible exact natz0 | with_reducible exact natz1 | with_reducible exact natz2 | with_reducible exact natz3 | with_reducible exact natz4 | with_reducible exact natz8); (· first | with_reducible exact natz _ | with_reducible exact natz0 | with_reducible exact natz1 | with_reducible exact natz2 | with_reducible exact natz3 | with_reducible exact natz4 | with_reducible exact natz8); (· omega)) | exact (Int.toNat_of_nonneg (by omega)).symm)) rfl rfl rfl rfl rfl rfl (by decide) (by omega) (by omega) rfl ?_; intro zzc) | (refine WL.add16 rfl rfl rfl (by omega) ?_) | ((refine iDraw ?_; (first | refine WC.drawAll rfl (by decide +kernel) ?_ | refine WC.draw 1 rfl (by decide +kernel) ?_ | refine WC.draw 2 rfl (by decide +kernel) ?_ | refine WC.draw 3 rfl (by decide +kernel) ?_ | refine WC.draw 4 rfl (by decide +kernel) ?_ | refine WC.draw 5 rfl (by decide +kernel) ?_ | refine WC.draw 6 rfl (by decide +kernel) ?_ | refine WC.draw 7 rfl (by decide +kernel) ?_ | refine WC.draw 8 rfl (by decide +kernel) ?_ | refine WC.draw 9 rfl (by decide +kernel) ?_ | refine WC.draw 10 rfl (by decide +kernel) ?_ | refine WC.draw 11 rfl (by decide +kernel) ?_ | refine WC.draw 12 rfl (by decide +kernel) ?_ | refine WC.draw 13 rfl (by decide +kernel) ?_ | refine WC.draw 14 rfl (by decide +kernel) ?_ | refine WC.draw 15 rfl (by decide +kernel) ?_ | refine WC.draw 16 rfl (by decide +kernel) ?_ | refine WC.draw 17 rfl (by decide +kernel) ?_ | refine WC.draw 18 rfl (by decide +kernel) ?_ | refine WC.draw 19 rfl (by decide +kernel) ?_ | refine WC.draw 20 rfl (by decide +kernel) ?_ | refine WC.draw 21 rfl (by decide +kernel) ?_ | refine WC.draw 22 rfl (by decide +kernel) ?_ | refine WC.draw 23 rfl (by decide +kernel) ?_ | refine WC.draw 24 rfl (by decide +kernel) ?_)); (repeat (refine WD.cons rfl (fun c h => by cases h) sq_D9_1 ?_)); refine WD.nil ?_)); (try (refine st ?_; (repeat intro zzc)))))) | ((first | (refine WL.makeRow (sz:=1) (by':=2) (zs:=[.int .i16 0]) rfl rfl (by (first | with_reducible exact natz _ | with_reducible exact natz0 | with_reducible exact natz1 | with_reducible exact natz2 | with_reducible exact natz3 | with_reducible exact natz4 | with_reducible exact natz8 | (apply natz_add; (· first | with_reducible exact natz _ | with_reducible exact natz0 | with_reducible exact natz1 | with_reducible exact natz2 | with_reducible exact natz3 | with_reducible exact natz4 | with_reducible exact natz8); (· first | with_reducible exact natz _ | with_reducible exact natz0 | with_reducible exact natz1 | with_reducible exact natz2 | with_reducible exact natz3 | with_reducible exact natz4 | with_reducible exact natz8)) | (apply natz_sub; (· first | with_reducible exact natz _ | with_reducible exact natz0 | with_reducible exact natz1 | with_reducible exact natz2 | with_reducible exact natz3 | with_reducible exact natz4 | with_reducible exact natz8); (· first | with_reducible exact natz _ | with_reducible exact natz0 | with_reducible exact natz1 | with_reducible exact natz2 | with_reducible exact natz3 | with_reducible exact natz4 | with_reducible exact natz8); (· omega)) | exact (Int.toNat_of_nonneg (by omega)).symm)) (by (first | with_reducible exact natz _ | with_reducible exact natz0 | with_reducible exact natz1 | with_reducible exact natz2 | with_reducible exact natz3 | with_reducible exact natz4 | with_reducible exact natz8 | (apply natz_add; (· first | with_reducible exact natz _ | with_reducible exact natz0 | with_reducible exact natz1 | with_reducible exact natz2 | with_reducible exact natz3 | with_reducible exact natz4 | with_reducible exact natz8); (· first | with_reducible exact natz _ | with_reducible exact natz0 | with_reducible exact natz1 | with_reducible exact natz2 | with_reducible exact natz3 | with_reducible exact natz4 | with_reducible exact natz8)) | (apply natz_sub; (· first | with_reducible exact natz _ | with_reducible exact natz0 | with_reducible exact natz1 | with_reducible exact natz2 | with_reducible exact natz3 | with_reducible exact natz4 | with_reducible exact natz8); (· first | with_reducible exact natz _ | with_reducible exact natz0 | with_reducible exact natz1 | with_reducible exact natz2 | with_reducible exact natz3 | with_reducible exact natz4 | with_reducible exact natz8); (· omega)) | exact (Int.toNat_of_nonneg (by omega)).symm)) rfl rfl rfl rfl rfl rfl (by decide) (by omega) (by omega) rfl ?_; intro zzc) | (refine WL.makeRow (sz:=1) (by':=24) (zs:=[.slice none 0 0]) rfl rfl (by (first | with_reducible exact natz _ | with_reducible exact natz0 | with_reducible exact natz1 | with_reducible exact natz2 | with_reducible exact natz3 | with_reducible exact natz4 | with_reducible exact natz8 | (apply natz_add; (· first | with_reducible exact natz _ | with_reducible exact natz0 | with_reducible exact natz1 | with_reducible exact natz2 | with_reducible exact natz3 | with_reducible exact natz4 | with_reducible exact natz8); (· first | with_reducible exact natz _ | with_reducible exact natz0 | with_reducible exact natz1 | with_reducible exact natz2 | with_reducible exact natz3 | with_reducible exact natz4 | with_reducible exact natz8)) | (apply natz_sub; (· first | with_reducible exact natz _ | with_reducible exact natz0 | with_reducible exact natz1 | with_reducible exact natz2 | with_reducible exact natz3 | with_reducible exact natz4 | with_reducible exact natz8); (· first | with_reducible exact natz _ | with_reducible exact natz0 | with_reducible exact natz1 | with_reducible exact natz2 | with_reducible exact natz3 | with_reducible exact natz4 | with_reducible exact natz8); (· omega)) | exact (Int.toNat_of_nonneg (by omega)).symm)) (by (first | with_reducible exact natz _ | with_reducible exact natz0 | with_reducible exact natz1 | with_reducible exact natz2 | with_reducible exact natz3 | with_reducible exact natz4 | with_reducible exact natz8 | (apply natz_add; (· first | with_reducible exact natz _ | with_reducible exact natz0 | with_reducible exact natz1 | with_reducible exact natz2 | with_reducible exact natz3 | with_reducible exact natz4 | with_reducible exact natz8); (· first | with_reducible exact natz _ | with_reducible exact natz0 | with_reducible exact natz1 | with_reducible exact natz2 | with_reducible exact natz3 | with_reducible exact natz4 | with_reducible exact natz8)) | (apply natz_sub; (· first | with_reducible exact natz _ | with_reducible exact natz0 | with_reducible exact natz1 | with_reducible exact natz2 | with_reducible exact natz3 | with_reducible exact natz4 | with_reducible exact natz8); (· first | with_reducible exact natz _ | with_reducible exact natz0 | with_reducible exact natz1 | with_reducible exact natz2 | with_reducible exact natz3 | with_reducible exact natz4 | with_reducible exact natz8); (· omega)) | exact (Int.toNat_of_nonneg (by omega)).symm)) rfl rfl rfl rfl rfl rfl (by decide) (by omega) (by omega) rfl ?_; intro zzc) | (refine WL.add16 rfl rfl rfl (by omega) ?_) | ((refine iDraw ?_; (first | refine WC.drawAll rfl (by decide +kernel) ?_ | refine WC.draw 1 rfl (by decide +kernel) ?_ | refine WC.draw 2 rfl (by decide +kernel) ?_ | refine WC.draw 3 rfl (by decide +kernel) ?_ | refine WC.draw 4 rfl (by decide +kernel) ?_ | refine WC.draw 5 rfl (by decide +kernel) ?_ | refine WC.draw 6 rfl (by decide +kernel) ?_ | refine WC.draw 7 rfl (by decide +kernel) ?_ | refine WC.draw 8 rfl (by decide +kernel) ?_ | refine WC.draw 9 rfl (by decide +kernel) ?_ | refine WC.draw 10 rfl (by decide +kernel) ?_ | refine WC.draw 11 rfl (by decide +kernel) ?_ | refine WC.draw 12 rfl (by decide +kernel) ?_ | refine WC.draw 13 rfl (by decide +kernel) ?_ | refine WC.draw 14 rfl (by decide +kernel) ?_ | refine WC.draw 15 rfl (by decide +kernel) ?_ | refine WC.draw 16 rfl (by decide +kernel) ?_ | refine WC.draw 17 rfl (by decide +kernel) ?_ | refine WC.draw 18 rfl (by decide +kernel) ?_ | refine WC.draw 19 rfl (by decide +kernel) ?_ | refine WC.draw 20 rfl (by decide +kernel) ?_ | refine WC.draw 21 rfl (by decide +kernel) ?_ | refine WC.draw 22 rfl (by decide +kernel) ?_ | refine WC.draw 23 rfl (by decide +kernel) ?_ | refine WC.draw 24 rfl (by decide +kernel) ?_)); (repeat (refine WD.cons rfl (fun c h => by cases h) sq_D9_1 ?_)); refine WD.nil ?_)); (try (refine st ?_; (repeat intro zzc))))); (repeat ((first | (refine WL.makeRow (sz:=1) (by':=2) (zs:=[.int .i16 0]) rfl rfl (by (first | with_reducible exact natz _ | with_reducible exact natz0 | with_reducible exact natz1 | with_reducible exact natz2 | with_reducible exact natz3 | with_reducible exact natz4 | with_reducible exact natz8 | (apply natz_add; (· first | with_reducible exact natz _ | with_reducible exact natz0 | with_reducible exact natz1 | with_reducible exact natz2 | with_reducible exact natz3 | with_reducible exact natz4 | with_reducible exact natz8); (· first | with_reducible exact natz _ | with_reducible exact natz0 | with_reducible exact natz1 | with_reducible exact natz2 | with_reducible exact natz3 | with_reducible exact natz4 | with_reducible exact natz8)) | (apply natz_sub; (· first | with_reducible exact natz _ | with_reducible exact natz0 | with_reducible exact natz1 | with_reducible exact natz2 | with_reducible exact natz3 | with_reducible exact natz4 | with_reducible exact natz8); (· first | with_reducible exact natz _ | with_reducible exact natz0 | with_reducible exact natz1 | with_reducible exact natz2 | with_reducible exact natz3 | with_reducible exact natz4 | with_reducible exact natz8); (· omega)) | exact (Int.toNat_of_nonneg (by omega)).symm)) (by (first | with_reducible exact natz _ | with_reducible exact natz0 | with_reducible exact natz1 | with_reducible exact natz2 | with_reducible exact natz3 | with_reducible exact natz4 | with_reducible exact natz8 | (apply natz_add; (· first | with_reducible exact natz _ | with_reducible exact natz0 | with_reducible exact natz1 | with_reducible exact natz2 | with_reducible exact natz3 | with_reducible exact natz4 | with_reducible exact natz8); (· first | with_reducible exact natz _ | with_reducible exact natz0 | with_reducible exact natz1 | with_reducible exact natz2 | with_reducible exact natz3 | with_reducible exact natz4 | with_reducible exact natz8)) | (apply natz_sub; (· first | with_reducible exact natz _ | with_reducible exact natz0 | with_reducible exact natz1 | with_reducible exact natz2 | with_reducible exact natz3 | with_reducible exact natz4 | with_reducible exact natz8); (· first | with_reducible exact natz _ | with_reducible exact natz0 | with_reducible exact natz1 | with_reducible exact natz2 | with_reducible exact natz3 | with_reducible exact natz4 | with_reducible exact natz8); (· omega)) | exact (Int.toNat_of_nonneg (by omega)).symm)) rfl rfl rfl rfl rfl rfl (by decide) (by omega) (by omega) rfl ?_; intro zzc) | (refine WL.makeRow (sz:=1) (by':=24) (zs:=[.slice none 0 0]) rfl rfl (by (first | with_reducible exact natz _ | with_reducible exact natz0 | with_reducible exact natz1 | with_reducible exact natz2 | with_reducible exact natz3 | with_reducible exact natz4 | with_reducible exact natz8 | (apply natz_add; (· first | with_reducible exact natz _ | with_reducible exact natz0 | with_reducible exact natz1 | with_reducible exact natz2 | with_reducible exact natz3 | with_reducible exact natz4 | with_reducible exact natz8); (· first | with_reducible exact natz _ | with_reducible exact natz0 | with_reducible exact natz1 | with_reducible exact natz2 | with_reducible exact natz3 | with_reducible exact natz4 | with_reducible exact natz8)) | (apply natz_sub; (· first | with_reducible exact natz _ | with_reducible exact natz0 | with_reducible exact natz1 | with_reducible exact natz2 | with_reducible exact natz3 | with_reducible exact natz4 | with_reducible exact natz8); (· first | with_reducible exact natz _ | with_reducible exact natz0 | with_reducible exact natz1 | with_reducible exact natz2 | with_reducible exact natz3 | with_reducible exact natz4 | with_reducible exact natz8); (· omega)) | exact (Int.toNat_of_nonneg (by omega)).symm)) (by (first | with_reducible exact natz _ | with_reducible exact natz0 | with_reducible exact natz1 | with_reducible exact natz2 | with_reducible exact natz3 | with_reducible exact natz4 | with_reducible exact natz8 | (apply natz_add; (· first | with_reducible exact natz _ | with_reducible exact natz0 | with_reducible exact natz1 | with_reducible exact natz2 | with_reducible exact natz3 | with_reducible exact natz4 | with_reducible exact natz8); (· first | with_reducible exact natz _ | with_reducible exact natz0 | with_reducible exact natz1 | with_reducible exact natz2 | with_reducible exact natz3 | with_reducible exact natz4 | with_reducible exact natz8)) | (apply natz_sub; (· first | with_reducible exact natz _ | with_reducible exact natz0 | with_reducible exact natz1 | with_reducible exact natz2 | with_reducible exact natz3 | with_reducible exact natz4 | with_reducible exact natz8); (· first | with_reducible exact natz _ | with_reducible exact natz0 | with_reducible exact natz1 | with_reducible exact natz2 | with_reducible exact natz3 | with_reducible exact natz4 | with_reducible exact natz8); (· omega)) | exact (Int.toNat_of_nonneg (by omega)).symm)) rfl rfl rfl rfl rfl rfl (by decide) (by omega) (by omega) rfl ?_; intro zzc) | (refine WL.add16 rfl rfl rfl (by omega) ?_) | ((refine iDraw ?_; (first | refine WC.drawAll rfl (by decide +kernel) ?_ | refine WC.draw 1 rfl (by decide +kernel) ?_ | refine WC.draw 2 rfl (by decide +kernel) ?_ | refine WC.draw 3 rfl (by decide +kernel) ?_ | refine WC.draw 4 rfl (by decide +kernel) ?_ | refine WC.draw 5 rfl (by decide +kernel) ?_ | refine WC.draw 6 rfl (by decide +kernel) ?_ | refine WC.draw 7 rfl (by decide +kernel) ?_ | refine WC.draw 8 rfl (by decide +kernel) ?_ | refine WC.draw 9 rfl (by decide +kernel) ?_ | refine WC.draw 10 rfl (by decide +kernel) ?_ | refine WC.draw 11 rfl (by decide +kernel) ?_ | refine WC.draw 12 rfl (by decide +kernel) ?_ | refine WC.draw 13 rfl (by decide +kernel) ?_ | refine WC.draw 14 rfl (by decide +kernel) ?_ | refine WC.draw 15 rfl (by decide +kernel) ?_ | refine WC.draw 16 rfl (by decide +kernel) ?_ | refine WC.draw 17 rfl (by decide +kernel) ?_ | refine WC.draw 18 rfl (by decide +kernel) ?_ | refine WC.draw 19 rfl (by decide +kernel) ?_ | refine WC.draw 20 rfl (by decide +kernel) ?_ | refine WC.draw 21 rfl (by decide +kernel) ?_ | refine WC.draw 22 rfl (by decide +kernel) ?_ | refine WC.draw 23 rfl (by decide +kernel) ?_ | refine WC.draw 24 rfl (by decide +kernel) ?_)); (repeat (refine WD.cons rfl (fun c h => by cases h) sq_D9_1 ?_)); refine WD.nil ?_)); (try (refine st ?_; (repeat intro zzc))))); (repeat revert zzc); exact zzn.out) : G := h ⟨next⟩
theorem middle_any {A B : List Tx} {aa ab : Option Addr} {ca cb k0 : Nat} {w0 : World} {m : Mem} {H : SHeap} (hA : A.length ≤ 4194304) (hB : B.length ≤ 4194304) (hk0 : k0 ≤ 4194304) (ha : RowR w0 m H 1 aa (strs A)) (hb : RowR w0 m H 1 ab (strs B)) :
    Does Try.prog 51 #[.slice aa A.length ca, .slice ab B.length cb, .int .i64 (k0 : Int)] w0 m H (fun v m' H' => m' = m ∧ ∃ a cp, v = .slice a (mid A B k0).length cp ∧ H' = .row a cp 93 2 ((mid A B k0).map prE) :: H) := by
  refine Does.of_body (args := [.slice aa A.length ca, .slice ab B.length cb, .int .i64 (k0 : Int)]) Try.func51 rfl Try.ntmps51 rfl ?_
  by_cases h0 : A.length = 0
  · have hm : mid A B k0 = [] := by rw [List.eq_nil_of_length_eq_zero h0]; unfold mid; split <;> simp [midL]
    refine WC.newRow (T := 93) (sz := 2) ?_
    (try (refine st_D9_1 ?_; intros))
    exact q_fin0 (H0 := .row none 0 93 2 [] :: H) ⟨rfl, none, 0, by rw [hm], by rw [hm]; rfl⟩ (hd := zpk)
  by_cases h1 : B.length = 0
  · have hm : mid A B k0 = [] := by
      rw [List.eq_nil_of_length_eq_zero h1]; unfold mid
      split
      · exact midL_zero (lcs_nil _)
      · rfl
    refine WC.newRow (T := 93) (sz := 2) ?_
    (try (refine st_D9_1 ?_; intros))
    exact q_fin0 (H0 := .row none 0 93 2 [] :: H) ⟨rfl, none, 0, by rw [hm], by rw [hm]; rfl⟩ (hd := zpk)
  by_cases h2 : 1024 < A.length
  · have hm : mid A B k0 = [] := if_neg (by omega)
    refine WC.newRow (T := 93) (sz := 2) ?_
    (try (refine st_D9_1 ?_; intros))
    exact q_fin0 (H0 := .row none 0 93 2 [] :: H) ⟨rfl, none, 0, by rw [hm], by rw [hm]; rfl⟩ (hd := zpk)
  by_cases h3 : 1024 < B.length
  · have hm : mid A B k0 = [] := if_neg (by omega)
    refine WC.newRow (T := 93) (sz := 2) ?_
    (try (refine st_D9_1 ?_; intros))
    exact q_fin0 (H0 := .row none 0 93 2 [] :: H) ⟨rfl, none, 0, by rw [hm], by rw [hm]; rfl⟩ (hd := zpk)
  have hm : mid A B k0 = midL A B k0 k0 := if_pos (by omega)
  rw [hm]
  have hcA : (A.length : Int) + 1 = ((A.length + 1 : Nat) : Int) := by omega
  have hcB : (B.length : Int) + 1 = ((B.length + 1 : Nat) : Int) := by omega
  (refine st_D9_1 ?_; intros; rename_i bo)
  generalize hN : A.length + 1 = N at *
  rw [show List.replicate N [Value.slice none 0 0] = outE [] (B.length + 1) N by unfold outE; rfl]
  refine WC.heap (H' := .row (some ⟨bo, 0, none⟩) N 149 1 (outE [] (B.length + 1) N) :: (tabL 150 (B.length + 1) (fun _ => List.replicate (B.length + 1) [.int .i16 0]) [] ++ H)) (fun w h => by unfold tabL; exact h) ?_
  refine WC.loopH [(40, .int .i64 ((0) : Int)), (39, .int .i64 (N : Int)), (7, .slice (some ⟨bo, 0, none⟩) N N), (0, .slice aa A.length ca), (1, .slice ab B.length cb), (2, .int .i64 (k0 : Int))] ?_ ?_ (fun j r ds m' H' => ∃ (q : _) (bs : List Nat), j = N - q ∧ r = [(40, .int .i64 (q : Int)), (39, .int .i64 (N : Int)), (7, .slice (some ⟨bo, 0, none⟩) N N), (0, .slice aa A.length ca), (1, .slice ab B.length cb), (2, .int .i64 (k0 : Int))] ∧ ds = [] ∧ m = m' ∧ H' = .row (some ⟨bo, 0, none⟩) N 149 1 (outE bs (B.length + 1) N) :: (tabL 150 (B.length + 1) (fun _ => List.replicate (B.length + 1) [.int .i16 0]) bs ++ H) ∧ (bs.length = q) ∧ (q ≤ N)) (N - (0)) ⟨0, [], rfl, rfl, rfl, rfl, rfl, rfl, by omega⟩ ?_
  · (repeat (first | exact Env.Sub.nil | refine Env.Sub.cons rfl ?_))
  · exact zpk
  rintro j r ds m' H' ⟨q, bs, rfl, rfl, rfl, rfl, rfl, hbl, hjN⟩
  by_cases hlt : q < N
  · have hol : (outE bs (B.length + 1) N).length = N := outE_length (by omega)
    have hset : ∀ b, (outE bs (B.length + 1) N).set q [.slice (some ⟨b, 0, none⟩) (B.length + 1) (B.length + 1)] = outE (bs ++ [b]) (B.length + 1) N := fun b => by rw [← hbl]; exact outE_set (by omega)
    generalize hOE : outE bs (B.length + 1) N = OE at *
    (refine st_D9_1 ?_; intros; rename_i bn)
    rw [hset]
    refine WQ.heapX (H' := .row (some ⟨bo, 0, none⟩) N 149 1 (outE (bs ++ [bn]) (B.length + 1) N) :: (tabL 150 (B.length + 1) (fun _ => List.replicate (B.length + 1) [.int .i16 0]) (bs ++ [bn]) ++ H)) (fun w h => h.perm ?_) ?_
    · rw [tabL_snoc]
      exact (List.Perm.swap _ _ _).trans (List.Perm.cons _ ((List.perm_append_singleton _ _).symm.append_right H))
    · refine WQ.next (N - (q + 1)) ⟨q + 1, bs ++ [bn], rfl, rfl, rfl, rfl, rfl, ?_, ?_⟩ (by omega) zsb zpk
      · rw [List.length_append, List.length_singleton]; omega
      · omega
  · obtain rfl : q = N := by omega
    rw [tabL_congr (G := fun i => rowP A B i (if i < A.length then B.length else 0)) (fun i hi => by
      split
      · exact (rowP_zero (.inl (Nat.le_refl _))).symm
      · exact (rowP_zero (.inr (by omega))).symm)]
    obtain ⟨E, hE⟩ : ∃ E, E = outE bs (B.length + 1) q := ⟨_, rfl⟩
    have hEl : E.length = q := by rw [hE]; exact outE_length (by omega)
    have hEg : ∀ i b, bs[i]? = some b → E[i]? = some [Value.slice (some ⟨b, 0, none⟩) (B.length + 1) (B.length + 1)] := fun i b h => by rw [hE]; exact outE_get h
    rw [← hE]
    clear hE
    (try (refine st_D9_1 ?_; intros))
    refine WC.loopH [(9, .int .i64 (((A.length) : Int) - 1)), (7, .slice (some ⟨bo, 0, none⟩) q q), (0, .slice aa A.length ca), (1, .slice ab B.length cb), (2, .int .i64 (k0 : Int))] ?_ ?_ (fun j r ds m' H' => ∃ i, j = 2 * i ∧ r = [(9, .int .i64 ((i : Int) - 1)), (7, .slice (some ⟨bo, 0, none⟩) q q), (0, .slice aa A.length ca), (1, .slice ab B.length cb), (2, .int .i64 (k0 : Int))] ∧ ds = [] ∧ m = m' ∧ H' = .row (some ⟨bo, 0, none⟩) q 149 1 E :: (tabL 150 (B.length + 1) (fun k => rowP A B k (if k < i then B.length else 0)) bs ++ H) ∧ (i ≤ A.length)) (2 * (A.length)) ⟨A.length, rfl, rfl, rfl, rfl, rfl, by omega⟩ ?_
    · (repeat (first | exact Env.Sub.nil | refine Env.Sub.cons rfl ?_))
    · exact zpk
    rintro j r ds m' H' ⟨i, rfl, rfl, rfl, rfl, rfl, hi⟩
    by_cases hz : i = 0
    · subst hz
      clear hi
      have hrows : ∀ i b, bs[i]? = some b → RowR w0 m (tabL 150 (B.length + 1) (fun k => rowP A B k (if k < 0 then B.length else 0)) bs ++ H) 1 (some ⟨b, 0, none⟩) (rowP A B i 0) := fun i b h => RowR.row (List.mem_append.2 (.inl (tabL_mem h)))
      have hra : RowR w0 m (tabL 150 (B.length + 1) (fun k => rowP A B k (if k < 0 then B.length else 0)) bs ++ H) 1 aa (strs A) := ha.weak (fun w h => drops_app h)
      have hrb : RowR w0 m (tabL 150 (B.length + 1) (fun k => rowP A B k (if k < 0 then B.length else 0)) bs ++ H) 1 ab (strs B) := hb.weak (fun w h => drops_app h)
      have hdrop : ∀ w i, Sat w0 m (i :: .row (some ⟨bo, 0, none⟩) q 149 1 E :: (tabL 150 (B.length + 1) (fun k => rowP A B k (if k < 0 then B.length else 0)) bs ++ H)) w → Sat w0 m (i :: H) w := fun w i h => by
        have h2 := h.perm ((List.Perm.swap _ _ _).trans (List.Perm.cons _ (List.perm_middle (a := i)).symm))
        exact drops_app h2.drop
      generalize tabL 150 (B.length + 1) (fun k => rowP A B k (if k < 0 then B.length else 0)) bs ++ H = Y at hrows hra hrb hdrop ⊢
      clear ha hb hm
      (try (refine st_D9_1 ?_; intros))
      refine WC.newRow (T := 93) (sz := 2) ?_
      refine WC.loopH [(110, .int .i64 ((0) : Int)), (109, .int .i64 (A.length : Int)), (13, .int .i64 ((0) : Int)), (12, .slice (none) ([]).length (0)), (7, .slice (some ⟨bo, 0, none⟩) q q), (0, .slice aa A.length ca), (1, .slice ab B.length cb), (2, .int .i64 (k0 : Int))] ?_ ?_ (fun j r ds m' H' => ∃ (i : Nat) (k : Nat) (a : Option Addr) (cp : Nat) (L : List (Nat × Nat)), j = A.length - i ∧ r = [(110, .int .i64 (i : Int)), (109, .int .i64 (A.length : Int)), (13, .int .i64 (k : Int)), (12, .slice a L.length cp), (7, .slice (some ⟨bo, 0, none⟩) q q), (0, .slice aa A.length ca), (1, .slice ab B.length cb), (2, .int .i64 (k0 : Int))] ∧ ds = [] ∧ m = m' ∧ H' = .row a cp 93 2 (L.map prE) :: .row (some ⟨bo, 0, none⟩) q 149 1 E :: Y ∧ (i ≤ A.length) ∧ (k ≤ B.length) ∧ (L.length ≤ i) ∧ (L ++ midL (A.drop i) (B.drop k) (k0 + i) (k0 + k) = midL A B k0 k0)) (A.length - (0)) ⟨0, 0, none, 0, [], rfl, rfl, rfl, rfl, rfl, by omega, by omega, by simp, by simp⟩ ?_
      · (repeat (first | exact Env.Sub.nil | refine Env.Sub.cons rfl ?_))
      · exact zpk
      rintro j r ds m' H' ⟨i, k, a, cp, L, rfl, rfl, rfl, rfl, rfl, hi, hk, hLl, hL⟩
      by_cases hlt : i < A.length
      · obtain ⟨x, hx⟩ : ∃ x, A[i]? = some x := ⟨_, List.getElem?_eq_getElem hlt⟩
        obtain ⟨bi, hbi⟩ : ∃ b, bs[i]? = some b := ⟨_, List.getElem?_eq_getElem (by omega : i < bs.length)⟩
        obtain ⟨b1, hb1⟩ : ∃ b, bs[i + 1]? = some b := ⟨_, List.getElem?_eq_getElem (by omega : i + 1 < bs.length)⟩
        have hstep := hL
        rw [drop_get hx, midL, ← drop_get hx] at hstep
        (try (refine st_D9_1 ?_; intros))
        refine WC.weak zsb zpk (mid_find (L := L) (a := a) (cp := cp) (k := k) (k0 := k0) (i := i) (ca := ca) (cb := cb) (bo := bo) (by omega) (by omega) hk0 hx hk (by omega) hN hEl (hEg i bi hbi) (hEg (i + 1) b1 hb1) (hrows i bi hbi) (hrows (i + 1) b1 hb1) hra hrb ?_ ?_)
        · intro hno
          rw [hno] at hstep
          (try (refine st_D9_1 ?_; intros))
          refine WQ.next (A.length - (i + 1)) ⟨i + 1, k, a, cp, L, rfl, rfl, rfl, rfl, rfl, ?_, ?_, ?_, ?_⟩ (by omega) zsb zpk
          · omega
          · omega
          · omega
          · exact hstep
        · intro p a2 cp2 hkp hpB hyes
          rw [hyes] at hstep
          (try (refine st_D9_1 ?_; intros))
          rw [show (p : Int) + 1 = ((p + 1 : Nat) : Int) by omega, show L.length + 1 = (L ++ [(k0 + i, k0 + p)]).length by simp, show L.map prE ++ [[Value.int .i64 ((k0 : Int) + i), .int .i64 ((k0 : Int) + p)]] = (L ++ [(k0 + i, k0 + p)]).map prE by simp [prE]]
          refine WQ.next (A.length - (i + 1)) ⟨i + 1, p + 1, a2, cp2, L ++ [(k0 + i, k0 + p)], rfl, rfl, rfl, rfl, rfl, ?_, ?_, ?_, ?_⟩ (by omega) zsb zpk
          · omega
          · omega
          · rw [List.length_append, List.length_singleton]; omega
          · rw [List.append_assoc, List.singleton_append, ← hstep]
            simp only [List.drop_drop]
            rw [show k0 + k + (p - k) = k0 + p by omega, show k + (p - k + 1) = p + 1 by omega]
            rfl
      · have hAe : A.drop i = [] := List.drop_of_length_le (by omega)
        rw [hAe, midL, List.append_nil] at hL
        subst hL
        (try (refine st_D9_1 ?_; intros))
        exact q_fin0 (H0 := .row a cp 93 2 ((midL A B k0 k0).map prE) :: H) ⟨rfl, a, cp, rfl, rfl⟩ (hd := fun w h => hdrop w _ h)
    · obtain ⟨i', rfl⟩ : ∃ i', i = i' + 1 := ⟨i - 1, by omega⟩
      obtain ⟨x, hx⟩ : ∃ x, A[i']? = some x := ⟨_, List.getElem?_eq_getElem (by omega : i' < A.length)⟩
      obtain ⟨bi, hbi⟩ : ∃ b, bs[i']? = some b := ⟨_, List.getElem?_eq_getElem (by omega : i' < bs.length)⟩
      obtain ⟨b1, hb1⟩ : ∃ b, bs[i' + 1]? = some b := ⟨_, List.getElem?_eq_getElem (by omega : i' + 1 < bs.length)⟩
      obtain ⟨X, p1, p2, pX⟩ := tabL_out (T := 150) (c := B.length + 1) (F := fun k => rowP A B k (if k < i' + 1 then B.length else 0)) (G := fun k => rowP A B k (if k < i' then B.length else 0)) hbi (fun k hk => by
        show rowP A B k _ = rowP A B k _
        congr 1
        split <;> split <;> omega)
      have pX1 := pX (i' + 1) b1 (by omega) hb1
      simp only [if_neg (Nat.lt_irrefl _), if_pos (Nat.lt_succ_self _)] at p1 p2 pX1
      rw [show ((i' + 1 : Nat) : Int) - 1 = (i' : Int) by omega]
      have hxd := drop_get hx
      have hgx : (strs A)[i']? = some [str x] := by unfold strs; rw [List.getElem?_map, hx]; rfl
      have hE0 := hEg i' bi hbi
      have hE1 := hEg (i' + 1) b1 hb1
      refine WC.heap (H' := .row (some ⟨bi, 0, none⟩) (B.length + 1) 150 1 (rowP A B i' B.length) :: .row (some ⟨bo, 0, none⟩) q 149 1 E :: (X ++ H)) (fun w h => h.perm ((List.Perm.cons _ (p1.append_right H)).trans (List.Perm.swap _ _ _))) ?_
      have hback : ∀ w, Sat w0 m (.row (some ⟨bi, 0, none⟩) (B.length + 1) 150 1 (rowP A B i' 0) :: .row (some ⟨bo, 0, none⟩) q 149 1 E :: (X ++ H)) w → Sat w0 m (.row (some ⟨bo, 0, none⟩) q 149 1 E :: (tabL 150 (B.length + 1) (fun k => rowP A B k (if k < i' then B.length else 0)) bs ++ H)) w :=
        fun w h => h.perm ((List.Perm.swap _ _ _).trans (List.Perm.cons _ (p2.append_right H).symm))
      have hr1 : RowR w0 m (X ++ H) 1 (some ⟨b1, 0, none⟩) (rowP A B (i' + 1) 0) := RowR.row (List.mem_append.2 (.inl pX1))
      have hra : RowR w0 m (X ++ H) 1 aa (strs A) := ha.weak (fun w h => drops_app h)
      have hrb : RowR w0 m (X ++ H) 1 ab (strs B) := hb.weak (fun w h => drops_app h)
      have hal : (strs A).length = A.length := by simp [strs]
      have hbl2 : (strs B).length = B.length := by simp [strs]
      clear pX pX1 p1 p2 hEg ha hb hm
      generalize X ++ H = Y at hback hr1 hra hrb ⊢
      (try (refine st_D9_1 ?_; intros))
      refine WC.weak zsb zpk (mid_row (k0 := k0) (by omega) (by omega) hx hN hEl hE0 hE1 hr1 hra hrb ?_)
      (try (refine st_D9_1 ?_; intros))
      refine WQ.heapX hback ?_
      refine WQ.next (2 * (i')) ⟨i', rfl, rfl, rfl, rfl, rfl, ?_⟩ (by omega) zsb zpk
      · omega
end Go.Proofs.Ytgckeelnhafgaaa

/-
  A match's pairs rise, lie within both lists and are alike; what is woven. No condition.
-/
namespace Go.Eng
open Go
/-- pairs from places i, k on, up to n, m: they rise, and are alike -/
def PrOk (a b : List Tx) : Nat → Nat → List (Nat × Nat) → Nat → Nat → Prop
  | i, k, [], n, m => i ≤ n ∧ k ≤ m
  | i, k, p :: l, n, m => i ≤ p.1 ∧ k ≤ p.2 ∧ p.1 < n ∧ p.2 < m ∧ (∃ x, a[p.1]? = some x ∧ b[p.2]? = some x) ∧ PrOk a b (p.1 + 1) (p.2 + 1) l n m
theorem PrOk.le {a b : List Tx} : ∀ {l : List (Nat × Nat)} {i k n m : Nat}, PrOk a b i k l n m → i ≤ n ∧ k ≤ m
  | [], i, k, n, m, h => h
  | p :: l, i, k, n, m, ⟨h1, h2, h3, h4, _, _⟩ => by omega
theorem PrOk.app {a b : List Tx} : ∀ {l l2 : List (Nat × Nat)} {i k n m n2 m2 : Nat}, PrOk a b i k l n m → PrOk a b n m l2 n2 m2 → PrOk a b i k (l ++ l2) n2 m2
  | [], l2, i, k, n, m, n2, m2, h, h2 => by
    cases l2 with
    | nil => exact ⟨Nat.le_trans h.1 h2.1, Nat.le_trans h.2 h2.2⟩
    | cons q l2 => obtain ⟨g1, g2, g3⟩ := h2; exact ⟨Nat.le_trans h.1 g1, Nat.le_trans h.2 g2, g3⟩
  | p :: l, l2, i, k, n, m, n2, m2, ⟨h1, h2, h3, h4, h5, h6⟩, hh => by
    have := hh.le
    exact ⟨h1, h2, by omega, by omega, h5, h6.app hh⟩
theorem PrOk.mono {a b : List Tx} {l : List (Nat × Nat)} {i k n m n2 m2 : Nat} (h : PrOk a b i k l n m) (h1 : n ≤ n2) (h2 : m ≤ m2) : PrOk a b i k l n2 m2 := by
  have := h.app (l2 := []) (n2 := n2) (m2 := m2) ⟨h1, h2⟩
  rwa [List.append_nil] at this
theorem headN_alike : ∀ (a b : List Tx) (i : Nat), i < headN a b → ∃ x, a[i]? = some x ∧ b[i]? = some x
  | [], b, i, h => by simp [headN] at h
  | _ :: _, [], i, h => by simp [headN] at h
  | x :: xs, y :: ys, i, h => by
    rw [headN] at h
    split at h
    · next e =>
      subst e
      cases i with
      | zero => exact ⟨x, rfl, rfl⟩
      | succ i => simpa using headN_alike xs ys i (by omega)
    · omega
theorem range_ok {a b : List Tx} (f g : Nat) : ∀ (n s : Nat), (∀ i, s ≤ i → i < s + n → ∃ x, a[f + i]? = some x ∧ b[g + i]? = some x) → PrOk a b (f + s) (g + s) ((List.range' s n).map fun i => (f + i, g + i)) (f + s + n) (g + s + n)
  | 0, s, _ => ⟨Nat.le_refl _, Nat.le_refl _⟩
  | n + 1, s, h => by
    rw [List.range'_succ, List.map_cons]
    have ih := range_ok (a := a) (b := b) f g n (s + 1) (fun i h1 h2 => h i (by omega) (by omega))
    refine ⟨Nat.le_refl _, Nat.le_refl _, by simp only; omega, by simp only; omega, h s (Nat.le_refl _) (by omega), ?_⟩
    have e1 : f + s + 1 + n = f + s + (n + 1) := by omega
    have e2 : g + s + 1 + n = g + s + (n + 1) := by omega
    have : PrOk a b (f + (s + 1)) (g + (s + 1)) ((List.range' (s + 1) n).map fun i => (f + i, g + i)) (f + (s + 1) + n) (g + (s + 1) + n) := ih
    simpa only [← Nat.add_assoc, e1, e2] using this
theorem midL_ok {a b : List Tx} : ∀ (xs ys : List Tx) (i k n m : Nat), xs = (a.take n).drop i → ys = (b.take m).drop k → i ≤ n → k ≤ m → n ≤ a.length → m ≤ b.length → PrOk a b i k (midL xs ys i k) n m
  | [], ys, i, k, n, m, _, _, hi, hk, _, _ => ⟨hi, hk⟩
  | x :: xs, ys, i, k, n, m, hx, hy, hi, hk, hn, hm => by
    have hxl := congrArg List.length hx
    rw [List.length_cons, List.length_drop, List.length_take] at hxl
    have hin : i < n := by omega
    have hx1 : xs = (a.take n).drop (i + 1) := by
      rw [← List.drop_drop, ← hx]; rfl
    have hax : a[i]? = some x := by
      have := congrArg (·[0]?) hx
      simp only [List.getElem?_cons_zero, List.getElem?_drop, Nat.add_zero, List.getElem?_take] at this
      rw [if_pos hin] at this; exact this.symm
    rw [midL]
    cases hf : firstJ x xs (lcs (x :: xs) ys) ys with
    | none =>
      have := midL_ok xs ys (i + 1) k n m hx1 hy (by omega) hk hn hm
      simp only
      cases hl : midL xs ys (i + 1) k with
      | nil => exact ⟨hi, hk⟩
      | cons p l =>
        rw [hl] at this
        obtain ⟨g1, g2, g3⟩ := this
        exact ⟨by omega, g2, g3⟩
    | some j =>
      obtain ⟨j1, j2, _⟩ := firstJ_some hf
      have hyl : ys.length = m - k := by rw [hy, List.length_drop, List.length_take]; omega
      have hbj : b[k + j]? = some x := by
        rw [hy, List.getElem?_drop, List.getElem?_take, if_pos (by omega)] at j2
        exact j2
      have hy1 : ys.drop (j + 1) = (b.take m).drop (k + j + 1) := by rw [hy, List.drop_drop]; congr 1
      exact ⟨Nat.le_refl _, Nat.le_add_right _ _, hin, by simp only; omega, ⟨x, hax, hbj⟩, midL_ok xs _ (i + 1) (k + j + 1) n m hx1 hy1 (by omega) (by omega) hn hm⟩
theorem tailN_le (a b : List Tx) : headN a b + tailN a b ≤ a.length ∧ headN a b + tailN a b ≤ b.length := by
  have h1 := headN_le a b
  have h2 := headN_le ((a.drop (headN a b)).reverse) ((b.drop (headN a b)).reverse)
  unfold tailN
  simp only [List.length_reverse, List.length_drop] at h2
  omega
theorem match_ok (a b : List Tx) : PrOk a b 0 0 (matchL a b) a.length b.length := by
  have h1 := tailN_le a b
  have r1 := range_ok (a := a) (b := b) 0 0 (headN a b) 0 (fun i _ h => by simpa using headN_alike a b i (by omega))
  have r3 := range_ok (a := a) (b := b) (a.length - tailN a b) (b.length - tailN a b) (tailN a b) 0 (fun i _ h => by
    obtain ⟨x, g1, g2⟩ := headN_alike ((a.drop (headN a b)).reverse) ((b.drop (headN a b)).reverse) (tailN a b - 1 - i) (by unfold tailN at h ⊢; omega)
    refine ⟨x, ?_, ?_⟩
    · rw [List.getElem?_reverse (by rw [List.length_drop]; omega), List.length_drop, List.getElem?_drop] at g1
      rw [← g1]; congr 1; omega
    · rw [List.getElem?_reverse (by rw [List.length_drop]; omega), List.length_drop, List.getElem?_drop] at g2
      rw [← g2]; congr 1; omega)
  simp only [Nat.zero_add, Nat.add_zero] at r1 r3
  have e1 : (List.range' 0 (headN a b)).map (fun i => (i, i)) = (List.range (headN a b)).map (fun i => (i, i)) := by rw [List.range_eq_range']
  have e3 : (List.range' 0 (tailN a b)).map (fun i => (a.length - tailN a b + i, b.length - tailN a b + i)) = (List.range (tailN a b)).map (fun i => (a.length - tailN a b + i, b.length - tailN a b + i)) := by rw [List.range_eq_range']
  rw [e1] at r1
  rw [e3, show a.length - tailN a b + tailN a b = a.length by omega, show b.length - tailN a b + tailN a b = b.length by omega] at r3
  unfold matchL
  refine (r1.app ?_).app r3
  split
  · exact midL_ok _ _ _ _ _ _ rfl rfl (by omega) (by omega) (by omega) (by omega)
  · exact ⟨by omega, by omega⟩
/-- a conflict: its span, the three sides -/
structure Cf where
  a : Nat
  z : Nat
  b : Tx
  i : Tx
  f : Tx
def Cf.cs (c : Cf) : List Value := [.int .i64 (c.a : Int), .int .i64 (c.z : Int), str c.b, str c.i, str c.f]
/-- what is woven so far, and where the sides begin -/
structure Wv where
  out : Tx
  l : List Cf
  p : Nat
  q : Nat
  r : Nat
/-- texts from a place to another one, joined -/
def jn (l : List Tx) (a z : Nat) : Tx := ((l.take z).drop a).flatten
/-- what a side gives, and its conflict -/
def sideT (old a c : Tx) : Tx := if c ≠ old ∧ a = old then c else a
def sideC (o : Nat) (old a c : Tx) : List Cf := if c ≠ old ∧ a ≠ old ∧ a ≠ c then [⟨o, o + a.length, old, a, c⟩] else []
def Wv.side (w : Wv) (x y z : List Tx) (n m k : Nat) : Wv :=
  ⟨w.out ++ sideT (jn x w.p n) (jn y w.q m) (jn z w.r k), w.l ++ sideC w.out.length (jn x w.p n) (jn y w.q m) (jn z w.r k), n + 1, m + 1, k + 1⟩
def Wv.add (w : Wv) (t : Tx) : Wv := ⟨w.out ++ t, w.l, w.p, w.q, w.r⟩
def wvGo (x y z : List Tx) (M N : List (Nat × Nat)) : List Tx → Nat → Wv → Wv
  | [], _, w => w.side x y z x.length y.length z.length
  | t :: ts, n, w => match M.lookup n, N.lookup n with
    | some m, some k => wvGo x y z M N ts (n + 1) ((w.side x y z n m k).add t)
    | _, _ => wvGo x y z M N ts (n + 1) w
def weaveL (s t u : Tx) : Wv := wvGo (toks s) (toks t) (toks u) (matchL (toks s) (toks t)) (matchL (toks s) (toks u)) (toks s) 0 ⟨[], [], 0, 0, 0⟩
end Go.Eng

/-
  What is woven of sides that are alike, and turned about. No condition.
-/
namespace Go.Eng
open Go
theorem PrOk.low {a b : List Tx} {l : List (Nat × Nat)} {i k i2 k2 n m : Nat} (h : PrOk a b i k l n m) (h1 : i2 ≤ i) (h2 : k2 ≤ k) : PrOk a b i2 k2 l n m := by
  cases l with
  | nil => exact ⟨Nat.le_trans h1 h.1, Nat.le_trans h2 h.2⟩
  | cons p l => obtain ⟨g1, g2, g3⟩ := h; exact ⟨Nat.le_trans h1 g1, Nat.le_trans h2 g2, g3⟩
theorem PrOk.none {a b : List Tx} : ∀ {l : List (Nat × Nat)} {i k n m j : Nat}, PrOk a b i k l n m → j < i → l.lookup j = none
  | [], i, k, n, m, j, _, _ => rfl
  | p :: l, i, k, n, m, j, ⟨h1, h2, h3, h4, h5, h6⟩, hj => by
    obtain ⟨p1, p2⟩ := p
    simp only at *
    have e : (j == p1) = false := by simp; omega
    rw [List.lookup_cons, e]
    exact h6.none (by omega)
/-- what a match says of the next place -/
theorem PrOk.next {a b : List Tx} {l : List (Nat × Nat)} {i k n m : Nat} (h : PrOk a b i k l n m) (hi : i < n) :
    (l.lookup i = Option.none ∧ PrOk a b (i + 1) k l n m) ∨ (∃ p l2, l.lookup i = some p ∧ k ≤ p ∧ p < m ∧ (∃ x, a[i]? = some x ∧ b[p]? = some x) ∧ PrOk a b (i + 1) (p + 1) l2 n m ∧ ∀ j, i < j → l.lookup j = l2.lookup j) := by
  cases l with
  | nil => exact .inl ⟨rfl, hi, h.2⟩
  | cons p l =>
    obtain ⟨h1, h2, h3, h4, h5, h6⟩ := h
    obtain ⟨p1, p2⟩ := p
    simp only at *
    by_cases e : p1 = i
    · subst e
      refine .inr ⟨p2, l, by rw [List.lookup_cons]; simp, h2, h4, h5, h6, fun j hj => ?_⟩
      rw [List.lookup_cons, show (j == p1) = false by simp; omega]
    · refine .inl ⟨?_, by omega, h2, h3, h4, h5, h6⟩
      rw [List.lookup_cons, show (i == p1) = false by simp; omega]
      exact h6.none (by omega)
theorem jn_nil (l : List Tx) (a : Nat) : jn l a a = [] := by
  unfold jn
  rw [List.drop_of_length_le (by rw [List.length_take]; omega)]; rfl
end Go.Eng

/-
  The walk of draft.match. No condition.
-/
namespace Go.Eng
open Go Go.RowKit
theorem strs_get {A : List Tx} {i : Nat} {x : Tx} (h : A[i]? = some x) : (strs A)[i]? = some [str x] := by unfold strs; rw [List.getElem?_map, h]; rfl
theorem headN_step {A B : List Tx} {h : Nat} {x y : Tx} (hx : A[h]? = some x) (hy : B[h]? = some y) : headN (A.drop h) (B.drop h) = if x = y then headN (A.drop (h + 1)) (B.drop (h + 1)) + 1 else 0 := by
  rw [drop_get hx, drop_get hy, headN]
theorem headN_nil {A B : List Tx} {h : Nat} (g : A.length ≤ h ∨ B.length ≤ h) : headN (A.drop h) (B.drop h) = 0 := by
  rcases g with g | g
  · rw [List.drop_of_length_le g]; rfl
  · rw [List.drop_of_length_le g]; cases A.drop h <;> rfl
theorem rev_get {A : List Tx} {h t : Nat} (hh : t < A.length - h) : ((A.drop h).reverse)[t]? = A[A.length - 1 - t]? := by
  rw [List.getElem?_reverse (by rw [List.length_drop]; omega), List.length_drop, List.getElem?_drop]
  congr 1; omega
theorem strs_sub (A : List Tx) (p q : Nat) : ((strs A).take q).drop p = strs ((A.take q).drop p) := by
  unfold strs
  rw [List.map_drop, List.map_take]
end Go.Eng
namespace Go.Proofs.Ytgckeelnhafgaaa
open Go Go.Eng
set_option maxRecDepth 100000
set_option maxHeartbeats 4000000
set_option linter.all false
attribute [local irreducible] WL WC WQ QFun QLoop Does Q1 QRound QAssign Go.Addr.add
attribute [local irreducible] midL strs headN mid
theorem match_head {A B : List Tx} {aa ab : Option Addr} {ca cb : Nat} {w0 : World} {m : Mem} {H : SHeap} {Q : Exit → Act → World → Prop} (hA : A.length ≤ 4194304) (hB : B.length ≤ 4194304) (ha : RowR w0 m H 1 aa (strs A)) (hb : RowR w0 m H 1 ab (strs B))
    (hK : WQ 115 w0 Q (.exit 0) [(5, .int .i64 (headN A B : Int)), (0, .slice aa A.length ca), (1, .slice ab B.length cb)] [] m H) :
    WC Try.prog none 115 w0 ((loopsIn (Try.f31.body.getD .skip)).getD 0 .skip) Q [(5, .int .i64 0), (0, .slice aa A.length ca), (1, .slice ab B.length cb)] [] m H := by
  have hal : (strs A).length = A.length := by simp [strs]
  have hbl : (strs B).length = B.length := by simp [strs]
  refine WC.loopH [(5, .int .i64 ((0) : Int)), (0, .slice aa A.length ca), (1, .slice ab B.length cb)] ?_ ?_ (fun j r ds m' H' => ∃ h, j = A.length - h ∧ r = [(5, .int .i64 (h : Int)), (0, .slice aa A.length ca), (1, .slice ab B.length cb)] ∧ ds = [] ∧ m = m' ∧ H' = H ∧ (h ≤ A.length ∧ h ≤ B.length) ∧ (headN A B = h + headN (A.drop h) (B.drop h))) (A.length - (0)) ⟨0, rfl, rfl, rfl, rfl, rfl, ⟨by omega, by omega⟩, by simp⟩ ?_
  · (repeat (first | exact Env.Sub.nil | refine Env.Sub.cons rfl ?_))
  · exact zpk
  rintro j r ds m' H' ⟨h, rfl, rfl, rfl, rfl, rfl, hh, hN⟩
  by_cases hlt : h < A.length ∧ h < B.length
  · obtain ⟨hlA, hlB⟩ := hlt
    obtain ⟨x, hx⟩ : ∃ x, A[h]? = some x := ⟨_, List.getElem?_eq_getElem hlA⟩
    obtain ⟨y, hy⟩ : ∃ y, B[h]? = some y := ⟨_, List.getElem?_eq_getElem hlB⟩
    have hgx := strs_get hx
    have hgy := strs_get hy
    have hst := headN_step hx hy
    generalize hSA : strs A = SA at *
    generalize hSB : strs B = SB at *
    refine WC.rSome ha (by omega) ?_
    rintro a0 rfl
    refine WC.rSome hb (by omega) ?_
    rintro b0 rfl
    by_cases hxy : x = y
    · rw [if_pos hxy] at hst
      (try (refine st ?_; intros))
      refine WQ.next (A.length - (h + 1)) ⟨h + 1, rfl, rfl, rfl, rfl, rfl, ?_, ?_⟩ (by omega) zsb zpk
      · exact ⟨by omega, by omega⟩
      · omega
    · rw [if_neg hxy] at hst
      rw [show headN A B = h by omega] at hK
      (try (refine st ?_; intros))
      exact WQ.weak zsb zpk hK
  · have hst := headN_nil (A := A) (B := B) (h := h) (by omega)
    have hl2 : ¬ h < A.length ∨ h < A.length ∧ ¬ h < B.length := by omega
    rw [show headN A B = h by omega] at hK
    rcases hl2 with hl2 | ⟨hl2, hl3⟩
    · (try (refine st ?_; intros))
      exact WQ.weak zsb zpk hK
    · (try (refine st ?_; intros))
      exact WQ.weak zsb zpk hK
theorem match_tail {A B : List Tx} {aa ab : Option Addr} {ca cb h : Nat} {w0 : World} {m : Mem} {H : SHeap} {Q : Exit → Act → World → Prop} (hA : A.length ≤ 4194304) (hB : B.length ≤ 4194304) (hh : h ≤ A.length ∧ h ≤ B.length) (ha : RowR w0 m H 1 aa (strs A)) (hb : RowR w0 m H 1 ab (strs B))
    (hK : WQ 115 w0 Q (.exit 2) [(6, .int .i64 (headN ((A.drop h).reverse) ((B.drop h).reverse) : Int)), (5, .int .i64 (h : Int)), (0, .slice aa A.length ca), (1, .slice ab B.length cb)] [] m H) :
    WC Try.prog none 115 w0 ((loopsIn (Try.f31.body.getD .skip)).getD 1 .skip) Q [(6, .int .i64 0), (5, .int .i64 (h : Int)), (0, .slice aa A.length ca), (1, .slice ab B.length cb)] [] m H := by
  have hal : (strs A).length = A.length := by simp [strs]
  have hbl : (strs B).length = B.length := by simp [strs]
  obtain ⟨RA, hRA⟩ : ∃ RA, RA = (A.drop h).reverse := ⟨_, rfl⟩
  obtain ⟨RB, hRB⟩ : ∃ RB, RB = (B.drop h).reverse := ⟨_, rfl⟩
  have hRAl : RA.length = A.length - h := by rw [hRA]; simp
  have hRBl : RB.length = B.length - h := by rw [hRB]; simp
  have hga : ∀ t x, t < A.length - h → RA[t]? = some x → (strs A)[((A.length : Int) - 1 - (t : Int)).toNat]? = some [str x] := fun t x ht hx => by
    rw [hRA, rev_get ht] at hx
    rw [show ((A.length : Int) - 1 - (t : Int)).toNat = A.length - 1 - t by omega]
    exact strs_get hx
  have hgb : ∀ t x, t < B.length - h → RB[t]? = some x → (strs B)[((B.length : Int) - 1 - (t : Int)).toNat]? = some [str x] := fun t x ht hx => by
    rw [hRB, rev_get ht] at hx
    rw [show ((B.length : Int) - 1 - (t : Int)).toNat = B.length - 1 - t by omega]
    exact strs_get hx
  rw [← hRA, ← hRB] at hK
  clear hRA hRB
  refine WC.loopH [(6, .int .i64 ((0) : Int)), (5, .int .i64 (h : Int)), (0, .slice aa A.length ca), (1, .slice ab B.length cb)] ?_ ?_ (fun j r ds m' H' => ∃ t, j = A.length - t ∧ r = [(6, .int .i64 (t : Int)), (5, .int .i64 (h : Int)), (0, .slice aa A.length ca), (1, .slice ab B.length cb)] ∧ ds = [] ∧ m = m' ∧ H' = H ∧ (t ≤ A.length - h ∧ t ≤ B.length - h) ∧ (headN RA RB = t + headN (RA.drop t) (RB.drop t))) (A.length - (0)) ⟨0, rfl, rfl, rfl, rfl, rfl, ⟨by omega, by omega⟩, by simp⟩ ?_
  · (repeat (first | exact Env.Sub.nil | refine Env.Sub.cons rfl ?_))
  · exact zpk
  rintro j r ds m' H' ⟨t, rfl, rfl, rfl, rfl, rfl, ht, hN⟩
  by_cases hlt : t < A.length - h ∧ t < B.length - h
  · obtain ⟨hlA, hlB⟩ := hlt
    obtain ⟨x, hx⟩ : ∃ x, RA[t]? = some x := ⟨_, List.getElem?_eq_getElem (by omega)⟩
    obtain ⟨y, hy⟩ : ∃ y, RB[t]? = some y := ⟨_, List.getElem?_eq_getElem (by omega)⟩
    have hgx := hga t x hlA hx
    have hgy := hgb t y hlB hy
    have hst := headN_step hx hy
    clear hga hgb
    generalize hSA : strs A = SA at *
    generalize hSB : strs B = SB at *
    refine WC.rSome ha (by omega) ?_
    rintro a0 rfl
    refine WC.rSome hb (by omega) ?_
    rintro b0 rfl
    by_cases hxy : x = y
    · rw [if_pos hxy] at hst
      (try (refine st ?_; intros))
      refine WQ.next (A.length - (t + 1)) ⟨t + 1, rfl, rfl, rfl, rfl, rfl, ?_, ?_⟩ (by omega) zsb zpk
      · exact ⟨by omega, by omega⟩
      · omega
    · rw [if_neg hxy] at hst
      rw [show headN RA RB = t by omega] at hK
      (try (refine st ?_; intros))
      exact WQ.weak zsb zpk hK
  · have hst := headN_nil (A := RA) (B := RB) (h := t) (by omega)
    have hl2 : ¬ t < A.length - h ∨ t < A.length - h ∧ ¬ t < B.length - h := by omega
    rw [show headN RA RB = t by omega] at hK
    rcases hl2 with hl2 | ⟨hl2, hl3⟩
    · (try (refine st ?_; intros))
      exact WQ.weak zsb zpk hK
    · (try (refine st ?_; intros))
      exact WQ.weak zsb zpk hK
end Go.Proofs.Ytgckeelnhafgaaa

/-
  The walk of draft.match, put together. No condition.
-/
namespace Go.Eng
open Go Go.RowKit
def diagL (a b n : Nat) : List (Nat × Nat) := (List.range n).map fun i => (a + i, b + i)
theorem diagL_length (a b n : Nat) : (diagL a b n).length = n := by simp [diagL]
theorem diagL_succ (a b n : Nat) : diagL a b (n + 1) = diagL a b n ++ [(a + n, b + n)] := by
  unfold diagL; rw [List.range_succ, List.map_append]; rfl
theorem prE_two (L : List (Nat × Nat)) : ∀ q ∈ L.map prE, q.length = 2 := by
  intro q hq
  obtain ⟨p, _, rfl⟩ := List.mem_map.1 hq
  rfl
theorem prE_ok (L : List (Nat × Nat)) : ∀ q ∈ L.map prE, q.all okCell = true := by
  intro q hq
  obtain ⟨p, _, rfl⟩ := List.mem_map.1 hq
  rfl
theorem mid_len (A B : List Tx) (k : Nat) : (mid A B k).length ≤ 1024 := by
  unfold mid
  split
  · rename_i h
    rw [midL_length]
    have := (lcs_le A B).1
    omega
  · simp
theorem match_eq (A B : List Tx) : matchL A B = diagL 0 0 (headN A B) ++ mid (midA A B) (midB A B) (headN A B) ++ diagL (A.length - tailN A B) (B.length - tailN A B) (tailN A B) := by
  unfold matchL mid diagL
  simp
end Go.Eng
namespace Go.Proofs.Ytgckeelnhafgaaa
open Go Go.Eng
set_option maxRecDepth 100000
set_option maxHeartbeats 4000000
set_option linter.all false
attribute [local irreducible] WL WC WQ QFun QLoop Does Q1 QRound QAssign Go.Addr.add
attribute [local irreducible] midL strs headN mid diagL
theorem match_any {A B : List Tx} {aa ab : Option Addr} {ca cb : Nat} {w0 : World} {m : Mem} {H : SHeap} (hA : A.length ≤ 4194304) (hB : B.length ≤ 4194304) (hcA : A.length ≤ ca) (hcB : B.length ≤ cb) (ha : RowR w0 m H 1 aa (strs A)) (hb : RowR w0 m H 1 ab (strs B)) :
    Does Try.prog 31 #[.slice aa A.length ca, .slice ab B.length cb] w0 m H (fun v m' H' => m' = m ∧ ∃ a cp, v = .slice a (matchL A B).length cp ∧ H' = .row a cp 93 2 ((matchL A B).map prE) :: H) := by
  refine Does.of_body (args := [.slice aa A.length ca, .slice ab B.length cb]) Try.func31 rfl Try.ntmps31 rfl ?_
  have hal : (strs A).length = A.length := by simp [strs]
  have hbl : (strs B).length = B.length := by simp [strs]
  rw [match_eq]
  have hht := tailN_le A B
  have hhl := headN_le A B
  have hTd : tailN A B = headN ((A.drop (headN A B)).reverse) ((B.drop (headN A B)).reverse) := rfl
  have hmA : midA A B = (A.take (A.length - tailN A B)).drop (headN A B) := rfl
  have hmB : midB A B = (B.take (B.length - tailN A B)).drop (headN A B) := rfl
  (try (refine st ?_; intros))
  refine WC.weak zsb zpk (match_head hA hB ha hb ?_)
  generalize headN A B = h at *
  (try (refine st ?_; intros))
  refine WC.weak zsb zpk (match_tail hA hB hhl ha hb ?_)
  rw [← hTd]
  clear hTd
  generalize tailN A B = t at *
  have hmAl : (midA A B).length = A.length - t - h := by rw [hmA, List.length_drop, List.length_take]; omega
  have hmBl : (midB A B).length = B.length - t - h := by rw [hmB, List.length_drop, List.length_take]; omega
  have hsa := ha.sub (lo := h) (hi := A.length - t) (cap := ca) (by omega) (by omega)
  have hsb := hb.sub (lo := h) (hi := B.length - t) (cap := cb) (by omega) (by omega)
  rw [strs_sub, ← hmA] at hsa
  rw [strs_sub, ← hmB] at hsb
  generalize midA A B = MA at *
  generalize midB A B = MB at *
  clear hmA hmB ha hb
  (try (refine st ?_; intros))
  refine WC.newRow (T := 93) (sz := 2) ?_
  rw [show ([] : List (List Value)) = (diagL 0 0 0).map prE from by unfold diagL; rfl]
  refine WC.loopH [(69, .int .i64 ((0) : Int)), (68, .int .i64 (h : Int)), (7, .slice (none) (0) (0)), (6, .int .i64 (t : Int)), (5, .int .i64 (h : Int)), (0, .slice aa A.length ca), (1, .slice ab B.length cb)] ?_ ?_ (fun j r ds m' H' => ∃ (i : Nat) (a : Option Addr) (cp : Nat), j = h - i ∧ r = [(69, .int .i64 (i : Int)), (68, .int .i64 (h : Int)), (7, .slice a i cp), (6, .int .i64 (t : Int)), (5, .int .i64 (h : Int)), (0, .slice aa A.length ca), (1, .slice ab B.length cb)] ∧ ds = [] ∧ m = m' ∧ H' = .row a cp 93 2 ((diagL 0 0 i).map prE) :: H ∧ (i ≤ h)) (h - (0)) ⟨0, none, 0, rfl, rfl, rfl, rfl, rfl, by omega⟩ ?_
  · (repeat (first | exact Env.Sub.nil | refine Env.Sub.cons rfl ?_))
  · exact zpk
  rintro j r ds m' H' ⟨i, a, cp, rfl, rfl, rfl, rfl, rfl, hi⟩
  by_cases hlt : i < h
  · have hdl : ((diagL 0 0 i).map prE).length = i := by rw [List.length_map, diagL_length]
    have hds : (diagL 0 0 (i + 1)).map prE = (diagL 0 0 i).map prE ++ [[.int .i64 (i : Int), .int .i64 (i : Int)]] := by rw [diagL_succ, List.map_append]; simp [prE]
    generalize (diagL 0 0 i).map prE = LE at *
    (refine st ?_; intros; rename_i b9 a2 cp2)
    rw [hdl, ← hds]
    refine WQ.next (h - (i + 1)) ⟨i + 1, a2, cp2, rfl, rfl, rfl, rfl, rfl, ?_⟩ (by omega) zsb zpk
    · omega
  · obtain rfl : i = h := by omega
    have hdl : ((diagL 0 0 i).map prE).length = i := by rw [List.length_map, diagL_length]
    have hdo := prE_ok (diagL 0 0 i)
    have hd2 := prE_two (diagL 0 0 i)
    have hml := mid_len MA MB i
    have hme : ((mid MA MB i).map prE).length = (mid MA MB i).length := List.length_map _
    generalize hLE : (diagL 0 0 i).map prE = LE at *
    (try (refine st ?_; intros))
    refine WC.drawE 18 ([]) (.row a cp 93 2 LE :: H) rfl (by decide +kernel) zpk ?_
    (refine cm0 ?_)
    refine WE.act1 16 (by decide +kernel) rfl rfl (fun c h => by cases h) ?_
    have e1 : subSl aa ca i (A.length - t) 1 = .slice (if ca = i then aa else aa.map (·.add (i * 1))) MA.length (ca - i) := by unfold subSl; rw [hmAl]
    have e2 : subSl ab cb i (B.length - t) 1 = .slice (if cb = i then ab else ab.map (·.add (i * 1))) MB.length (cb - i) := by unfold subSl; rw [hmBl]
    rw [e1, e2]
    refine w_callF Try.func51 ?_ (hs := middle_any (k0 := i) (by omega) (by omega) (by omega) hsa.more hsb.more)
    rintro v m H9 ⟨rfl, a2, cp2, rfl, rfl⟩
    (try (refine st ?_; intros))
    refine WQ.acted (B := []) (U := .row a2 cp2 93 2 ((mid MA MB i).map prE) :: .row a cp 93 2 LE :: H) rfl (Mem.le.refl _) zpk ?_
    (refine cm0 ?_)
    refine WE.act1 17 (by decide +kernel) rfl rfl (fun c h => by cases h) ?_
    refine WL.appendR (es := LE) (es' := (mid MA MB i).map prE) (by' := 16) rfl rfl rfl rfl (by (repeat (first | exact Out.here | apply Out.there))) (RowR.row (T := 93) (cap := cp2) zhs) (prE_ok _) (prE_two _) rfl rfl rfl rfl hdl.symm hme.symm (by rw [hdl, hme]; omega) (by omega) rfl ?_
    intro a3 cp3
    (try (refine st ?_; intros))
    refine WQ.acted (B := []) (U := .row a3 cp3 93 2 (LE ++ (mid MA MB i).map prE) :: .row a2 cp2 93 2 ((mid MA MB i).map prE) :: H) rfl (Mem.le.refl _) zpk ?_
    (refine cm0 ?_)
    refine WE.done (by decide +kernel) ?_
    rw [hdl, hme]
    obtain ⟨P, hP⟩ : ∃ P, P = diagL 0 0 i ++ mid MA MB i := ⟨_, rfl⟩
    have hPl : P.length = i + (mid MA MB i).length := by rw [hP, List.length_append, diagL_length]
    rw [show LE ++ (mid MA MB i).map prE = (P ++ diagL (A.length - t) (B.length - t) 0).map prE by rw [← hLE, hP, ← List.map_append, show diagL (A.length - t) (B.length - t) 0 = [] from by unfold diagL; rfl, List.append_nil], ← hPl, ← hP]
    clear hdo hd2 hLE hsa hsb e1 e2
    (try (refine st ?_; intros))
    refine WC.loopH [(9, .int .i64 ((t : Int) - ((0) : Int))), (7, .slice (a3) (P.length + (0)) (cp3)), (0, .slice aa A.length ca), (1, .slice ab B.length cb)] ?_ ?_ (fun j r ds m' H' => ∃ (c : Nat) (a : Option Addr) (cp : Nat), j = t - c ∧ r = [(9, .int .i64 ((t : Int) - (c : Int))), (7, .slice a (P.length + c) cp), (0, .slice aa A.length ca), (1, .slice ab B.length cb)] ∧ ds = [] ∧ m = m' ∧ H' = .row a cp 93 2 ((P ++ diagL (A.length - t) (B.length - t) c).map prE) :: .row a2 cp2 93 2 ((mid MA MB i).map prE) :: H ∧ (c ≤ t)) (t - (0)) ⟨0, a3, cp3, rfl, rfl, rfl, rfl, rfl, by omega⟩ ?_
    · (repeat (first | exact Env.Sub.nil | refine Env.Sub.cons rfl ?_))
    · exact zpk
    rintro j r ds m' H' ⟨c, a, cp, rfl, rfl, rfl, rfl, rfl, hc⟩
    by_cases hlt : c < t
    · have hdl2 : ((P ++ diagL (A.length - t) (B.length - t) c).map prE).length = P.length + c := by rw [List.length_map, List.length_append, diagL_length]
      have hds : (P ++ diagL (A.length - t) (B.length - t) (c + 1)).map prE = (P ++ diagL (A.length - t) (B.length - t) c).map prE ++ [[.int .i64 ((A.length : Int) - ((t : Int) - (c : Int))), .int .i64 ((B.length : Int) - ((t : Int) - (c : Int)))]] := by
        rw [diagL_succ, ← List.append_assoc, List.map_append, List.map_append]
        simp only [List.map_cons, List.map_nil, prE]
        rw [show ((A.length - t + c : Nat) : Int) = (A.length : Int) - ((t : Int) - (c : Int)) by omega, show ((B.length - t + c : Nat) : Int) = (B.length : Int) - ((t : Int) - (c : Int)) by omega]
      generalize (P ++ diagL (A.length - t) (B.length - t) c).map prE = LE2 at *
      (refine st ?_; intros; rename_i b9 a4 cp4)
      rw [hdl2, ← hds, show (t : Int) - (c : Int) - 1 = (t : Int) - ((c + 1 : Nat) : Int) by omega]
      refine WQ.next (t - (c + 1)) ⟨c + 1, a4, cp4, rfl, rfl, rfl, rfl, rfl, ?_⟩ (by omega) zsb zpk
      · omega
    · obtain rfl : c = t := by omega
      (try (refine st ?_; intros))
      exact q_fin0 (H0 := .row a cp 93 2 ((P ++ diagL (A.length - c) (B.length - c) c).map prE) :: H) ⟨rfl, a, cp, by rw [List.length_append, diagL_length], rfl⟩ (hd := zpk)
end Go.Proofs.Ytgckeelnhafgaaa

/-
  Contracts of the library, laid at this seat by the shelf's own tools. No condition.
-/
namespace Go.Proofs.Ytgckeelnhafgaaa
open Go Go.Shelf Go.Proofs
set_option linter.all false
def sh_lays156_ren : Go.Shelf.Ren := ⟨fun | 156 => 33 | 165 => 52 | 166 => 35 | 169 => 36 | 240 => 53 | 241 => 66 | 276 => 67 | 277 => 84 | n => n, fun | 31 => 26 | 9 => 9 | 3 => 3 | 4 => 4 | 0 => 0 | 20 => 20 | 72 => 97 | 76 => 104 | 70 => 94 | 37 => 95 | 75 => 103 | 127 => 131 | 164 => 151 | 5 => 5 | 80 => 107 | n => n, fun | n => n⟩
theorem sh_lays156 : Go.Proofs.Lays.n156 Try.prog sh_lays156_ren := {
  mixed := by kernel_rfl
  f156 := Try.func33.trans (congrArg some (by kernel_rfl))
  f165 := Try.func52.trans (congrArg some (by kernel_rfl))
  f166 := Try.func35.trans (congrArg some (by kernel_rfl))
  f169 := Try.func36.trans (congrArg some (by kernel_rfl))
  f240 := Try.func53.trans (congrArg some (by kernel_rfl))
  f241 := Try.func66.trans (congrArg some (by kernel_rfl))
  f276 := Try.func67.trans (congrArg some (by kernel_rfl))
  f277 := Try.func84.trans (congrArg some (by kernel_rfl))
  t0 := Try.underlying0
  a0 := Try.isAgg0
  z0 := Try.sizeOf0
  v0 := Try.zeroValue0
  t3 := Try.underlying3
  a3 := Try.isAgg3
  z3 := Try.sizeOf3
  v3 := Try.zeroValue3
  t4 := Try.underlying4
  a4 := Try.isAgg4
  z4 := Try.sizeOf4
  v4 := Try.zeroValue4
  t9 := Try.underlying9
  a9 := Try.isAgg9
  z9 := Try.sizeOf9
  v9 := Try.zeroValue9
  t20 := Try.underlying20
  a20 := Try.isAgg20
  z20 := Try.sizeOf20
  v20 := Try.zeroValue20
  t31 := Try.underlying26
  a31 := Try.isAgg26
  z31 := Try.sizeOf26
  v31 := Try.zeroValue26
  t37 := Try.underlying95
  a37 := Try.isAgg95
  z37 := Try.sizeOf95
  v37 := Try.zeroValue95
  t70 := Try.underlying94
  a70 := Try.isAgg94
  z70 := Try.sizeOf94
  v70 := Try.zeroValue94
  t72 := Try.underlying97
  a72 := Try.isAgg97
  z72 := Try.sizeOf97
  v72 := Try.zeroValue97
  t75 := Try.underlying103
  a75 := Try.isAgg103
  z75 := Try.sizeOf103
  v75 := Try.zeroValue103
  t76 := Try.underlying104
  a76 := Try.isAgg104
  z76 := Try.sizeOf104
  v76 := Try.zeroValue104
  t127 := Try.underlying131
  a127 := Try.isAgg131
  z127 := Try.sizeOf131
  v127 := Try.zeroValue131
  t164 := Try.underlying151
  a164 := Try.isAgg151
  z164 := Try.sizeOf151
  v164 := Try.zeroValue151 }
theorem sh_Builder_Extra_156 : Builder.Extra Try.prog sh_lays156_ren := {
  sizeBuilder := by kernel_rfl
  liesBuilder := by kernel_rfl
  t5 := Try.underlying5
  a5 := Try.isAgg5
  z5 := Try.sizeOf5
  v5 := Try.zeroValue5
  infoByte := by kernel_rfl
  cellsByte := by kernel_rfl
  sizeByte := by kernel_rfl
  neB5 := by decide }
open Go.RowKit in
theorem sh_strings_Join_none (a : Option Addr) (c : Nat) (sep : ByteArray) (w : World) :
    Calls Try.prog 33 #[.slice a 0 c, .string sep] w fun e w' => e = .returned (.string ⟨#[]⟩) ∧ w' = w := Any.strings_Join_none sh_lays156 sh_Builder_Extra_156 a c sep w
open Go.RowKit in
theorem sh_strings_Join (bk o c : Nat) (xs : List ByteArray) (sep : ByteArray) (w : World) (hcells : ∀ (j : Nat) x, xs[j]? = some x → w.cell? ⟨bk, o + j, none⟩ = some (.string x)) (hbk : bk < w.heap.size) (hN : xs.length ≤ 140737488355328) (hcap : xs.length ≤ c) (hlen : (Lib.join (xs.map (·.data.toList)) sep.data.toList).length ≤ 140737488355328) :
    Calls Try.prog 33 #[.slice (some ⟨bk, o, none⟩) xs.length c, .string sep] w fun e w' => e = .returned (.string ⟨(Lib.join (xs.map (·.data.toList)) sep.data.toList).toArray⟩) ∧ Below w.heap.size w w' := Any.strings_Join sh_lays156 sh_Builder_Extra_156 bk o c xs sep w hcells hbk hN hcap hlen
end Go.Proofs.Ytgckeelnhafgaaa

/-
  strings.Join of a part of a row of texts, nothing between them. No condition.
-/
namespace Go.Eng
open Go Go.RowKit
theorem join_flat : ∀ xs : List Tx, Lib.join xs [] = xs.flatten
  | [] => rfl
  | x :: r => by
    rw [Lib.join_cons]
    unfold Lib.joinTail
    simp
theorem strs_flat (xs : List Tx) : (strs xs).flatten = xs.map str := by
  unfold strs
  induction xs with
  | nil => rfl
  | cons x xs ih => simp [ih]
theorem jn_le (l : List Tx) (a z : Nat) : (jn l a z).length ≤ l.flatten.length := by
  unfold jn
  have h : l = l.take a ++ ((l.drop a).take (z - a) ++ (l.drop a).drop (z - a)) := by rw [List.take_append_drop, List.take_append_drop]
  have h2 : (l.take z).drop a = (l.drop a).take (z - a) := by rw [List.drop_take]
  rw [h2]
  conv => rhs; rw [h]
  simp only [List.flatten_append, List.length_append]
  omega
end Go.Eng
namespace Go.Proofs.Ytgckeelnhafgaaa
open Go Go.Eng
set_option maxRecDepth 100000
set_option maxHeartbeats 4000000
set_option linter.all false
attribute [local irreducible] WL WC WQ QFun QLoop Does Q1 QRound QAssign Go.Addr.add
theorem joinSub_any {l : List Tx} {a : Option Addr} {cap lo hi : Nat} {w0 : World} {m : Mem} {H : SHeap} (hm : Item.row a cap 9 1 (strs l) ∈ H) (hb : lo ≤ hi ∧ hi ≤ l.length) (hl : l.length ≤ 4194304) (hf : l.flatten.length ≤ 4194304) :
    Does Try.prog 33 #[subSl a cap lo hi 1, str []] w0 m H (Gives (str (jn l lo hi)) m H) := by
  unfold subSl
  by_cases hlh : lo = hi
  · subst hlh
    rw [Nat.sub_self, jn_nil]
    exact Does.ofSame fun w _ => sh_strings_Join_none _ _ ⟨([] : List UInt8).toArray⟩ w
  · refine Does.ofBelow fun w hw => ?_
    have hsl : (strs l).length = l.length := by simp [strs]
    have hrr := RowR.row (w0 := w0) (m := m) hm
    obtain ⟨a0, rfl⟩ := hrr.some hw (by rw [hsl]; omega)
    have hr := (hrr w hw).2
    obtain ⟨arr, fz, h1, h2, h3, h4, _⟩ := hw.own _ hm
    obtain ⟨xs, hxs⟩ : ∃ xs, xs = (l.take hi).drop lo := ⟨_, rfl⟩
    have hxl : xs.length = hi - lo := by rw [hxs, List.length_drop, List.length_take]; omega
    have hx : (xs.map fun x => (⟨x.toArray⟩ : ByteArray)).map (·.data.toList) = xs := by rw [List.map_map]; simp [Function.comp_def]
    have hcl : l.length ≤ cap := by rw [← hsl]; exact h4
    have hjn : Lib.join xs [] = jn l lo hi := by rw [join_flat, hxs]; rfl
    have hxb := jn_le l lo hi
    have key := sh_strings_Join a0.block (a0.off + lo) (cap - lo) (xs.map fun x => ⟨x.toArray⟩) ⟨([] : List UInt8).toArray⟩ w (by
      intro k x hj
      rw [List.getElem?_map] at hj
      cases hq : xs[k]? with
      | none => rw [hq] at hj; cases hj
      | some y =>
        rw [hq] at hj
        simp only [Option.map_some, Option.some.injEq] at hj
        subst hj
        have hql : l[lo + k]? = some y := by
          have hk := (List.getElem?_eq_some_iff.1 hq).1
          rw [hxs, List.getElem?_drop, List.getElem?_take, if_pos (by omega)] at hq
          exact hq
        have e1 : (strs l).flatten[lo + k]? = some (str y) := by
          rw [strs_flat, List.getElem?_map, hql]; rfl
        have := hr (lo + k) _ e1
        rw [add_eq (by rw [h1])] at this
        rw [show a0.off + lo + k = a0.off + (lo + k) by omega]
        exact this) (Array.getElem?_eq_some_iff.1 h2).1 (by rw [List.length_map]; omega) (by rw [List.length_map]; omega) (by rw [hx]; show (Lib.join xs []).length ≤ _; rw [hjn]; omega)
    rw [hx, List.length_map, hxl] at key
    have ea : (if cap = lo then some a0 else (some a0).map (·.add (lo * 1))) = some ⟨a0.block, a0.off + lo, none⟩ := by
      rw [if_neg (by omega), Option.map_some, add_eq (by rw [h1]), Nat.mul_one]
    rw [ea]
    have e2 : (⟨([] : List UInt8).toArray⟩ : ByteArray).data.toList = [] := rfl
    rw [e2, hjn] at key
    exact key
end Go.Proofs.Ytgckeelnhafgaaa

/-
  A walk's engine: a row's bytes as a text, more than once. No condition.
-/
set_option linter.all false
namespace Go.Eng
open Go Go.RowKit
/-- a row of bytes that was told as a text: it stays, whatever is frozen of it -/
def Kept (a : Option Addr) (cap : Nat) (e : TypeId) (s : List UInt8) (i : Item) : Prop :=
  (s = [] ∧ i = .row a cap e 1 (bCs s)) ∨
  (s ≠ [] ∧ ∃ (a0 : Addr) (arr : Array Value) (fz : Nat × Nat), a = some a0 ∧ a0 = ⟨a0.block, 0, none⟩ ∧ s.length ≤ arr.size ∧ (∀ (j : Nat) (x : UInt8), s[j]? = some x → arr[j]? = some (.int .u8 x.toNat)) ∧ i = .blk a0.block (.cells arr e fz))
section
variable {P : Program} {ro : Option Nat} {n : Nat} {w0 : World} {Q : Exit → Act → World → Prop} {r : Env} {ds : List Dfr} {m : Mem} {H : SHeap} {ops : Array Oper} {l : List Oper} {d : Nat} {t ty : TypeId} {pos : String} {after : Array Edge}
theorem freeze_cells {w : World} {a0 : Addr} {k : Nat} {arr : Array Value} {T : TypeId} {fz : Nat × Nat} (h : w.heap[a0.block]? = some (.cells arr T fz)) : ∃ fz', (w.freeze a0 k).heap[a0.block]? = some (.cells arr T fz') := by
  unfold World.freeze
  split
  · exact ⟨fz, h⟩
  · rw [Array.getElem?_modify, if_pos rfl, h]
    exact ⟨_, rfl⟩
theorem WL.strBlk {pt it e : TypeId} {x y : Operand} {a0 : Addr} {s : List UInt8} {arr : Array Value} {fz : Nat × Nat} {H1 : SHeap} (hx : r.ev x = some (.pointer (some a0))) (hy : r.ev y = some (.int .i64 (s.length : Int))) (ho : Out (.blk a0.block (.cells arr e fz)) H H1)
    (hp : P.underlying pt = some (.pointer e)) (hc : Nat.beq (P.cellsOf e) 1 = true) (hl : s.length ≤ 9223372036854775807) (hd : Nat.blt d n = true) (h0 : s ≠ []) (h1 : a0 = ⟨a0.block, 0, none⟩) (hsz : s.length ≤ arr.size) (harr : ∀ (j : Nat) (x : UInt8), s[j]? = some x → arr[j]? = some (.int .u8 x.toNat))
    (h : ∀ fz', WL P ro n w0 ops Q l ((d, str s) :: r) ds m (.blk a0.block (.cells arr e fz') :: H1)) : WL P ro n w0 ops Q (⟨some d, .call ⟨.builtin .unsafeString, #[x, y], #[pt, it]⟩, ty, pos, after, none⟩ :: l) r ds m H := by
  refine .gen (fun v' m' H' => v' = str s ∧ m' = m ∧ ∃ fz', H' = .blk a0.block (.cells arr e fz') :: H1) hd (fun _ h => by cases h) (fun tmps w hok hs => ?_) (by rintro _ _ _ ⟨rfl, rfl, fz', rfl⟩; exact h fz')
  have hs1 := hs.perm ho.perm
  have h2 : w.heap[a0.block]? = some (.cells arr e fz) := hs1.own _ List.mem_cons_self
  have hus := Lib.run_unsafeString_row (P := P) w pt it ty e hp (Nat.eq_of_beq_eq_true hc) a0.block arr.size (by simp [World.shape?, h2]) s h0 (by omega) hl (by
    intro j x hx
    have := harr j x (by simpa using hx)
    rw [add_eq rfl]
    simp [World.cell?, h2, this])
  rw [← h1] at hus
  have hblk := (Array.getElem?_eq_some_iff.1 h2).1
  have hz : (w.freeze a0 s.length).heap.size = w.heap.size := by unfold World.freeze; split <;> simp
  have hoth : ∀ b, b ≠ a0.block → (w.freeze a0 s.length).heap[b]? = w.heap[b]? := by
    intro b hb
    unfold World.freeze
    split
    · rfl
    · simp only [Array.getElem?_modify]
      rw [if_neg (fun h => hb h.symm)]
  obtain ⟨fz', ho'⟩ := freeze_cells (k := s.length) h2
  have hos : (w.freeze a0 s.length).os = w.os := by unfold World.freeze; split <;> rfl
  have hot : (w.freeze a0 s.length).tape = w.tape := by unfold World.freeze; split <;> rfl
  have hoo : (w.freeze a0 s.length).output = w.output := by unfold World.freeze; split <;> rfl
  have hs2 := hs1.turn (j := .blk a0.block (.cells arr e fz')) hos hot hoo (Nat.le_of_eq hz.symm) (fun b _ hb => hoth b (by simpa [Item.foot] using hb)) ho' (fun b hb => .inl (by simpa [Item.foot] using hb)) (by simp [Item.foot])
  refine ⟨str s, m, _, w.freeze a0 s.length, ?_, hs2, rfl, rfl, fz', rfl⟩
  simp only [execOp, resolve, Go.invoke, Go.builtin, Sem.run_bind, Sem.run_pure, Result.andThen_ok, List.map_toArray, List.map_cons, List.map_nil, hok.ev hx, hok.ev hy]
  simp [hus]
theorem WL.strKeep {pt it e : TypeId} {x y : Operand} {a : Option Addr} {cap : Nat} {s : List UInt8} {H1 : SHeap} (hx : r.ev x = some (.pointer a)) (hy : r.ev y = some (.int .i64 (s.length : Int))) (ho : Out (.row a cap e 1 (bCs s)) H H1)
    (hp : P.underlying pt = some (.pointer e)) (hc : Nat.beq (P.cellsOf e) 1 = true) (hl : s.length ≤ 9223372036854775807) (hd : Nat.blt d n = true)
    (h : ∀ i, Kept a cap e s i → WL P ro n w0 ops Q l ((d, str s) :: r) ds m (i :: H1)) : WL P ro n w0 ops Q (⟨some d, .call ⟨.builtin .unsafeString, #[x, y], #[pt, it]⟩, ty, pos, after, none⟩ :: l) r ds m H := by
  by_cases h0 : s = []
  · subst h0
    refine .gen (fun v' m' H' => v' = str [] ∧ m' = m ∧ H' = .row a cap e 1 (bCs []) :: H1) hd (fun _ h => by cases h) (fun tmps w hok hs => ?_) (by rintro _ _ _ ⟨rfl, rfl, rfl⟩; exact h _ (.inl ⟨rfl, rfl⟩))
    have hs1 := hs.perm ho.perm
    refine ⟨str [], m, _, w, ?_, hs1, rfl, rfl, rfl⟩
    have h1 := Lib.run_unsafeString_none (P := P) w pt it ty a
    simp only [execOp, resolve, Go.invoke, Go.builtin, Sem.run_bind, Sem.run_pure, Result.andThen_ok, List.map_toArray, List.map_cons, List.map_nil, hok.ev hx, hok.ev hy]
    simp only [List.length_nil] at h1 ⊢
    simp [h1]
    rfl
  · intro tmps w hok hs
    have hpos : 0 < s.length := List.length_pos_iff.2 h0
    have hs1 := hs.perm ho.perm
    obtain ⟨a0, rfl⟩ := row_some hs1 List.mem_cons_self (by rw [bCs_length]; exact hpos)
    obtain ⟨arr, fz, h1, h2, h3, h4, h5, h6, h7, h8⟩ := hs1.own _ List.mem_cons_self
    have hcells := row_cells (w0 := w0) (m := m) (H := .row (some a0) cap e 1 (bCs s) :: H1) (a := a0) (cap := cap) (T := e) (s := s) List.mem_cons_self w hs1
    rw [bCs_length] at h4
    have hblk := (Array.getElem?_eq_some_iff.1 h2).1
    have hsb : Sat w0 m (.blk a0.block (.cells arr _ fz) :: H1) w := hs1.turn (j := .blk a0.block (.cells arr _ fz)) rfl rfl rfl (Nat.le_refl _) (fun _ _ _ => rfl) h2 (fun b hb => .inl (by simpa [Item.foot] using hb)) (by simp [Item.foot])
    have harr : ∀ (j : Nat) (x : UInt8), s[j]? = some x → arr[j]? = some (.int .u8 x.toNat) := by
      intro j x hx
      have := hcells j (.int .u8 x.toNat) (by simp [hx])
      rw [add_eq (by rw [h1])] at this
      simp only [World.cell?] at this
      rw [h2] at this
      rw [h1] at this
      simpa using this
    exact WL.strBlk (s := s) (arr := arr) hx hy .here hp hc hl hd h0 h1 (by rw [h3]; omega) harr (fun fz' => h _ (.inr ⟨h0, a0, arr, fz', rfl, h1, by rw [h3]; omega, harr, rfl⟩)) tmps w hok hsb
end
end Go.Eng

/-
  strings.Builder for this seat. No condition.
-/
namespace Go.Proofs.Ytgckeelnhafgaaa
open Go Go.Eng
set_option maxRecDepth 100000
set_option maxHeartbeats 4000000
set_option linter.all false
attribute [local irreducible] WL WC WQ QFun QLoop Does Q1 QRound QAssign Go.Addr.add
theorem extern_noEscape : Extern.find Try.f67 = some Extern.AbiNoEscape.same := by kernel_rfl
theorem copyCheck_any {b cap : Nat} {ao a : Option Addr} {t : List UInt8} (hao : ao = none ∨ ao = some ⟨b, 0, none⟩) (w0 : World) (m : Mem) (H : SHeap) :
    Does Try.prog 53 #[.pointer (some ⟨b, 0, none⟩)] w0 m (.blk b (.cells [.pointer ao, .slice a t.length cap].toArray 97 (0, 0)) :: .row a cap 5 1 (bCs t) :: H) (fun v m' H' => m' = m ∧ H' = .blk b (.cells [.pointer (some ⟨b, 0, none⟩), .slice a t.length cap].toArray 97 (0, 0)) :: .row a cap 5 1 (bCs t) :: H) := by
  refine Does.of_body (args := [.pointer (some ⟨b, 0, none⟩)]) Try.func53 rfl Try.ntmps53 rfl ?_
  rcases hao with rfl | rfl
  · (try (refine st ?_; intros))
    refine WL.toUnsafe rfl zhs (by exact Nat.succ_pos _) rfl rfl (by kernel_rfl) rfl ?_
    (try (refine st ?_; intros))
    refine WL.extern (vs := [.pointer (some ⟨b, 0, none⟩)]) Try.func67 rfl rfl (by kernel_rfl) extern_noEscape rfl (fun _ => rfl) rfl ?_
    (try (refine st ?_; intros))
    refine WL.fromUnsafe rfl zhs rfl rfl (by kernel_rfl) (by kernel_rfl) rfl ?_
    (try (refine st ?_; intros))
    exact q_finNorm0 (H0 := .blk b (.cells [.pointer (some ⟨b, 0, none⟩), .slice a t.length cap].toArray 97 (0, 0)) :: .row a cap 5 1 (bCs t) :: H) ⟨rfl, rfl⟩ (hd := zpk)
  · (try (refine st ?_; intros))
    refine WL.neqSameP (j := Try.prog.types[97]) rfl rfl rfl (by kernel_rfl) rfl ?_
    (try (refine st ?_; intros))
    exact q_finNorm0 (H0 := .blk b (.cells [.pointer (some ⟨b, 0, none⟩), .slice a t.length cap].toArray 97 (0, 0)) :: .row a cap 5 1 (bCs t) :: H) ⟨rfl, rfl⟩ (hd := zpk)
/-- a Builder that holds a text -/
def Bldr (b : Nat) (t : List UInt8) (H : SHeap) (H' : SHeap) : Prop :=
  ∃ (ao a : Option Addr) (cap : Nat), (ao = none ∨ ao = some ⟨b, 0, none⟩) ∧ (a = none ∨ 0 < cap) ∧ H' = .blk b (.cells [.pointer ao, .slice a t.length cap].toArray 97 (0, 0)) :: .row a cap 5 1 (bCs t) :: H
/-- there is room for both in one row -/
def FitsB (t s : List UInt8) : Prop := t.length + s.length ≤ 140737488355328
theorem writeString_any {b cap : Nat} {ao a : Option Addr} {t s : List UInt8} (hao : ao = none ∨ ao = some ⟨b, 0, none⟩) (hc : a = none ∨ 0 < cap) (hl : FitsB t s) (w0 : World) (m : Mem) (H : SHeap) :
    Does Try.prog 35 #[.pointer (some ⟨b, 0, none⟩), str s] w0 m (.blk b (.cells [.pointer ao, .slice a t.length cap].toArray 97 (0, 0)) :: .row a cap 5 1 (bCs t) :: H) (fun v m' H' => m' = m ∧ v = .tuple #[.int .i64 (s.length : Int), .nilIface] ∧ Bldr b (t ++ s) H H') := by
  refine Does.of_body (args := [.pointer (some ⟨b, 0, none⟩), str s]) Try.func35 rfl Try.ntmps35 rfl ?_
  have hbl := bCs_length t
  have e : bCs t ++ (s.map fun b => [Value.int .u8 (b.toNat : Int)]) = bCs (t ++ s) := by simp [bCs]
  (try (refine st ?_; intros))
  refine w_callF Try.func53 ?_ (hs := copyCheck_any hao _ _ _)
  rintro v m H1 ⟨rfl, rfl⟩
  (try (refine st ?_; intros))
  refine WL.appendS2 (s := s) rfl rfl rfl rfl (by (repeat (first | exact Out.here | apply Out.there))) rfl rfl rfl rfl hbl.symm (by rw [hbl]; exact hl) rfl ?_
  intro a2 cap2 hc2
  rw [e, hbl, ← List.length_append]
  (try (refine st ?_; intros))
  exact q_fin0 (H0 := .blk b (.cells [.pointer (some ⟨b, 0, none⟩), .slice a2 (t ++ s).length cap2].toArray 97 (0, 0)) :: .row a2 cap2 5 1 (bCs (t ++ s)) :: H) ⟨rfl, rfl, some ⟨b, 0, none⟩, a2, cap2, .inr rfl, hc2 hc, rfl⟩ (hd := zpk)
theorem bLen_any {b cap : Nat} {ao a : Option Addr} {t : List UInt8} (w0 : World) (m : Mem) (H : SHeap) :
    Does Try.prog 34 #[.pointer (some ⟨b, 0, none⟩)] w0 m (.blk b (.cells [.pointer ao, .slice a t.length cap].toArray 97 (0, 0)) :: H) (Gives (.int .i64 (t.length : Int)) m (.blk b (.cells [.pointer ao, .slice a t.length cap].toArray 97 (0, 0)) :: H)) := by
  refine Does.of_body (args := [.pointer (some ⟨b, 0, none⟩)]) Try.func34 rfl Try.ntmps34 rfl ?_
  (try (refine st ?_; intros))
  exact q_fin0 (H0 := .blk b (.cells [.pointer ao, .slice a t.length cap].toArray 97 (0, 0)) :: H) (Gives.mk rfl) (hd := zpk)
theorem sq_D13_1 {G : Prop} (h : G := by (repeat (first | (refine sp ?_; (repeat intro zzc)) | (refine iSD rfl ?_; refine WL.sliceData rfl (by assumption) rfl ?_))); exact WQ.q1 rfl) : G := h
theorem cm_D13_1 {G G' : Prop} (next : G') (h : Bx G' → G := by intro zzn; (try (refine wcal 0 ?_ (hwl := by intro zm zF zle; exact sq_D13_1))); (try (refine wcal 1 ?_ (hwl := by intro zm zF zle; exact sq_D13_1))); (try (refine wcal 2 ?_ (hwl := by intro zm zF zle; exact sq_D13_1))); (try (refine wcal 3 ?_ (hwl := by intro zm zF zle; exact sq_D13_1))); (try (refine wcal 4 ?_ (hwl := by intro zm zF zle; exact sq_D13_1))); (try (refine wcal 5 ?_ (hwl := by intro zm zF zle; exact sq_D13_1))); (try (refine wcal 6 ?_ (hwl := by intro zm zF zle; exact sq_D13_1))); (try (refine wcal 7 ?_ (hwl := by intro zm zF zle; exact sq_D13_1))); (try (refine wcal 8 ?_ (hwl := by intro zm zF zle; exact sq_D13_1))); (try (refine wcal 9 ?_ (hwl := by intro zm zF zle; exact sq_D13_1))); (try (refine wcal 10 ?_ (hwl := by intro zm zF zle; exact sq_D13_1))); (try (refine wcal 11 ?_ (hwl := by intro zm zF zle; exact sq_D13_1))); (try (refine wcal 12 ?_ (hwl := by intro zm zF zle; exact sq_D13_1))); (try (refine wcal 13 ?_ (hwl := by intro zm zF zle; exact sq_D13_1))); (try (refine wcal 14 ?_ (hwl := by intro zm zF zle; exact sq_D13_1))); (try (refine wcal 15 ?_ (hwl := by intro zm zF zle; exact sq_D13_1))); (try (refine wcal 16 ?_ (hwl := by intro zm zF zle; exact sq_D13_1))); (try (refine wcal 17 ?_ (hwl := by intro zm zF zle; exact sq_D13_1))); (try (refine wcal 18 ?_ (hwl := by intro zm zF zle; exact sq_D13_1))); (try (refine wcal 19 ?_ (hwl := by intro zm zF zle; exact sq_D13_1))); (try (refine wcal 20 ?_ (hwl := by intro zm zF zle; exact sq_D13_1))); (try (refine wcal 21 ?_ (hwl := by intro zm zF zle; exact sq_D13_1))); (try (refine wcal 22 ?_ (hwl := by intro zm zF zle; exact sq_D13_1))); (try (refine wcal 23 ?_ (hwl := by intro zm zF zle; exact sq_D13_1))); (try (refine wcal 24 ?_ (hwl := by intro zm zF zle; exact sq_D13_1))); (try (refine wcal 25 ?_ (hwl := by intro zm zF zle; exact sq_D13_1))); (try (refine wcal 26 ?_ (hwl := by intro zm zF zle; exact sq_D13_1))); (try (refine wcal 27 ?_ (hwl := by intro zm zF zle; exact sq_D13_1))); (try (refine wcal 28 ?_ (hwl := by intro zm zF zle; exact sq_D13_1))); (try (refine wcal 29 ?_ (hwl := by intro zm zF zle; exact sq_D13_1))); (try (refine wcal 30 ?_ (hwl := by intro zm zF zle; exact sq_D13_1))); (try (refine wcal 31 ?_ (hwl := by intro zm zF zle; exact sq_D13_1))); (try (refine wcal 32 ?_ (hwl := by intro zm zF zle; exact sq_D13_1))); (try (refine wcal 33 ?_ (hwl := by intro zm zF zle; exact sq_D13_1))); (try (refine wcal 34 ?_ (hwl := by intro zm zF zle; exact sq_D13_1))); (try (refine wcal 35 ?_ (hwl := by intro zm zF zle; exact sq_D13_1))); (try (refine wcal 36 ?_ (hwl := by intro zm zF zle; exact sq_D13_1))); (try (refine wcal 37 ?_ (hwl := by intro zm zF zle; exact sq_D13_1))); (try (refine wcal 38 ?_ (hwl := by intro zm zF zle; exact sq_D13_1))); (try (refine wcal 39 ?_ (hwl := by intro zm zF zle; exact sq_D13_1))); (try (refine wcal 40 ?_ (hwl := by intro zm zF zle; exact sq_D13_1))); (try (refine wcal 41 ?_ (hwl := by intro zm zF zle; exact sq_D13_1))); exact zzn.out) : G := h ⟨next⟩
theorem st_D13_1 {G G' : Prop} (next : G') (h : Bx G' → G := by intro zzn; (first | ((refine st ?_; (repeat intro zzc)); (try ((first | (refine iSD rfl ?_; refine WL.sliceData rfl (by assumption) rfl ?_) | ((refine iDraw ?_; (first | refine WC.drawAll rfl (by decide +kernel) ?_ | refine WC.draw 1 rfl (by decide +kernel) ?_ | refine WC.draw 2 rfl (by decide +kernel) ?_ | refine WC.draw 3 rfl (by decide +kernel) ?_ | refine WC.draw 4 rfl (by decide +kernel) ?_ | refine WC.draw 5 rfl (by decide +kernel) ?_ | refine WC.draw 6 rfl (by decide +kernel) ?_ | refine WC.draw 7 rfl (by decide +kernel) ?_ | refine WC.draw 8 rfl (by decide +kernel) ?_ | refine WC.draw 9 rfl (by decide +kernel) ?_ | refine WC.draw 10 rfl (by decide +kernel) ?_ | refine WC.draw 11 rfl (by decide +kernel) ?_ | refine WC.draw 12 rfl (by decide +kernel) ?_ | refine WC.draw 13 rfl (by decide +kernel) ?_ | refine WC.draw 14 rfl (by decide +kernel) ?_ | refine WC.draw 15 rfl (by decide +kernel) ?_ | refine WC.draw 16 rfl (by decide +kernel) ?_ | refine WC.draw 17 rfl (by decide +kernel) ?_ | refine WC.draw 18 rfl (by decide +kernel) ?_ | refine WC.draw 19 rfl (by decide +kernel) ?_ | refine WC.draw 20 rfl (by decide +kernel) ?_ | refine WC.draw 21 rfl (by decide +kernel) ?_ | refine WC.draw 22 rfl (by decide +kernel) ?_ | refine WC.draw 23 rfl (by decide +kernel) ?_ | refine WC.draw 24 rfl (by decide +kernel) ?_)); (repeat (refine WD.cons rfl (fun c h => by cases h) sq_D13_1 ?_)); refine WD.nil ?_)); (try (refine st ?_; (repeat intro zzc)))))) | ((first | (refine iSD rfl ?_; refine WL.sliceData rfl (by assumption) rfl ?_) | ((refine iDraw ?_; (first | refine WC.drawAll rfl (by decide +kernel) ?_ | refine WC.draw 1 rfl (by decide +kernel) ?_ | refine WC.draw 2 rfl (by decide +kernel) ?_ | refine WC.draw 3 rfl (by decide +kernel) ?_ | refine WC.draw 4 rfl (by decide +kernel) ?_ | refine WC.draw 5 rfl (by decide +kernel) ?_ | refine WC.draw 6 rfl (by decide +kernel) ?_ | refine WC.draw 7 rfl (by decide +kernel) ?_ | refine WC.draw 8 rfl (by decide +kernel) ?_ | refine WC.draw 9 rfl (by decide +kernel) ?_ | refine WC.draw 10 rfl (by decide +kernel) ?_ | refine WC.draw 11 rfl (by decide +kernel) ?_ | refine WC.draw 12 rfl (by decide +kernel) ?_ | refine WC.draw 13 rfl (by decide +kernel) ?_ | refine WC.draw 14 rfl (by decide +kernel) ?_ | refine WC.draw 15 rfl (by decide +kernel) ?_ | refine WC.draw 16 rfl (by decide +kernel) ?_ | refine WC.draw 17 rfl (by decide +kernel) ?_ | refine WC.draw 18 rfl (by decide +kernel) ?_ | refine WC.draw 19 rfl (by decide +kernel) ?_ | refine WC.draw 20 rfl (by decide +kernel) ?_ | refine WC.draw 21 rfl (by decide +kernel) ?_ | refine WC.draw 22 rfl (by decide +kernel) ?_ | refine WC.draw 23 rfl (by decide +kernel) ?_ | refine WC.draw 24 rfl (by decide +kernel) ?_)); (repeat (refine WD.cons rfl (fun c h => by cases h) sq_D13_1 ?_)); refine WD.nil ?_)); (try (refine st ?_; (repeat intro zzc))))); (repeat ((first | (refine iSD rfl ?_; refine WL.sliceData rfl (by assumption) rfl ?_) | ((refine iDraw ?_; (first | refine WC.drawAll rfl (by decide +kernel) ?_ | refine WC.draw 1 rfl (by decide +kernel) ?_ | refine WC.draw 2 rfl (by decide +kernel) ?_ | refine WC.draw 3 rfl (by decide +kernel) ?_ | refine WC.draw 4 rfl (by decide +kernel) ?_ | refine WC.draw 5 rfl (by decide +kernel) ?_ | refine WC.draw 6 rfl (by decide +kernel) ?_ | refine WC.draw 7 rfl (by decide +kernel) ?_ | refine WC.draw 8 rfl (by decide +kernel) ?_ | refine WC.draw 9 rfl (by decide +kernel) ?_ | refine WC.draw 10 rfl (by decide +kernel) ?_ | refine WC.draw 11 rfl (by decide +kernel) ?_ | refine WC.draw 12 rfl (by decide +kernel) ?_ | refine WC.draw 13 rfl (by decide +kernel) ?_ | refine WC.draw 14 rfl (by decide +kernel) ?_ | refine WC.draw 15 rfl (by decide +kernel) ?_ | refine WC.draw 16 rfl (by decide +kernel) ?_ | refine WC.draw 17 rfl (by decide +kernel) ?_ | refine WC.draw 18 rfl (by decide +kernel) ?_ | refine WC.draw 19 rfl (by decide +kernel) ?_ | refine WC.draw 20 rfl (by decide +kernel) ?_ | refine WC.draw 21 rfl (by decide +kernel) ?_ | refine WC.draw 22 rfl (by decide +kernel) ?_ | refine WC.draw 23 rfl (by decide +kernel) ?_ | refine WC.draw 24 rfl (by decide +kernel) ?_)); (repeat (refine WD.cons rfl (fun c h => by cases h) sq_D13_1 ?_)); refine WD.nil ?_)); (try (refine st ?_; (repeat intro zzc))))); (repeat revert zzc); exact zzn.out) : G := h ⟨next⟩
theorem bStr1_any {b cap : Nat} {ao a : Option Addr} {t : List UInt8} (hc : a = none ∨ 0 < cap) (hl : t.length ≤ 140737488355328) (w0 : World) (m : Mem) (H : SHeap) :
    Does Try.prog 36 #[.pointer (some ⟨b, 0, none⟩)] w0 m (.blk b (.cells [.pointer ao, .slice a t.length cap].toArray 97 (0, 0)) :: .row a cap 5 1 (bCs t) :: H) (fun v m' H' => v = str t ∧ m' = m ∧ ∃ i, Kept a cap 5 t i ∧ H' = .blk b (.cells [.pointer ao, .slice a t.length cap].toArray 97 (0, 0)) :: i :: H) := by
  refine Does.of_body (args := [.pointer (some ⟨b, 0, none⟩)]) Try.func36 rfl Try.ntmps36 rfl ?_
  have hbl := bCs_length t
  (try (refine st_D13_1 ?_; intros))
  refine WC.drawE 11 ([.blk b (.cells [.pointer ao, .slice a t.length cap].toArray 97 (0, 0))]) (.row a cap 5 1 (bCs t) :: H) rfl (by decide +kernel) zpk ?_
  (refine cm_D13_1 ?_)
  refine WE.act1 10 (by decide +kernel) rfl rfl (fun c h => by cases h) ?_
  refine WL.strKeep (s := t) rfl rfl (by (repeat (first | exact Out.here | apply Out.there))) rfl (by kernel_rfl) (by omega) rfl ?_
  intro i hk
  (try (refine st_D13_1 ?_; intros))
  refine WQ.acted (B := []) (U := i :: H) rfl (Mem.le.refl _) zpk ?_
  refine WE.done (by decide +kernel) ?_
  (try (refine st_D13_1 ?_; intros))
  exact q_fin0 (H0 := .blk b (.cells [.pointer ao, .slice a t.length cap].toArray 97 (0, 0)) :: i :: H) ⟨rfl, rfl, i, hk, rfl⟩ (hd := zpk)
theorem bStr2_any {b cap : Nat} {ao a : Option Addr} {t : List UInt8} (hc : a = none ∨ 0 < cap) (hl : t.length ≤ 140737488355328) {i : Eng.Item} (hk : Kept a cap 5 t i) (w0 : World) (m : Mem) (H : SHeap) :
    Does Try.prog 36 #[.pointer (some ⟨b, 0, none⟩)] w0 m (.blk b (.cells [.pointer ao, .slice a t.length cap].toArray 97 (0, 0)) :: i :: H) (fun v m' H' => v = str t ∧ m' = m ∧ ∃ i2, Kept a cap 5 t i2 ∧ H' = .blk b (.cells [.pointer ao, .slice a t.length cap].toArray 97 (0, 0)) :: i2 :: H) := by
  rcases hk with ⟨ht, rfl⟩ | ⟨ht, a0, arr, fz, rfl, h1, hsz, harr, rfl⟩
  · exact bStr1_any hc hl w0 m H
  · refine Does.of_body (args := [.pointer (some ⟨b, 0, none⟩)]) Try.func36 rfl Try.ntmps36 rfl ?_
    (try (refine st_D13_1 ?_; intros))
    refine WC.drawE 11 ([.blk b (.cells [.pointer ao, .slice (some a0) t.length cap].toArray 97 (0, 0))]) (.blk a0.block (.cells arr 5 fz) :: H) rfl (by decide +kernel) zpk ?_
    (refine cm_D13_1 ?_)
    refine WE.act1 10 (by decide +kernel) rfl rfl (fun c h => by cases h) ?_
    refine WL.strBlk (s := t) rfl rfl (by (repeat (first | exact Out.here | apply Out.there))) rfl (by kernel_rfl) (by omega) rfl ht h1 hsz harr ?_
    intro fz'
    (try (refine st_D13_1 ?_; intros))
    refine WQ.acted (B := []) (U := .blk a0.block (.cells arr 5 fz') :: H) rfl (Mem.le.refl _) zpk ?_
    refine WE.done (by decide +kernel) ?_
    (try (refine st_D13_1 ?_; intros))
    exact q_fin0 (H0 := .blk b (.cells [.pointer ao, .slice (some a0) t.length cap].toArray 97 (0, 0)) :: .blk a0.block (.cells arr 5 fz') :: H) ⟨rfl, rfl, _, .inr ⟨ht, a0, arr, fz', rfl, h1, hsz, harr, rfl⟩, rfl⟩ (hd := zpk)
end Go.Proofs.Ytgckeelnhafgaaa

