/-
  Parts of a walk, joined: D45 D46. No condition.
-/
import Derived.Test.YtieangfnjflfmaaP8
set_option linter.all false
/-
  The walk of the law DraftChanges: its table. No condition.
-/
namespace Go.Eng
open Go Go.RowKit
/-- a row that is reckoned in its own place: from k on it is done -/
def rowM (A B : List Tx) (i k : Nat) : List (List Value) := (List.range (B.length + 1)).map fun j => [.int .i64 (if k ≤ j then (lcs (A.drop i) (B.drop j) : Int) else (lcs (A.drop (i + 1)) (B.drop j) : Int))]
theorem rowM_length (A B : List Tx) (i k : Nat) : (rowM A B i k).length = B.length + 1 := by simp [rowM]
theorem rowM_get {A B : List Tx} {i k j : Nat} (hj : j ≤ B.length) : (rowM A B i k)[j]? = some [.int .i64 (if k ≤ j then (lcs (A.drop i) (B.drop j) : Int) else (lcs (A.drop (i + 1)) (B.drop j) : Int))] := by
  unfold rowM
  rw [List.getElem?_map, List.getElem?_range (by omega)]; rfl
theorem rowM_set {A B : List Tx} {i k : Nat} {v : Int} (hv : v = (lcs (A.drop i) (B.drop k) : Int)) : (rowM A B i (k + 1)).set k [.int .i64 v] = rowM A B i k := by
  apply List.ext_getElem?
  intro j
  rw [List.getElem?_set]
  by_cases hj : j ≤ B.length
  · rw [rowM_get hj, rowM_get hj, rowM_length]
    by_cases e : k = j
    · subst e
      rw [if_pos rfl, if_pos (by omega), if_pos (Nat.le_refl _), hv]
    · rw [if_neg e]
      by_cases h : k + 1 ≤ j
      · rw [if_pos h, if_pos (by omega)]
      · rw [if_neg h, if_neg (by omega)]
  · have h0 : ∀ k, (rowM A B i k)[j]? = none := fun k => List.getElem?_eq_none (by rw [rowM_length]; omega)
    rw [h0, h0, rowM_length]
    split
    · rw [if_neg (by omega)]
    · rfl
theorem rowM_next {A B : List Tx} {i : Nat} : rowM A B (i + 1) 0 = rowM A B i B.length := by
  apply List.ext_getElem?
  intro j
  by_cases hj : j ≤ B.length
  · rw [rowM_get hj, rowM_get hj, if_pos (Nat.zero_le _)]
    by_cases e : B.length ≤ j
    · rw [if_pos e, List.drop_of_length_le (l := B) (i := j) (by omega), lcs_nil, lcs_nil]
    · rw [if_neg e]
  · rw [List.getElem?_eq_none (by rw [rowM_length]; omega), List.getElem?_eq_none (by rw [rowM_length]; omega)]
theorem rowM_zero {A B : List Tx} : rowM A B A.length 0 = List.replicate (B.length + 1) [.int .i64 0] := by
  apply List.ext_getElem?
  intro j
  by_cases hj : j ≤ B.length
  · rw [rowM_get hj, List.getElem?_replicate, if_pos (Nat.zero_le _), if_pos (by omega), List.drop_of_length_le (l := A) (Nat.le_refl _), lcs_nil']; rfl
  · rw [List.getElem?_eq_none (by rw [rowM_length]; omega), List.getElem?_eq_none (by rw [List.length_replicate]; omega)]
end Go.Eng
namespace Go.Proofs.Ytieangfnjflfmaa
open Go Go.Eng
set_option maxRecDepth 100000
set_option maxHeartbeats 4000000
set_option linter.all false
attribute [local irreducible] WL WC WQ QFun QLoop Does Q1 QRound QAssign Go.Addr.add
attribute [local irreducible] strs rowM
theorem chg_inner {X Y : List Tx} {ax ay : Option Addr} {bt cx cy i' : Nat} {x : Tx} {v0 v1 v5 v6 v9 : Value} {w0 : World} {m : Mem} {H : SHeap} {Q : Exit → Act → World → Prop} (hX : X.length ≤ 500) (hY : Y.length ≤ 500) (hx : X[i']? = some x)
    (hrx : RowR w0 m H 1 ax (strs X)) (hry : RowR w0 m H 1 ay (strs Y))
    (hK : WQ 258 w0 Q (.exit 4) [(13, .int .i64 (i' : Int)), (12, .slice (some ⟨bt, 0, none⟩) (Y.length + 1) (Y.length + 1)), (9, v9), (5, v5), (6, v6), (7, .slice ax X.length cx), (8, .slice ay Y.length cy), (0, v0), (1, v1)] [] m (.row (some ⟨bt, 0, none⟩) (Y.length + 1) 3 1 (rowM X Y i' 0) :: H)) :
    WC Try.prog none 258 w0 ((loopsIn (Try.f6.body.getD .skip)).getD 2 .skip) Q [(15, .int .i64 ((Y.length : Int) - 1)), (14, .int .i64 0), (13, .int .i64 (i' : Int)), (12, .slice (some ⟨bt, 0, none⟩) (Y.length + 1) (Y.length + 1)), (9, v9), (5, v5), (6, v6), (7, .slice ax X.length cx), (8, .slice ay Y.length cy), (0, v0), (1, v1)] [] m
      (.row (some ⟨bt, 0, none⟩) (Y.length + 1) 3 1 (rowM X Y i' Y.length) :: H) := by
  have hxd := drop_get hx
  have hxi := (List.getElem?_eq_some_iff.1 hx).1
  have hgx : (strs X)[i']? = some [str x] := strs_get hx
  have hal := strs_length X
  have hbl2 := strs_length Y
  refine WC.loopH [(15, .int .i64 (((Y.length) : Int) - 1)), (14, .int .i64 ((0) : Int)), (13, .int .i64 (i' : Int)), (12, .slice (some ⟨bt, 0, none⟩) (Y.length + 1) (Y.length + 1)), (9, v9), (5, v5), (6, v6), (7, .slice ax X.length cx), (8, .slice ay Y.length cy), (0, v0), (1, v1)] ?_ ?_ (fun j r ds m' H' => ∃ (k : Nat) (N : Nat), j = 2 * k ∧ r = [(15, .int .i64 ((k : Int) - 1)), (14, .int .i64 (N : Int)), (13, .int .i64 (i' : Int)), (12, .slice (some ⟨bt, 0, none⟩) (Y.length + 1) (Y.length + 1)), (9, v9), (5, v5), (6, v6), (7, .slice ax X.length cx), (8, .slice ay Y.length cy), (0, v0), (1, v1)] ∧ ds = [] ∧ m = m' ∧ H' = .row (some ⟨bt, 0, none⟩) (Y.length + 1) 3 1 (rowM X Y i' k) :: H ∧ (k ≤ Y.length) ∧ (N = lcs (X.drop (i' + 1)) (Y.drop k))) (2 * (Y.length)) ⟨Y.length, 0, rfl, rfl, rfl, rfl, rfl, Nat.le_refl _, by rw [List.drop_length, lcs_nil]⟩ ?_
  · (repeat (first | exact Env.Sub.nil | refine Env.Sub.cons rfl ?_))
  · exact zpk
  rintro j r ds m' H' ⟨k, N, rfl, rfl, rfl, rfl, rfl, hk, hN⟩
  by_cases hkz : k = 0
  · subst hkz
    (try (refine st ?_; intros))
    exact WQ.weak zsb zpk hK
  · obtain ⟨k', rfl⟩ : ∃ k', k = k' + 1 := ⟨k - 1, by omega⟩
    rw [show ((k' + 1 : Nat) : Int) - 1 = (k' : Int) by omega]
    obtain ⟨y, hy⟩ : ∃ y, Y[k']? = some y := ⟨_, List.getElem?_eq_getElem (by omega : k' < Y.length)⟩
    have hyd := drop_get hy
    have hgy : (strs Y)[k']? = some [str y] := strs_get hy
    have hq0 := rowM_get (A := X) (B := Y) (i := i') (k := k' + 1) (j := k' + 1) (by omega)
    have hq1 := rowM_get (A := X) (B := Y) (i := i') (k := k' + 1) (j := k') (by omega)
    rw [if_pos (Nat.le_refl _)] at hq0
    rw [if_neg (by omega)] at hq1
    have hst : ∀ v : Int, v = (lcs (X.drop i') (Y.drop k') : Int) → (rowM X Y i' (k' + 1)).set k' [.int .i64 v] = rowM X Y i' k' := fun v hv => rowM_set hv
    have hP0 := rowM_length X Y i' (k' + 1)
    have hl0 := (lcs_le (X.drop i') (Y.drop (k' + 1))).2
    have hl1 := (lcs_le (X.drop (i' + 1)) (Y.drop k')).2
    have hl2 := (lcs_le (X.drop (i' + 1)) (Y.drop (k' + 1))).2
    rw [← hN] at hl2
    rw [List.length_drop] at hl0 hl1 hl2
    obtain ⟨n1, hn1⟩ : ∃ n1, n1 = lcs (X.drop (i' + 1)) (Y.drop k') := ⟨_, rfl⟩
    obtain ⟨n0, hn0⟩ : ∃ n0, n0 = lcs (X.drop i') (Y.drop (k' + 1)) := ⟨_, rfl⟩
    rw [← hn0] at hq0 hl0
    rw [← hn1] at hq1 hl1
    have hmx : ¬ x = y → max (n1 : Int) (n0 : Int) = (lcs (X.drop i') (Y.drop k') : Int) := fun h => by
      rw [hxd, hyd, lcs_ne h, hn1, hn0, hxd, hyd]; omega
    have heq : x = y → max (max (n1 : Int) (n0 : Int)) ((N : Int) + 1) = (lcs (X.drop i') (Y.drop k') : Int) := fun h => by
      rw [hxd, hyd, lcs_max, if_pos h, hn1, hn0, hN, hxd, hyd]; omega
    generalize lcs (X.drop i') (Y.drop k') = n3 at *
    generalize rowM X Y i' (k' + 1) = P0 at *
    have hrx' : RowR w0 m (.row (some ⟨bt, 0, none⟩) (Y.length + 1) 3 1 P0 :: H) 1 ax (strs X) := hrx.more
    have hry' : RowR w0 m (.row (some ⟨bt, 0, none⟩) (Y.length + 1) 3 1 P0 :: H) 1 ay (strs Y) := hry.more
    clear hN hn0 hxd hyd
    refine WC.rSome hrx' (by omega) ?_
    rintro x0 rfl
    refine WC.rSome hry' (by omega) ?_
    rintro y0 rfl
    by_cases hxy : x = y
    · (try (refine st ?_; intros))
      rw [hst _ (heq hxy)]
      refine WQ.next (2 * (k')) ⟨k', n1, rfl, rfl, rfl, rfl, rfl, ?_, ?_⟩ (by omega) zsb zpk
      · omega
      · exact hn1
    · (try (refine st ?_; intros))
      rw [hst _ (hmx hxy)]
      refine WQ.next (2 * (k')) ⟨k', n1, rfl, rfl, rfl, rfl, rfl, ?_, ?_⟩ (by omega) zsb zpk
      · omega
      · exact hn1
theorem chg_outer {X Y : List Tx} {ax ay : Option Addr} {bt cx cy : Nat} {v0 v1 v5 v6 v9 : Value} {w0 : World} {m : Mem} {H : SHeap} {Q : Exit → Act → World → Prop} (hX : X.length ≤ 500) (hY : Y.length ≤ 500)
    (hrx : RowR w0 m H 1 ax (strs X)) (hry : RowR w0 m H 1 ay (strs Y))
    (hK : WQ 258 w0 Q (.exit 2) [(12, .slice (some ⟨bt, 0, none⟩) (Y.length + 1) (Y.length + 1)), (9, v9), (5, v5), (6, v6), (7, .slice ax X.length cx), (8, .slice ay Y.length cy), (0, v0), (1, v1)] [] m (.row (some ⟨bt, 0, none⟩) (Y.length + 1) 3 1 (rowM X Y 0 0) :: H)) :
    WC Try.prog none 258 w0 ((loopsIn (Try.f6.body.getD .skip)).getD 1 .skip) Q [(13, .int .i64 ((X.length : Int) - 1)), (12, .slice (some ⟨bt, 0, none⟩) (Y.length + 1) (Y.length + 1)), (9, v9), (5, v5), (6, v6), (7, .slice ax X.length cx), (8, .slice ay Y.length cy), (0, v0), (1, v1)] [] m
      (.row (some ⟨bt, 0, none⟩) (Y.length + 1) 3 1 (List.replicate (Y.length + 1) [.int .i64 0]) :: H) := by
  rw [← rowM_zero (A := X)]
  refine WC.loopH [(13, .int .i64 (((X.length) : Int) - 1)), (12, .slice (some ⟨bt, 0, none⟩) (Y.length + 1) (Y.length + 1)), (9, v9), (5, v5), (6, v6), (7, .slice ax X.length cx), (8, .slice ay Y.length cy), (0, v0), (1, v1)] ?_ ?_ (fun j r ds m' H' => ∃ i, j = 2 * i ∧ r = [(13, .int .i64 ((i : Int) - 1)), (12, .slice (some ⟨bt, 0, none⟩) (Y.length + 1) (Y.length + 1)), (9, v9), (5, v5), (6, v6), (7, .slice ax X.length cx), (8, .slice ay Y.length cy), (0, v0), (1, v1)] ∧ ds = [] ∧ m = m' ∧ H' = .row (some ⟨bt, 0, none⟩) (Y.length + 1) 3 1 (rowM X Y i 0) :: H ∧ (i ≤ X.length)) (2 * (X.length)) ⟨X.length, rfl, rfl, rfl, rfl, rfl, Nat.le_refl _⟩ ?_
  · (repeat (first | exact Env.Sub.nil | refine Env.Sub.cons rfl ?_))
  · exact zpk
  rintro j r ds m' H' ⟨i, rfl, rfl, rfl, rfl, rfl, hi⟩
  by_cases hz : i = 0
  · subst hz
    (try (refine st ?_; intros))
    exact WQ.weak zsb zpk hK
  · obtain ⟨i', rfl⟩ : ∃ i', i = i' + 1 := ⟨i - 1, by omega⟩
    rw [show ((i' + 1 : Nat) : Int) - 1 = (i' : Int) by omega, rowM_next]
    obtain ⟨x, hx⟩ : ∃ x, X[i']? = some x := ⟨_, List.getElem?_eq_getElem (by omega : i' < X.length)⟩
    (try (refine st ?_; intros))
    refine WC.weak zsb zpk (chg_inner (by omega) hY hx hrx hry ?_)
    (try (refine st ?_; intros))
    refine WQ.next (2 * (i')) ⟨i', rfl, rfl, rfl, rfl, rfl, ?_⟩ (by omega) zsb zpk
    · omega
end Go.Proofs.Ytieangfnjflfmaa

/-
  The walk of the law DraftChanges, whole. No condition.
-/
namespace Go.Eng
open Go Go.RowKit
theorem keepA_le : ∀ l : List Atm, keepA l ≤ l.length
  | [] => Nat.le_refl _
  | .k :: l => by have := keepA_le l; simp only [keepA, List.length_cons]; omega
  | .d _ :: l => by have := keepA_le l; simp only [keepA, List.length_cons]; omega
  | .p _ :: l => by have := keepA_le l; simp only [keepA, List.length_cons]; omega
theorem keepN_take {l : List Stp} {i : Nat} {x : Stp} (h : l[i]? = some x) : keepN (l.take (i + 1)) = keepN (l.take i) + x.k := by
  unfold keepN
  rw [List.take_succ, h]; simp
theorem keepN_le {l : List Stp} (h : ∀ s ∈ l, stpOk s) (h2 : (atomsOf l).length ≤ 131072) (i : Nat) : 0 ≤ keepN (l.take i) ∧ keepN (l.take i) ≤ 131072 := by
  have h3 := keepN_atoms (l := l.take i) (fun s hs => h s (List.mem_of_mem_take hs))
  have h4 := keepA_le (atomsOf (l.take i))
  have h5 : (atomsOf (l.take i)).length ≤ (atomsOf l).length := by
    have e : atomsOf l = atomsOf (l.take i) ++ atomsOf (l.drop i) := by rw [← atoms_append, List.take_append_drop]
    rw [e]; simp
  omega
theorem applyV_ok {l : List Stp} {s t : List UInt8} {tt : Int} (hs : sizesOf l = some ((s.length : Int), tt)) (ha : applyA s (atomsOf l) = some t) : applyV s l = okV t := by
  unfold applyV
  rw [hs]
  simp only [ne_eq, not_true_eq_false, if_false, ha]
  rfl
end Go.Eng
namespace Go.Proofs.Ytieangfnjflfmaa
open Go Go.Eng
set_option maxRecDepth 100000
set_option maxHeartbeats 4000000
set_option linter.all false
attribute [local irreducible] WL WC WQ QFun QLoop Does Q1 QRound QAssign Go.Addr.add
attribute [local irreducible] keepN
theorem chg_sum {L : List Stp} {c : Option Addr} {cp : Nat} {v0 v1 v9 : Value} {w0 : World} {m : Mem} {H : SHeap} {Q : Exit → Act → World → Prop} (hok : ∀ s ∈ L, stpOk s) (hal : (atomsOf L).length ≤ 131072) (hLl : L.length ≤ 1048576)
    (hK : WQ 258 w0 Q (.exit 6) [(20, .int .i64 (keepN L)), (17, .slice c L.length cp), (9, v9), (0, v0), (1, v1)] [] m (.row c cp 55 3 (L.map Stp.cs) :: H)) :
    WC Try.prog none 258 w0 ((loopsIn (Try.f6.body.getD .skip)).getD 3 .skip) Q [(219, .int .i64 0), (218, .int .i64 (L.length : Int)), (217, .slice c L.length cp), (20, .int .i64 0), (17, .slice c L.length cp), (9, v9), (0, v0), (1, v1)] [] m
      (.row c cp 55 3 (L.map Stp.cs) :: H) := by
  have hln : (L.map Stp.cs).length = L.length := List.length_map _
  refine WC.loopH [(219, .int .i64 ((0) : Int)), (218, .int .i64 (L.length : Int)), (217, .slice c L.length cp), (20, .int .i64 ((0 : Int))), (17, .slice c L.length cp), (9, v9), (0, v0), (1, v1)] ?_ ?_ (fun j r ds m' H' => ∃ (i : Nat) (N : Int), j = L.length - i ∧ r = [(219, .int .i64 (i : Int)), (218, .int .i64 (L.length : Int)), (217, .slice c L.length cp), (20, .int .i64 N), (17, .slice c L.length cp), (9, v9), (0, v0), (1, v1)] ∧ ds = [] ∧ m = m' ∧ H' = .row c cp 55 3 (L.map Stp.cs) :: H ∧ (i ≤ L.length) ∧ (N = keepN (L.take i))) (L.length - (0)) ⟨0, (0 : Int), rfl, rfl, rfl, rfl, rfl, Nat.zero_le _, by unfold keepN; simp⟩ ?_
  · (repeat (first | exact Env.Sub.nil | refine Env.Sub.cons rfl ?_))
  · exact zpk
  rintro j r ds m' H' ⟨i, N, rfl, rfl, rfl, rfl, rfl, hi, hN⟩
  by_cases hlt : i < L.length
  · obtain ⟨x, hx⟩ : ∃ x, L[i]? = some x := ⟨_, List.getElem?_eq_getElem hlt⟩
    have hgx : (L.map Stp.cs)[i]? = some [.int .i64 x.k, str x.d, str x.p] := by rw [List.getElem?_map, hx]; rfl
    have h1 := keepN_le hok hal i
    have h2 := keepN_le hok hal (i + 1)
    have h3 := keepN_take hx
    generalize L.map Stp.cs = E at *
    refine WC.rowSome (a := c) (es := E) zhs (by omega) ?_
    rintro c0 rfl
    (refine st ?_; intros; rename_i bx)
    refine WQ.next (L.length - (i + 1)) ⟨i + 1, N + x.k, rfl, rfl, rfl, rfl, rfl, ?_, ?_⟩ (by omega) zsb zpk
    · omega
    · omega
  · rw [List.take_of_length_le (by omega)] at hN
    subst hN
    (try (refine st ?_; intros))
    exact WQ.weak zsb zpk hK
attribute [local irreducible] matchL toks plainOf chL sizesOf applyV listOf rowM pairN invP
theorem sq_D46_1 {G : Prop} (h : G := by (repeat (first | (refine sp ?_; (repeat intro zzc)) | (refine WL.makeRow (sz:=1) (by':=8) (zs:=[.int .i64 0]) rfl rfl (by (first | with_reducible exact natz _ | with_reducible exact natz0 | with_reducible exact natz1 | with_reducible exact natz2 | with_reducible exact natz3 | with_reducible exact natz4 | with_reducible exact natz8 | (apply natz_add; (· first | with_reducible exact natz _ | with_reducible exact natz0 | with_reducible exact natz1 | with_reducible exact natz2 | with_reducible exact natz3 | with_reducible exact natz4 | with_reducible exact natz8); (· first | with_reducible exact natz _ | with_reducible exact natz0 | with_reducible exact natz1 | with_reducible exact natz2 | with_reducible exact natz3 | with_reducible exact natz4 | with_reducible exact natz8)) | (apply natz_sub; (· first | with_reducible exact natz _ | with_reducible exact natz0 | with_reducible exact natz1 | with_reducible exact natz2 | with_reducible exact natz3 | with_reducible exact natz4 | with_reducible exact natz8); (· first | with_reducible exact natz _ | with_reducible exact natz0 | with_reducible exact natz1 | with_reducible exact natz2 | with_reducible exact natz3 | with_reducible exact natz4 | with_reducible exact natz8); (· omega)) | exact (Int.toNat_of_nonneg (by omega)).symm)) (by (first | with_reducible exact natz _ | with_reducible exact natz0 | with_reducible exact natz1 | with_reducible exact natz2 | with_reducible exact natz3 | with_reducible exact natz4 | with_reducible exact natz8 | (apply natz_add; (· first | with_reducible exact natz _ | with_reducible exact natz0 | with_reducible exact natz1 | with_reducible exact natz2 | with_reducible exact natz3 | with_reducible exact natz4 | with_reducible exact natz8); (· first | with_reducible exact natz _ | with_reducible exact natz0 | with_reducible exact natz1 | with_reducible exact natz2 | with_reducible exact natz3 | with_reducible exact natz4 | with_reducible exact natz8)) | (apply natz_sub; (· first | with_reducible exact natz _ | with_reducible exact natz0 | with_reducible exact natz1 | with_reducible exact natz2 | with_reducible exact natz3 | with_reducible exact natz4 | with_reducible exact natz8); (· first | with_reducible exact natz _ | with_reducible exact natz0 | with_reducible exact natz1 | with_reducible exact natz2 | with_reducible exact natz3 | with_reducible exact natz4 | with_reducible exact natz8); (· omega)) | exact (Int.toNat_of_nonneg (by omega)).symm)) rfl rfl rfl rfl rfl rfl (by decide) (by omega) (by omega) rfl ?_; intro zzc))); exact WQ.q1 rfl) : G := h
theorem st_D46_1 {G G' : Prop} (next : G') (h : Bx G' → G := by intro zzn; (first | ((refine st ?_; (repeat intro zzc)); (try ((first | (refine WL.makeRow (sz:=1) (by':=8) (zs:=[.int .i64 0]) rfl rfl (by (first | with_reducible exact natz _ | with_reducible exact natz0 | with_reducible exact natz1 | with_reducible exact natz2 | with_reducible exact natz3 | with_reducible exact natz4 | with_reducible exact natz8 | (apply natz_add; (· first | with_reducible exact natz _ | with_reducible exact natz0 | with_reducible exact natz1 | with_reducible exact natz2 | with_reducible exact natz3 | with_reducible exact natz4 | with_reducible exact natz8); (· first | with_reducible exact natz _ | with_reducible exact natz0 | with_reducible exact natz1 | with_reducible exact natz2 | with_reducible exact natz3 | with_reducible exact natz4 | with_reducible exact natz8)) | (apply natz_sub; (· first | with_reducible exact natz _ | with_reducible exact natz0 | with_reducible exact natz1 | with_reducible exact natz2 | with_reducible exact natz3 | with_reducible exact natz4 | with_reducible exact natz8); (· first | with_reducible exact natz _ | with_reducible exact natz0 | with_reducible exact natz1 | with_reducible exact natz2 | with_reducible exact natz3 | with_reducible exact natz4 | with_reducible exact natz8); (· omega)) | exact (Int.toNat_of_nonneg (by omega)).symm)) (by (first | with_reducible exact natz _ | with_reducible exact natz0 | with_reducible exact natz1 | with_reducible exact natz2 | with_reducible exact natz3 | with_reducible exact natz4 | with_reducible exact natz8 | (apply natz_add; (· first | with_reducible exact natz _ | with_reducible exact natz0 | with_reducible exact natz1 | with_reducible exact natz2 | with_reducible exact natz3 | with_reducible exact natz4 | with_reducible exact natz8); (· first | with_reducible exact natz _ | with_reducible exact natz0 | with_reducible exact natz1 | with_reducible exact natz2 | with_reducible exact natz3 | with_reducible exact natz4 | with_reducible exact natz8)) | (apply natz_sub; (· first | with_reducible exact natz _ | with_reducible exact natz0 | with_reducible exact natz1 | with_reducible exact natz2 | with_reducible exact natz3 | with_reducible exact natz4 | with_reducible exact natz8); (· first | with_reducible exact natz _ | with_reducible exact natz0 | with_reducible exact natz1 | with_reducible exact natz2 | with_reducible exact natz3 | with_reducible exact natz4 | with_reducible exact natz8); (· omega)) | exact (Int.toNat_of_nonneg (by omega)).symm)) rfl rfl rfl rfl rfl rfl (by decide) (by omega) (by omega) rfl ?_; intro zzc) | ((refine iDraw ?_; (first | refine WC.drawAll rfl (by decide +kernel) ?_ | refine WC.draw 1 rfl (by decide +kernel) ?_ | refine WC.draw 2 rfl (by decide +kernel) ?_ | refine WC.draw 3 rfl (by decide +kernel) ?_ | refine WC.draw 4 rfl (by decide +kernel) ?_ | refine WC.draw 5 rfl (by decide +kernel) ?_ | refine WC.draw 6 rfl (by decide +kernel) ?_ | refine WC.draw 7 rfl (by decide +kernel) ?_ | refine WC.draw 8 rfl (by decide +kernel) ?_ | refine WC.draw 9 rfl (by decide +kernel) ?_ | refine WC.draw 10 rfl (by decide +kernel) ?_ | refine WC.draw 11 rfl (by decide +kernel) ?_ | refine WC.draw 12 rfl (by decide +kernel) ?_ | refine WC.draw 13 rfl (by decide +kernel) ?_ | refine WC.draw 14 rfl (by decide +kernel) ?_ | refine WC.draw 15 rfl (by decide +kernel) ?_ | refine WC.draw 16 rfl (by decide +kernel) ?_ | refine WC.draw 17 rfl (by decide +kernel) ?_ | refine WC.draw 18 rfl (by decide +kernel) ?_ | refine WC.draw 19 rfl (by decide +kernel) ?_ | refine WC.draw 20 rfl (by decide +kernel) ?_ | refine WC.draw 21 rfl (by decide +kernel) ?_ | refine WC.draw 22 rfl (by decide +kernel) ?_ | refine WC.draw 23 rfl (by decide +kernel) ?_ | refine WC.draw 24 rfl (by decide +kernel) ?_)); (repeat (refine WD.cons rfl (fun c h => by cases h) sq_D46_1 ?_)); refine WD.nil ?_)); (try (refine st ?_; (repeat intro zzc)))))) | ((first | (refine WL.makeRow (sz:=1) (by':=8) (zs:=[.int .i64 0]) rfl rfl (by (first | with_reducible exact natz _ | with_reducible exact natz0 | with_reducible exact natz1 | with_reducible exact natz2 | with_reducible exact natz3 | with_reducible exact natz4 | with_reducible exact natz8 | (apply natz_add; (· first | with_reducible exact natz _ | with_reducible exact natz0 | with_reducible exact natz1 | with_reducible exact natz2 | with_reducible exact natz3 | with_reducible exact natz4 | with_reducible exact natz8); (· first | with_reducible exact natz _ | with_reducible exact natz0 | with_reducible exact natz1 | with_reducible exact natz2 | with_reducible exact natz3 | with_reducible exact natz4 | with_reducible exact natz8)) | (apply natz_sub; (· first | with_reducible exact natz _ | with_reducible exact natz0 | with_reducible exact natz1 | with_reducible exact natz2 | with_reducible exact natz3 | with_reducible exact natz4 | with_reducible exact natz8); (· first | with_reducible exact natz _ | with_reducible exact natz0 | with_reducible exact natz1 | with_reducible exact natz2 | with_reducible exact natz3 | with_reducible exact natz4 | with_reducible exact natz8); (· omega)) | exact (Int.toNat_of_nonneg (by omega)).symm)) (by (first | with_reducible exact natz _ | with_reducible exact natz0 | with_reducible exact natz1 | with_reducible exact natz2 | with_reducible exact natz3 | with_reducible exact natz4 | with_reducible exact natz8 | (apply natz_add; (· first | with_reducible exact natz _ | with_reducible exact natz0 | with_reducible exact natz1 | with_reducible exact natz2 | with_reducible exact natz3 | with_reducible exact natz4 | with_reducible exact natz8); (· first | with_reducible exact natz _ | with_reducible exact natz0 | with_reducible exact natz1 | with_reducible exact natz2 | with_reducible exact natz3 | with_reducible exact natz4 | with_reducible exact natz8)) | (apply natz_sub; (· first | with_reducible exact natz _ | with_reducible exact natz0 | with_reducible exact natz1 | with_reducible exact natz2 | with_reducible exact natz3 | with_reducible exact natz4 | with_reducible exact natz8); (· first | with_reducible exact natz _ | with_reducible exact natz0 | with_reducible exact natz1 | with_reducible exact natz2 | with_reducible exact natz3 | with_reducible exact natz4 | with_reducible exact natz8); (· omega)) | exact (Int.toNat_of_nonneg (by omega)).symm)) rfl rfl rfl rfl rfl rfl (by decide) (by omega) (by omega) rfl ?_; intro zzc) | ((refine iDraw ?_; (first | refine WC.drawAll rfl (by decide +kernel) ?_ | refine WC.draw 1 rfl (by decide +kernel) ?_ | refine WC.draw 2 rfl (by decide +kernel) ?_ | refine WC.draw 3 rfl (by decide +kernel) ?_ | refine WC.draw 4 rfl (by decide +kernel) ?_ | refine WC.draw 5 rfl (by decide +kernel) ?_ | refine WC.draw 6 rfl (by decide +kernel) ?_ | refine WC.draw 7 rfl (by decide +kernel) ?_ | refine WC.draw 8 rfl (by decide +kernel) ?_ | refine WC.draw 9 rfl (by decide +kernel) ?_ | refine WC.draw 10 rfl (by decide +kernel) ?_ | refine WC.draw 11 rfl (by decide +kernel) ?_ | refine WC.draw 12 rfl (by decide +kernel) ?_ | refine WC.draw 13 rfl (by decide +kernel) ?_ | refine WC.draw 14 rfl (by decide +kernel) ?_ | refine WC.draw 15 rfl (by decide +kernel) ?_ | refine WC.draw 16 rfl (by decide +kernel) ?_ | refine WC.draw 17 rfl (by decide +kernel) ?_ | refine WC.draw 18 rfl (by decide +kernel) ?_ | refine WC.draw 19 rfl (by decide +kernel) ?_ | refine WC.draw 20 rfl (by decide +kernel) ?_ | refine WC.draw 21 rfl (by decide +kernel) ?_ | refine WC.draw 22 rfl (by decide +kernel) ?_ | refine WC.draw 23 rfl (by decide +kernel) ?_ | refine WC.draw 24 rfl (by decide +kernel) ?_)); (repeat (refine WD.cons rfl (fun c h => by cases h) sq_D46_1 ?_)); refine WD.nil ?_)); (try (refine st ?_; (repeat intro zzc))))); (repeat ((first | (refine WL.makeRow (sz:=1) (by':=8) (zs:=[.int .i64 0]) rfl rfl (by (first | with_reducible exact natz _ | with_reducible exact natz0 | with_reducible exact natz1 | with_reducible exact natz2 | with_reducible exact natz3 | with_reducible exact natz4 | with_reducible exact natz8 | (apply natz_add; (· first | with_reducible exact natz _ | with_reducible exact natz0 | with_reducible exact natz1 | with_reducible exact natz2 | with_reducible exact natz3 | with_reducible exact natz4 | with_reducible exact natz8); (· first | with_reducible exact natz _ | with_reducible exact natz0 | with_reducible exact natz1 | with_reducible exact natz2 | with_reducible exact natz3 | with_reducible exact natz4 | with_reducible exact natz8)) | (apply natz_sub; (· first | with_reducible exact natz _ | with_reducible exact natz0 | with_reducible exact natz1 | with_reducible exact natz2 | with_reducible exact natz3 | with_reducible exact natz4 | with_reducible exact natz8); (· first | with_reducible exact natz _ | with_reducible exact natz0 | with_reducible exact natz1 | with_reducible exact natz2 | with_reducible exact natz3 | with_reducible exact natz4 | with_reducible exact natz8); (· omega)) | exact (Int.toNat_of_nonneg (by omega)).symm)) (by (first | with_reducible exact natz _ | with_reducible exact natz0 | with_reducible exact natz1 | with_reducible exact natz2 | with_reducible exact natz3 | with_reducible exact natz4 | with_reducible exact natz8 | (apply natz_add; (· first | with_reducible exact natz _ | with_reducible exact natz0 | with_reducible exact natz1 | with_reducible exact natz2 | with_reducible exact natz3 | with_reducible exact natz4 | with_reducible exact natz8); (· first | with_reducible exact natz _ | with_reducible exact natz0 | with_reducible exact natz1 | with_reducible exact natz2 | with_reducible exact natz3 | with_reducible exact natz4 | with_reducible exact natz8)) | (apply natz_sub; (· first | with_reducible exact natz _ | with_reducible exact natz0 | with_reducible exact natz1 | with_reducible exact natz2 | with_reducible exact natz3 | with_reducible exact natz4 | with_reducible exact natz8); (· first | with_reducible exact natz _ | with_reducible exact natz0 | with_reducible exact natz1 | with_reducible exact natz2 | with_reducible exact natz3 | with_reducible exact natz4 | with_reducible exact natz8); (· omega)) | exact (Int.toNat_of_nonneg (by omega)).symm)) rfl rfl rfl rfl rfl rfl (by decide) (by omega) (by omega) rfl ?_; intro zzc) | ((refine iDraw ?_; (first | refine WC.drawAll rfl (by decide +kernel) ?_ | refine WC.draw 1 rfl (by decide +kernel) ?_ | refine WC.draw 2 rfl (by decide +kernel) ?_ | refine WC.draw 3 rfl (by decide +kernel) ?_ | refine WC.draw 4 rfl (by decide +kernel) ?_ | refine WC.draw 5 rfl (by decide +kernel) ?_ | refine WC.draw 6 rfl (by decide +kernel) ?_ | refine WC.draw 7 rfl (by decide +kernel) ?_ | refine WC.draw 8 rfl (by decide +kernel) ?_ | refine WC.draw 9 rfl (by decide +kernel) ?_ | refine WC.draw 10 rfl (by decide +kernel) ?_ | refine WC.draw 11 rfl (by decide +kernel) ?_ | refine WC.draw 12 rfl (by decide +kernel) ?_ | refine WC.draw 13 rfl (by decide +kernel) ?_ | refine WC.draw 14 rfl (by decide +kernel) ?_ | refine WC.draw 15 rfl (by decide +kernel) ?_ | refine WC.draw 16 rfl (by decide +kernel) ?_ | refine WC.draw 17 rfl (by decide +kernel) ?_ | refine WC.draw 18 rfl (by decide +kernel) ?_ | refine WC.draw 19 rfl (by decide +kernel) ?_ | refine WC.draw 20 rfl (by decide +kernel) ?_ | refine WC.draw 21 rfl (by decide +kernel) ?_ | refine WC.draw 22 rfl (by decide +kernel) ?_ | refine WC.draw 23 rfl (by decide +kernel) ?_ | refine WC.draw 24 rfl (by decide +kernel) ?_)); (repeat (refine WD.cons rfl (fun c h => by cases h) sq_D46_1 ?_)); refine WD.nil ?_)); (try (refine st ?_; (repeat intro zzc))))); (repeat revert zzc); exact zzn.out) : G := h ⟨next⟩
theorem draftChanges_any (s t : Tx) (hs : s.length ≤ 9223372036854775807) (ht : t.length ≤ 9223372036854775807) (w0 : World) (m : Mem) (H : SHeap) :
    Does Try.prog 6 #[str s, str t] w0 m H (fun v m' _ => v = .bool true ∧ m.le m') := by
  refine Does.of_body (args := [str s, str t]) Try.func6 rfl Try.ntmps6 rfl ?_
  (try (refine st_D46_1 ?_; intros))
  refine w_callF Try.func7 ?_ (hs := wakes_any _ _ _)
  rintro v m1 H1 ⟨hle1, rfl, rfl⟩
  (try (refine st_D46_1 ?_; intros))
  have hS : (List.take (min (s.length : Int) 500).toNat s).length ≤ 500 := by rw [List.length_take]; omega
  have hT : (List.take (min (t.length : Int) 500).toNat t).length ≤ 500 := by rw [List.length_take]; omega
  generalize List.take (min (s.length : Int) 500).toNat s = S at *
  generalize List.take (min (t.length : Int) 500).toNat t = T at *
  have hns : ¬ Long [S, T] := by
    rintro ⟨x, hx, hx2⟩
    simp only [List.mem_cons, List.not_mem_nil, or_false] at hx
    rcases hx with rfl | rfl <;> omega
  have hXl := toks_length S
  have hYl := toks_length T
  have hXf := congrArg List.length (toks_join S)
  have hM := match_ok (toks S) (toks T)
  have hMl := hM.len
  have hmost := match_most (a := toks S) (b := toks T) (by omega) (by omega)
  have hkeep := chL_keep S T
  have hsz := chL_sizes (s := S) (t := T) (by omega) (by omega)
  have hfit := fit_plain hsz
  have hpz := plain_sizes hsz
  have hapA : applyA S (atomsOf (plainOf (chL S T))) = some T := by rw [plain_apply _ (chL_ok S T)]; exact chL_apply S T
  have hap := applyV_ok hpz hapA
  obtain ⟨hok, hal, _⟩ := sized hpz
  have hinv : invP (plainOf (chL S T)) = .inr (listOf ((atomsOf (plainOf (chL S T))).map Atm.inv)) := by unfold invP; rw [hpz]
  have hback := inv_back hpz hapA
  have hifit := (inv_fit hpz).1
  refine w_callF Try.func13 ?_ (hs := dMatch_any hns _ _ _)
  rintro v m2 H2 ⟨hle2, a, cp, rfl, rfl⟩
  (try (refine st_D46_1 ?_; intros))
  refine w_callF Try.func18 ?_ (hs := ltoks_any S (by omega) _ _ _)
  rintro v m3 H3 ⟨hle3, ax, cx, rfl, rfl⟩
  (try (refine st_D46_1 ?_; intros))
  refine w_callF Try.func18 ?_ (hs := ltoks_any T (by omega) _ _ _)
  rintro v m4 H4 ⟨hle4, ay, cy, rfl, rfl⟩
  generalize toks S = X at *
  generalize toks T = Y at *
  generalize matchL X Y = M at *
  have hrx : RowR w0 m4 (.row ay cy 9 1 (strs Y) :: .row ax cx 9 1 (strs X) :: H1) 1 ax (strs X) := RowR.row (T := 9) (cap := cx) zhs
  have hry : RowR w0 m4 (.row ay cy 9 1 (strs Y) :: .row ax cx 9 1 (strs X) :: H1) 1 ay (strs Y) := RowR.row (T := 9) (cap := cy) zhs
  (try (refine st_D46_1 ?_; intros))
  refine WC.weak zsb zpk (chg_pairs (X := X) (Y := Y) (M := M) (H := .row ay cy 9 1 (strs Y) :: .row ax cx 9 1 (strs X) :: H1) ⟨by omega, by omega⟩ (by omega) hM (by omega) hrx hry ?_)
  have hcY : (Y.length : Int) + 1 = ((Y.length + 1 : Nat) : Int) := by omega
  (refine st_D46_1 ?_; intros; rename_i bt)
  refine WC.weak zsb zpk (chg_outer (X := X) (Y := Y) (H := .row a cp 44 2 (M.map prE) :: .row ay cy 9 1 (strs Y) :: .row ax cx 9 1 (strs X) :: H1) (by omega) (by omega) hrx.more hry.more ?_)
  have hq0 := rowM_get (A := X) (B := Y) (i := 0) (k := 0) (j := 0) (Nat.zero_le _)
  rw [if_pos (Nat.le_refl _), List.drop_zero, List.drop_zero, ← hmost] at hq0
  have hP0 := rowM_length X Y 0 0
  have hmm : (M.length : Int) = (M.length : Int) := rfl
  (try (refine st_D46_1 ?_; intros))
  refine w_callF Try.func14 ?_ (hs := dChange_any hns _ _ _)
  rintro v m5 H5 ⟨hle5, c, cc, rfl, rfl⟩
  have hle := hle1.trans (hle2.trans (hle3.trans (hle4.trans hle5)))
  have hll := hfit.len
  clear hle1 hle2 hle3 hle4 hle5 hq0 hrx hry hmost hM
  generalize plainOf (chL S T) = L at *
  (try (refine st_D46_1 ?_; intros))
  refine w_callF Try.func19 ?_ (hs := apply_any (s := S) hfit (by omega) _ _ _ (RowR.row (T := 55) (cap := cc) zhs))
  rintro v m6 H6 ⟨rfl, rfl, rfl⟩
  rw [hap, show okV T = .tuple #[str T, .int .i64 0] from rfl]
  have hTT : T = T := rfl
  have hSS : S = S := rfl
  (try (refine st_D46_1 ?_; intros))
  refine WC.weak zsb zpk (chg_sum (L := L) (H := H1) hok hal (by omega) ?_)
  (try (refine st_D46_1 ?_; intros))
  refine w_callF Try.func20 ?_ (hs := eInvert_any hfit _ _ _ (RowR.row (T := 55) (cap := cc) zhs))
  rintro v m7 H7 ⟨rfl, h7⟩
  rw [hinv] at h7
  obtain ⟨d, dp, rfl, rfl⟩ := h7
  generalize listOf ((atomsOf L).map Atm.inv) = R at *
  (try (refine st_D46_1 ?_; intros))
  refine w_callF Try.func19 ?_ (hs := apply_any (s := T) hifit (by omega) _ _ _ (RowR.row (T := 55) (cap := dp) zhs))
  rintro v m8 H8 ⟨rfl, rfl, rfl⟩
  rw [hback, show okV S = .tuple #[str S, .int .i64 0] from rfl, hkeep]
  have hpp : (pairN X M : Int) = (pairN X M : Int) := rfl
  (try (refine st_D46_1 ?_; intros))
  refine w_callF Try.func7 ?_ (hs := wakes_any _ _ _)
  rintro v mC HC ⟨hleC, rfl, rfl⟩
  (try (refine st_D46_1 ?_; intros))
  exact q_fin0 (H0 := H1) ⟨rfl, hle.trans hleC⟩ (hd := zpk)
end Go.Proofs.Ytieangfnjflfmaa

