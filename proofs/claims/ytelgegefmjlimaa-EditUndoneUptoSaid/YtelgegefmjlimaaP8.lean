/-
  Parts of a walk, joined: ET11 ET12 ET13 E15 E18. No condition.
-/
import Derived.Test.YtelgegefmjlimaaP7
/-
  Plain facts on changes: composing, with the builder at hand. No condition.
-/
namespace Go.Eng
open Go
/-- the answer, from here on -/
def cmpT (B : Bld) (xs ys : List Atm) : Option (List Stp) := (compA xs ys).map fun o => (B.run o).close.l
theorem cmpT_p (B : Bld) (xs : List Atm) (P : List UInt8) (ys : List Atm) : cmpT B xs (P.map .p ++ ys) = cmpT ⟨B.l, B.p ++ P, B.d⟩ xs ys := by
  unfold cmpT
  rw [compA_ps, Option.map_map]
  congr 1; funext o
  simp only [Function.comp, run_append, run_p]
theorem cmpT_d (B : Bld) (ds : List UInt8) (xs ys : List Atm) (h : notPut ys = true) : cmpT B (ds.map .d ++ xs) ys = cmpT ⟨B.l, B.p, B.d ++ ds⟩ xs ys := by
  unfold cmpT
  rw [compA_ds _ _ _ h, Option.map_map]
  congr 1; funext o
  simp only [Function.comp, run_append, run_d]
theorem cmpT_kk (B : Bld) (xs ys : List Atm) : cmpT B (.k :: xs) (.k :: ys) = cmpT (B.keep 1) xs ys := by
  unfold cmpT
  rw [compA, Option.map_map]; rfl
theorem cmpT_kd (B : Bld) (c : UInt8) (xs ys : List Atm) : cmpT B (.k :: xs) (.d c :: ys) = cmpT ⟨B.l, B.p, B.d ++ [c]⟩ xs ys := by
  unfold cmpT
  rw [compA, Option.map_map]; rfl
theorem cmpT_pk (B : Bld) (c : UInt8) (xs ys : List Atm) : cmpT B (.p c :: xs) (.k :: ys) = cmpT ⟨B.l, B.p ++ [c], B.d⟩ xs ys := by
  unfold cmpT
  rw [compA, Option.map_map]; rfl
theorem cmpT_pd (B : Bld) (b c : UInt8) (xs ys : List Atm) : cmpT B (.p b :: xs) (.d c :: ys) = if b = c then cmpT B xs ys else none := by
  unfold cmpT
  rw [compA]
  split <;> rfl
theorem cmpT_end (B : Bld) (ds : List UInt8) : cmpT B (ds.map .d) [] = some (⟨B.l, B.p, B.d ++ ds⟩ : Bld).close.l := by
  have h := cmpT_d B ds [] [] rfl
  rw [List.append_nil] at h
  rw [h]; unfold cmpT; rw [compA]; rfl
/-- the same step by step -/
theorem stp_put {B : Bld} {X Y : List Stp} {t : Stp} (ht : stpOk t) (hp : t.p ≠ []) : cmpT B (atomsOf X) (atomsOf (t :: Y)) = cmpT (B.step t) (atomsOf X) (atomsOf Y) := by
  unfold cmpT
  rw [comp_put ht hp, Option.map_map]
  congr 1; funext o
  simp only [Function.comp, run_append, run_step _ _ ht]
theorem stp_drop {B : Bld} {X Y : List Stp} {s : Stp} (hs : stpOk s) (hd : s.d ≠ []) (hY : ∀ y ∈ Y, stpOk y) (hp : ∀ t Y', Y = t :: Y' → t.p = []) : cmpT B (atomsOf (s :: X)) (atomsOf Y) = cmpT (B.step s) (atomsOf X) (atomsOf Y) := by
  unfold cmpT
  rw [comp_drop hs hd hY hp, Option.map_map]
  congr 1; funext o
  simp only [Function.comp, run_append, run_step _ _ hs]
theorem stp_nilY {B : Bld} {X : List Stp} (hX : ∀ x ∈ X, stpOk x) (hd : ∀ s X', X = s :: X' → s.d = []) : cmpT B (atomsOf X) (atomsOf []) = some B.close.l := by
  unfold cmpT; rw [comp_nilY hX hd]; rfl
theorem stp_nilX {B : Bld} {Y : List Stp} (hY : ∀ y ∈ Y, stpOk y) (hp : ∀ t Y', Y = t :: Y' → t.p = []) : cmpT B (atomsOf []) (atomsOf Y) = some B.close.l := by
  unfold cmpT; rw [comp_nilX hY hp]; rfl
theorem stp_both {B : Bld} {X Y : List Stp} {s t : Stp} {n : Nat} (hX : ∀ x ∈ s :: X, stpOk x) (hY : ∀ y ∈ t :: Y, stpOk y) (hd : s.d = []) (hp : t.p = []) (h0 : 0 < n) (hs : n ≤ s.atoms.length) (ht : n ≤ t.atoms.length) :
    cmpT B (atomsOf (s :: X)) (atomsOf (t :: Y)) = if 0 < (takeS s n).k then cmpT (B.step (takeS t n)) (atomsOf (restS s n X)) (atomsOf (restS t n Y))
      else if 0 < (takeS t n).k then cmpT (B.step (takeS s n)) (atomsOf (restS s n X)) (atomsOf (restS t n Y))
      else if (takeS s n).p = (takeS t n).d then cmpT B (atomsOf (restS s n X)) (atomsOf (restS t n Y)) else none := by
  have o1 := (takeS_ok (hX s List.mem_cons_self) h0 hs).1
  have o2 := (takeS_ok (hY t List.mem_cons_self) h0 ht).1
  unfold cmpT
  rw [comp_both hX hY hd hp h0 hs ht]
  split
  · rw [Option.map_map]
    congr 1; funext o
    simp only [Function.comp, run_append, run_step _ _ o2]
  · split
    · rw [Option.map_map]
      congr 1; funext o
      simp only [Function.comp, run_append, run_step _ _ o1]
    · split <;> rfl
/-- what is left of a stream is less -/
theorem rest_len {s : Stp} {n : Nat} {X : List Stp} (hX : ∀ x ∈ s :: X, stpOk x) (h0 : 0 < n) (hs : n ≤ s.atoms.length) : (atomsOf (s :: X)).length = n + (atomsOf (restS s n X)).length ∧ (takeS s n).atoms.length = n := by
  have h := parts_S hX h0 hs
  have h2 := (takeS_kind (hX s List.mem_cons_self) h0 hs).2.2.2
  rw [h, List.length_append, h2]
  exact ⟨rfl, rfl⟩
theorem bfit_step {N : Nat} {B : Bld} {s : Stp} (h : BFit N B) (hs : stpOk s) : BFit (N + 4 * s.atoms.length) (B.step s) := by
  rw [← run_step B s hs]; exact BFit.run _ h
theorem restS_all {s : Stp} {X : List Stp} : restS s s.atoms.length X = X := if_pos rfl
theorem stp_bounds {s : Stp} (h : stpOk s) : 0 ≤ s.k ∧ s.k ≤ s.atoms.length ∧ s.d.length ≤ s.atoms.length ∧ s.p.length ≤ s.atoms.length := by
  have := atoms_len s
  rcases h with ⟨h, _, _⟩ | ⟨h, _, _⟩ | ⟨h, _, _⟩ <;> omega
/-- the bytes of what a change makes: where each was, or what was put -/
def midsA : Nat → List Atm → List (Int × UInt8)
  | _, [] => []
  | i, .k :: l => ((i : Int), 0) :: midsA (i + 1) l
  | i, .d _ :: l => midsA (i + 1) l
  | i, .p c :: l => (-1, c) :: midsA i l
def bytesA : List Atm → List UInt8
  | [] => []
  | .k :: l => 0 :: bytesA l
  | .d c :: l => c :: bytesA l
  | .p _ :: l => bytesA l
theorem midsA_len : ∀ (i : Nat) (l : List Atm), (midsA i l).length = toA l
  | _, [] => rfl
  | i, .k :: l => by simp [midsA, toA, midsA_len (i + 1) l]
  | i, .d _ :: l => by simp [midsA, toA, midsA_len (i + 1) l]
  | i, .p c :: l => by simp [midsA, toA, midsA_len i l]
theorem bytesA_len : ∀ l : List Atm, (bytesA l).length = fromA l
  | [] => rfl
  | .k :: l => by simp [bytesA, fromA, bytesA_len l]
  | .d _ :: l => by simp [bytesA, fromA, bytesA_len l]
  | .p c :: l => by simp [bytesA, fromA, bytesA_len l]
theorem midsA_append : ∀ (i : Nat) (x y : List Atm), midsA i (x ++ y) = midsA i x ++ midsA (i + fromA x) y
  | i, [], y => by simp [midsA, fromA]
  | i, .k :: x, y => by
    rw [List.cons_append, midsA, midsA_append (i + 1) x y, midsA, fromA, List.cons_append]
    congr 3; omega
  | i, .d _ :: x, y => by
    rw [List.cons_append, midsA, midsA_append (i + 1) x y, midsA, fromA]
    congr 2; omega
  | i, .p c :: x, y => by
    rw [List.cons_append, midsA, midsA_append i x y, midsA, fromA, List.cons_append]
theorem bytesA_append : ∀ x y : List Atm, bytesA (x ++ y) = bytesA x ++ bytesA y
  | [], y => rfl
  | .k :: x, y => by simp [bytesA, bytesA_append x y]
  | .d _ :: x, y => by simp [bytesA, bytesA_append x y]
  | .p c :: x, y => by simp [bytesA, bytesA_append x y]
theorem midsA_ds (i : Nat) : ∀ ds : List UInt8, midsA i (ds.map .d) = []
  | [] => rfl
  | b :: ds => by rw [List.map_cons, midsA, midsA_ds]
theorem bytesA_ds : ∀ ds : List UInt8, bytesA (ds.map .d) = ds
  | [] => rfl
  | b :: ds => by rw [List.map_cons, bytesA, bytesA_ds]
theorem bytesA_ps : ∀ ds : List UInt8, bytesA (ds.map .p) = []
  | [] => rfl
  | b :: ds => by rw [List.map_cons, bytesA, bytesA_ps]
theorem midsA_ps (i : Nat) : ∀ ds : List UInt8, midsA i (ds.map .p) = ds.map fun c => (-1, c)
  | [] => rfl
  | b :: ds => by rw [List.map_cons, midsA, midsA_ps i ds]; rfl
theorem bytes_nf (g : Gs) : bytesA (nfOf g) = bytesOf g := by
  unfold nfOf bytesOf
  rw [bytesA_append]
  have h1 : ∀ x : Gap, bytesA (gapA x) = x.d := fun x => by rw [gapA, bytesA_append, bytesA_ps, bytesA_ds]; rfl
  rw [h1]
  congr 1
  have h2 : ∀ l : List Gap, bytesA (l.flatMap fun x => gapA x ++ [.k]) = l.flatMap bytesG := by
    intro l
    induction l with
    | nil => rfl
    | cons x l ih => rw [List.flatMap_cons, List.flatMap_cons, bytesA_append, bytesA_append, h1, ih]; rfl
  exact h2 _
/-- the next byte that is made -/
theorem split_mid : ∀ (l : List Atm), (∃ ds : List UInt8, l = ds.map .d) ∨ (∃ (ds : List UInt8) (l' : List Atm), l = ds.map .d ++ .k :: l') ∨ (∃ (ds : List UInt8) (c : UInt8) (l' : List Atm), l = ds.map .d ++ .p c :: l')
  | [] => .inl ⟨[], rfl⟩
  | .k :: l => .inr (.inl ⟨[], l, rfl⟩)
  | .p c :: l => .inr (.inr ⟨[], c, l, rfl⟩)
  | .d c :: l => by
    rcases split_mid l with ⟨ds, rfl⟩ | ⟨ds, l', rfl⟩ | ⟨ds, b, l', rfl⟩
    · exact .inl ⟨c :: ds, rfl⟩
    · exact .inr (.inl ⟨c :: ds, l', rfl⟩)
    · exact .inr (.inr ⟨c :: ds, b, l', rfl⟩)
/-- the bytes that are made, up to a place -/
def midsTo (P : List (List UInt8)) (D : List Bool) : Nat → List (Int × UInt8)
  | 0 => []
  | p + 1 => midsTo P D p ++ (P.getD p []).map (fun c => (-1, c)) ++ (if D.getD p true = false then [((p : Int), 0)] else [])
theorem mids_to (P : List (List UInt8)) (D : List Bool) (B : List UInt8) (h1 : B.length = D.length) (h2 : P.length = D.length + 1) : ∀ p, p ≤ D.length → midsTo P D p = midsA 0 (sdA ((P.zip (D.zip B)).take p) []) ∧ fromA (sdA ((P.zip (D.zip B)).take p) []) = p
  | 0, _ => ⟨by simp [midsTo, sdA, midsA], by simp [sdA, fromA]⟩
  | p + 1, h => by
    obtain ⟨e1, e2⟩ := mids_to P D B h1 h2 p (by omega)
    have hP : p < P.length := by omega
    have hB : p < B.length := by omega
    have hD : p < D.length := by omega
    have hz : (P.zip (D.zip B)).length = D.length := by simp [List.length_zip]; omega
    have hg : (P.zip (D.zip B)).take (p + 1) = (P.zip (D.zip B)).take p ++ [(P[p], D[p], B[p])] := by
      rw [List.take_succ_eq_append_getElem (by omega)]
      simp
    have es : sdA ((P.zip (D.zip B)).take (p + 1)) [] = sdA ((P.zip (D.zip B)).take p) [] ++ Pos.atoms (P[p], D[p], B[p]) := by
      rw [hg]; simp [sdA]
    have eD : D.getD p true = D[p] := by rw [List.getD_eq_getElem?_getD, List.getElem?_eq_getElem hD]; rfl
    have eP : P.getD p [] = P[p] := by rw [List.getD_eq_getElem?_getD, List.getElem?_eq_getElem hP]; rfl
    constructor
    · rw [midsTo, es, midsA_append, e2, e1, eD, eP, List.append_assoc, Pos.atoms, midsA_append, midsA_ps, fromA_p]
      cases D[p] <;> simp [midsA]
    · rw [es, fromA_append, e2, Pos.atoms, fromA_append, fromA_p]
      cases D[p] <;> simp [fromA]
theorem mids_all (l : List Stp) : midsTo (putsOf (gapsOf l)) (dropsOf (gapsOf l)) (putsOf (gapsOf l)).length = midsA 0 (nfOf (gapsOf l)) := by
  obtain ⟨h1, h2⟩ := said_len (gapsOf l)
  obtain ⟨e1, e2⟩ := mids_to _ _ _ h1 h2 (dropsOf (gapsOf l)).length (Nat.le_refl _)
  have hp := pos_len l
  rw [h2, midsTo, e1, ← sd_atoms]
  have ht : (posOf (gapsOf l)).take (dropsOf (gapsOf l)).length = posOf (gapsOf l) := List.take_of_length_le (by omega)
  unfold posOf at ht hp
  rw [ht]
  have hd : (dropsOf (gapsOf l)).getD (dropsOf (gapsOf l)).length true = true := by simp [List.getD_eq_getElem?_getD]
  rw [hd]
  simp only [Bool.true_eq_false, if_false, List.append_nil]
  have e3 : sdA (posOf (gapsOf l)) (lastOf (gapsOf l)) = sdA ((putsOf (gapsOf l)).zip ((dropsOf (gapsOf l)).zip (bytesOf (gapsOf l)))) [] ++ (lastOf (gapsOf l)).map .p := by simp [sdA, posOf]
  rw [e3, midsA_append, midsA_ps]
  rfl
theorem sd_to (last : List UInt8) : ∀ ps : List Pos, toA (sdA ps last) = (ps.map fun x => x.1.length + (if x.2.1 then 0 else 1)).sum + last.length
  | [] => by rw [sdA_nil, toA_p]; simp
  | x :: ps => by
    rw [sdA_cons, toA_append, toA_p]
    cases h : x.2.1 <;> simp [toA, sd_to last ps, h] <;> omega
end Go.Eng

/-
  Plain facts on changes: two changes carried over each other. No condition.
-/
namespace Go.Eng
open Go
/-- two changes byte by byte, carried over each other; none: they are apart -/
def carA : List Atm → List Atm → Option (List Atm × List Atm)
  | .p b :: xs, ys => (carA xs ys).map fun o => (.p b :: o.1, .k :: o.2)
  | [], .p b :: ys => (carA [] ys).map fun o => (.k :: o.1, .p b :: o.2)
  | .k :: xs, .p b :: ys => (carA (.k :: xs) ys).map fun o => (.k :: o.1, .p b :: o.2)
  | .d c :: xs, .p b :: ys => (carA (.d c :: xs) ys).map fun o => (.k :: o.1, .p b :: o.2)
  | .k :: xs, .k :: ys => (carA xs ys).map fun o => (.k :: o.1, .k :: o.2)
  | .d b :: xs, .k :: ys => (carA xs ys).map fun o => (.d b :: o.1, o.2)
  | .k :: xs, .d b :: ys => (carA xs ys).map fun o => (o.1, .d b :: o.2)
  | .d b :: xs, .d c :: ys => if b = c then carA xs ys else none
  | [], [] => some ([], [])
  | [], .k :: _ => some ([], [])
  | [], .d _ :: _ => some ([], [])
  | .k :: _, [] => some ([], [])
  | .d _ :: _, [] => some ([], [])
termination_by xs ys => xs.length + ys.length
theorem carA_px (b : UInt8) (xs ys : List Atm) : carA (.p b :: xs) ys = (carA xs ys).map fun o => (.p b :: o.1, .k :: o.2) := by
  match ys with
  | [] => rw [carA]
  | .k :: _ => rw [carA]
  | .d _ :: _ => rw [carA]
  | .p _ :: _ => rw [carA]
theorem carA_py (b : UInt8) (xs ys : List Atm) (h : notPut xs = true) : carA xs (.p b :: ys) = (carA xs ys).map fun o => (.k :: o.1, .p b :: o.2) := by
  match xs, h with
  | [], _ => rw [carA]
  | .k :: _, _ => rw [carA]
  | .d _ :: _, _ => rw [carA]
  | .p _ :: _, h => simp [notPut] at h
theorem carA_nilX (ys : List Atm) (h : notPut ys = true) : carA [] ys = some ([], []) := by
  match ys, h with
  | [], _ => rw [carA]
  | .k :: _, _ => rw [carA]
  | .d _ :: _, _ => rw [carA]
  | .p _ :: _, h => simp [notPut] at h
theorem carA_nilY (xs : List Atm) (h : notPut xs = true) : carA xs [] = some ([], []) := by
  match xs, h with
  | [], _ => rw [carA]
  | .k :: _, _ => rw [carA]
  | .d _ :: _, _ => rw [carA]
  | .p _ :: _, h => simp [notPut] at h
/-- the answer, from here on, with both builders at hand -/
def carT (U V : Bld) (n : Nat) (xs ys : List Atm) : Option (List Stp × List Stp × Nat) := (carA xs ys).map fun o => ((U.run o.1).close.l, (V.run o.2).close.l, n + toA o.1)
theorem carT_p1 (U V : Bld) (n : Nat) (b : UInt8) (xs ys : List Atm) : carT U V n (.p b :: xs) ys = carT ⟨U.l, U.p ++ [b], U.d⟩ (V.keep 1) (n + 1) xs ys := by
  unfold carT
  rw [carA_px, Option.map_map]
  congr 1; funext o
  simp only [Function.comp, toA]
  rw [show n + (toA o.1 + 1) = n + 1 + toA o.1 by omega]; rfl
theorem carT_q1 (U V : Bld) (n : Nat) (b : UInt8) (xs ys : List Atm) (h : notPut xs = true) : carT U V n xs (.p b :: ys) = carT (U.keep 1) ⟨V.l, V.p ++ [b], V.d⟩ (n + 1) xs ys := by
  unfold carT
  rw [carA_py _ _ _ h, Option.map_map]
  congr 1; funext o
  simp only [Function.comp, toA]
  rw [show n + (toA o.1 + 1) = n + 1 + toA o.1 by omega]; rfl
theorem keep_zero (B : Bld) : B.keep ((0 : Nat) : Int) = B := rfl
theorem keep_succ (B : Bld) (n : Nat) : (B.keep 1).keep (n : Int) = B.keep ((n + 1 : Nat) : Int) := by
  by_cases h : n = 0
  · subst h; rfl
  · rw [keep_keep _ _ _ (by omega) (by omega)]; congr 1; omega
theorem carT_p (xs ys : List Atm) : ∀ (P : List UInt8) (U V : Bld) (n : Nat), carT U V n (P.map .p ++ xs) ys = carT ⟨U.l, U.p ++ P, U.d⟩ (V.keep (P.length : Int)) (n + P.length) xs ys
  | [], U, V, n => by rw [List.length_nil, keep_zero]; simp
  | b :: P, U, V, n => by
    rw [List.map_cons, List.cons_append, carT_p1, carT_p xs ys P, keep_succ, List.length_cons]
    simp only [List.append_assoc, List.singleton_append]
    congr 1; omega
theorem carT_q (xs ys : List Atm) (h : notPut xs = true) : ∀ (P : List UInt8) (U V : Bld) (n : Nat), carT U V n xs (P.map .p ++ ys) = carT (U.keep (P.length : Int)) ⟨V.l, V.p ++ P, V.d⟩ (n + P.length) xs ys
  | [], U, V, n => by rw [List.length_nil, keep_zero]; simp
  | b :: P, U, V, n => by
    rw [List.map_cons, List.cons_append, carT_q1 _ _ _ _ _ _ h, carT_q xs ys h P, keep_succ, List.length_cons]
    simp only [List.append_assoc, List.singleton_append]
    congr 1; omega
theorem carT_kk (xs ys : List Atm) : ∀ (m : Nat) (U V : Bld) (n : Nat), carT U V n (List.replicate m .k ++ xs) (List.replicate m .k ++ ys) = carT (U.keep (m : Int)) (V.keep (m : Int)) (n + m) xs ys
  | 0, U, V, n => by simp [keep_zero, show U.keep 0 = U from rfl, show V.keep 0 = V from rfl]
  | m + 1, U, V, n => by
    have e : carT U V n (.k :: (List.replicate m .k ++ xs)) (.k :: (List.replicate m .k ++ ys)) = carT (U.keep 1) (V.keep 1) (n + 1) (List.replicate m .k ++ xs) (List.replicate m .k ++ ys) := by
      unfold carT
      rw [carA, Option.map_map]
      congr 1; funext o
      simp only [Function.comp, toA]
      rw [show n + (toA o.1 + 1) = n + 1 + toA o.1 by omega]; rfl
    rw [List.replicate_succ, List.cons_append, List.cons_append, e, carT_kk xs ys m, keep_succ, keep_succ]
    congr 1; omega
theorem carT_dk (xs ys : List Atm) : ∀ (ds : List UInt8) (U V : Bld) (n : Nat), carT U V n (ds.map .d ++ xs) (List.replicate ds.length .k ++ ys) = carT ⟨U.l, U.p, U.d ++ ds⟩ V n xs ys
  | [], U, V, n => by simp
  | b :: ds, U, V, n => by
    have e : carT U V n (.d b :: (ds.map .d ++ xs)) (.k :: (List.replicate ds.length .k ++ ys)) = carT ⟨U.l, U.p, U.d ++ [b]⟩ V n (ds.map .d ++ xs) (List.replicate ds.length .k ++ ys) := by
      unfold carT
      rw [carA, Option.map_map]
      congr 1
    rw [List.map_cons, List.length_cons, List.replicate_succ, List.cons_append, List.cons_append, e, carT_dk xs ys ds]
    simp
theorem carT_kd (xs ys : List Atm) : ∀ (ds : List UInt8) (U V : Bld) (n : Nat), carT U V n (List.replicate ds.length .k ++ xs) (ds.map .d ++ ys) = carT U ⟨V.l, V.p, V.d ++ ds⟩ n xs ys
  | [], U, V, n => by simp
  | b :: ds, U, V, n => by
    have e : carT U V n (.k :: (List.replicate ds.length .k ++ xs)) (.d b :: (ds.map .d ++ ys)) = carT U ⟨V.l, V.p, V.d ++ [b]⟩ n (List.replicate ds.length .k ++ xs) (ds.map .d ++ ys) := by
      unfold carT
      rw [carA, Option.map_map]
      congr 1
    rw [List.map_cons, List.length_cons, List.replicate_succ, List.cons_append, List.cons_append, e, carT_kd xs ys ds]
    simp
theorem carT_dd (xs ys : List Atm) (U V : Bld) (n : Nat) : ∀ (ds es : List UInt8), ds.length = es.length → carT U V n (ds.map .d ++ xs) (es.map .d ++ ys) = if ds = es then carT U V n xs ys else none
  | [], [], _ => by simp
  | b :: ds, c :: es, h => by
    have e : carT U V n (.d b :: (ds.map .d ++ xs)) (.d c :: (es.map .d ++ ys)) = if b = c then carT U V n (ds.map .d ++ xs) (es.map .d ++ ys) else none := by
      unfold carT
      rw [carA]
      split <;> rfl
    rw [List.map_cons, List.map_cons, List.cons_append, List.cons_append, e, carT_dd xs ys U V n ds es (by simpa using h)]
    by_cases hb : b = c
    · subst hb; simp
    · simp [hb]
  | [], _ :: _, h => by simp at h
  | _ :: _, [], h => by simp at h
theorem carT_nilX (U V : Bld) (n : Nat) (ys : List Atm) (h : notPut ys = true) : carT U V n [] ys = some (U.close.l, V.close.l, n) := by
  unfold carT; rw [carA_nilX _ h]; rfl
theorem carT_nilY (U V : Bld) (n : Nat) (xs : List Atm) (h : notPut xs = true) : carT U V n xs [] = some (U.close.l, V.close.l, n) := by
  unfold carT; rw [carA_nilY _ h]; rfl
/-- the same step by step -/
theorem cst_px {U V : Bld} {n : Nat} {X Y : List Stp} {s : Stp} (hs : stpOk s) (hp : s.p ≠ []) : carT U V n (atomsOf (s :: X)) (atomsOf Y) = carT (U.step s) (V.keep (s.p.length : Int)) (n + s.p.length) (atomsOf X) (atomsOf Y) := by
  rcases step_kinds hs with ⟨h1, h2, h3, e⟩ | ⟨h1, h2, h3, e⟩ | ⟨h1, h2, h3, e⟩
  · exact absurd h3 hp
  · exact absurd h3 hp
  · rw [atoms_cons, e, carT_p]
    congr 1
    unfold Bld.step; rw [if_neg (by omega), if_neg (fun h => h h2)]
theorem cst_py {U V : Bld} {n : Nat} {X Y : List Stp} {t : Stp} (ht : stpOk t) (hp : t.p ≠ []) (hX : ∀ x ∈ X, stpOk x) (hq : ∀ s X', X = s :: X' → s.p = []) : carT U V n (atomsOf X) (atomsOf (t :: Y)) = carT (U.keep (t.p.length : Int)) (V.step t) (n + t.p.length) (atomsOf X) (atomsOf Y) := by
  rcases step_kinds ht with ⟨h1, h2, h3, e⟩ | ⟨h1, h2, h3, e⟩ | ⟨h1, h2, h3, e⟩
  · exact absurd h3 hp
  · exact absurd h3 hp
  · rw [atoms_cons, e, carT_q _ _ (notPut_atoms hX hq)]
    congr 1
    unfold Bld.step; rw [if_neg (by omega), if_neg (fun h => h h2)]
theorem step_k {B : Bld} {s : Stp} (h : 0 < s.k) : B.step s = B.keep s.k := by unfold Bld.step; rw [if_pos h]
theorem step_d {B : Bld} {s : Stp} (h : ¬ 0 < s.k) (h2 : s.d ≠ []) : B.step s = ⟨B.l, B.p, B.d ++ s.d⟩ := by unfold Bld.step; rw [if_neg h, if_pos h2]
theorem cst_both {U V : Bld} {q : Nat} {X Y : List Stp} {s t : Stp} {n : Nat} (hX : ∀ x ∈ s :: X, stpOk x) (hY : ∀ y ∈ t :: Y, stpOk y) (hs0 : s.p = []) (ht0 : t.p = []) (h0 : 0 < n) (hs : n ≤ s.atoms.length) (ht : n ≤ t.atoms.length) :
    carT U V q (atomsOf (s :: X)) (atomsOf (t :: Y)) =
      if 0 < (takeS s n).k ∧ 0 < (takeS t n).k then carT (U.keep (n : Int)) (V.keep (n : Int)) (q + n) (atomsOf (restS s n X)) (atomsOf (restS t n Y))
      else if 0 < (takeS s n).k then carT U (V.step (takeS t n)) q (atomsOf (restS s n X)) (atomsOf (restS t n Y))
      else if 0 < (takeS t n).k then carT (U.step (takeS s n)) V q (atomsOf (restS s n X)) (atomsOf (restS t n Y))
      else if (takeS s n).d = (takeS t n).d then carT U V q (atomsOf (restS s n X)) (atomsOf (restS t n Y)) else none := by
  have a1 := takeS_kind (hX s List.mem_cons_self) h0 hs
  have a2 := takeS_kind (hY t List.mem_cons_self) h0 ht
  have o1 := (takeS_ok (hX s List.mem_cons_self) h0 hs).1
  have o2 := (takeS_ok (hY t List.mem_cons_self) h0 ht).1
  rw [parts_S hX h0 hs, parts_S hY h0 ht]
  generalize takeS s n = s1 at *
  generalize takeS t n = t1 at *
  have p1 : s1.p = [] := a1.2.2.1.2 hs0
  have p2 : t1.p = [] := a2.2.2.1.2 ht0
  have l1 := a1.2.2.2
  have l2 := a2.2.2.2
  rcases step_kinds o1 with ⟨h1, h2, h3, e⟩ | ⟨h1, h2, h3, e⟩ | ⟨h1, h2, h3, e⟩
  · have el : s1.k.toNat = n := by rw [e] at l1; simpa using l1
    rcases step_kinds o2 with ⟨g1, g2, g3, f⟩ | ⟨g1, g2, g3, f⟩ | ⟨g1, g2, g3, f⟩
    · have el2 : t1.k.toNat = n := by rw [f] at l2; simpa using l2
      rw [if_pos ⟨h1, g1⟩, e, f, el, el2, carT_kk]
    · have el2 : t1.d.length = n := by rw [f] at l2; simpa using l2
      rw [if_neg (by omega), if_pos h1, e, f, el, ← el2, carT_kd, step_d (by omega) g2]
    · exact absurd p2 g3
  · have el : s1.d.length = n := by rw [e] at l1; simpa using l1
    rcases step_kinds o2 with ⟨g1, g2, g3, f⟩ | ⟨g1, g2, g3, f⟩ | ⟨g1, g2, g3, f⟩
    · have el2 : t1.k.toNat = n := by rw [f] at l2; simpa using l2
      rw [if_neg (by omega), if_neg (by omega), if_pos g1, e, f, el2, ← el, carT_dk, step_d (by omega) h2]
    · have el2 : t1.d.length = n := by rw [f] at l2; simpa using l2
      rw [if_neg (by omega), if_neg (by omega), if_neg (by omega), e, f, carT_dd _ _ _ _ _ _ _ (by omega)]
    · exact absurd p2 g3
  · exact absurd p1 h3
theorem cst_nilX {U V : Bld} {n : Nat} {Y : List Stp} (hY : ∀ y ∈ Y, stpOk y) (hp : ∀ t Y', Y = t :: Y' → t.p = []) : carT U V n (atomsOf []) (atomsOf Y) = some (U.close.l, V.close.l, n) := carT_nilX _ _ _ _ (notPut_atoms hY hp)
theorem cst_nilY {U V : Bld} {n : Nat} {X : List Stp} (hX : ∀ x ∈ X, stpOk x) (hp : ∀ s X', X = s :: X' → s.p = []) : carT U V n (atomsOf X) (atomsOf []) = some (U.close.l, V.close.l, n) := carT_nilY _ _ _ _ (notPut_atoms hX hp)
/-- what two changes carried over each other come to -/
def carP (a b : List Stp) : Int ⊕ (List Stp × List Stp) := match sizesOf a, sizesOf b with
  | some (from_, _), some (same, _) => if from_ ≠ same then .inl 5 else match carT Bld.start Bld.start 0 (nfOf (gapsOf a)) (nfOf (gapsOf b)) with
    | none => .inl 270
    | some (u, v, n) => if 65536 < n then .inl 3 else .inr (u, v)
  | _, _ => .inl 2
/-- the same place by place, as the reference goes -/
theorem car_pos {U V : Bld} {n : Nat} {x y : Pos} {ps qs : List Pos} {lx ly : List UInt8} :
    carT U V n (sdA (x :: ps) lx) (sdA (y :: qs) ly) = (let U1 := (⟨U.l, U.p ++ x.1, U.d⟩ : Bld).keep (y.1.length : Int)
      let V0 := V.keep (x.1.length : Int)
      let V1 : Bld := ⟨V0.l, V0.p ++ y.1, V0.d⟩
      let n1 := n + x.1.length + y.1.length
      if x.2.1 = true ∧ y.2.1 = true then (if x.2.2 = y.2.2 then carT U1 V1 n1 (sdA ps lx) (sdA qs ly) else none)
      else if x.2.1 = true then carT ⟨U1.l, U1.p, U1.d ++ [x.2.2]⟩ V1 n1 (sdA ps lx) (sdA qs ly)
      else if y.2.1 = true then carT U1 ⟨V1.l, V1.p, V1.d ++ [y.2.2]⟩ n1 (sdA ps lx) (sdA qs ly)
      else carT (U1.keep 1) (V1.keep 1) (n1 + 1) (sdA ps lx) (sdA qs ly)) := by
  simp only []
  have hnp : notPut ((if x.2.1 then .d x.2.2 else .k) :: sdA ps lx) = true := by cases x.2.1 <;> rfl
  rw [sdA_cons, sdA_cons, carT_p, carT_q _ _ hnp]
  cases hx : x.2.1 <;> cases hy : y.2.1 <;> simp only [Bool.false_eq_true, if_false, if_true, and_self, and_false, false_and, and_true]
  · exact carT_kk (sdA ps lx) (sdA qs ly) 1 _ _ _
  · exact carT_kd (sdA ps lx) (sdA qs ly) [y.2.2] _ _ _
  · exact carT_dk (sdA ps lx) (sdA qs ly) [x.2.2] _ _ _
  · have := carT_dd (sdA ps lx) (sdA qs ly) ((⟨U.l, U.p ++ x.1, U.d⟩ : Bld).keep (y.1.length : Int)) ⟨(V.keep (x.1.length : Int)).l, (V.keep (x.1.length : Int)).p ++ y.1, (V.keep (x.1.length : Int)).d⟩ (n + x.1.length + y.1.length) [x.2.2] [y.2.2] rfl
    simpa using this
theorem car_last {U V : Bld} {n : Nat} {lx ly : List UInt8} :
    carT U V n (sdA [] lx) (sdA [] ly) = (let U1 := (⟨U.l, U.p ++ lx, U.d⟩ : Bld).keep (ly.length : Int)
      let V0 := V.keep (lx.length : Int)
      some (U1.close.l, (⟨V0.l, V0.p ++ ly, V0.d⟩ : Bld).close.l, n + lx.length + ly.length)) := by
  simp only []
  rw [sdA_nil, sdA_nil]
  have h1 := carT_p [] (ly.map .p) lx U V n
  have h2 := fun U V n => carT_q [] [] rfl ly U V n
  rw [List.append_nil] at h1
  simp only [List.append_nil] at h2
  rw [h1, h2, carT_nilX _ _ _ _ rfl]
end Go.Eng

/-
  Plain facts on changes: carried over each other they come to one text; one behind the other the same. No condition.
-/
namespace Go.Eng
open Go
/-- carried over each other, two changes of one text come to one text -/
theorem conv_car : ∀ (A B : List Atm) (s t u : List UInt8), applyA s A = some t → applyA s B = some u → fromA A = s.length → fromA B = s.length →
    ∃ O U v, carA A B = some (O, U) ∧ applyA t U = some v ∧ applyA u O = some v ∧ fromA U = t.length ∧ fromA O = u.length ∧ toA O = v.length ∧ toA U = v.length ∧ v.length ≤ t.length + u.length
  | .p b :: A, B, s, t, u, h1, h2, h3, h4 => by
    rw [applyA_p] at h1
    obtain ⟨t', h1', rfl⟩ := Option.map_eq_some_iff.1 h1
    obtain ⟨O, U, v, e1, e2, e3, e4, e5, e6, e7, e8⟩ := conv_car A B s t' u h1' h2 (by simpa [fromA] using h3) h4
    refine ⟨.p b :: O, .k :: U, b :: v, by rw [carA_px, e1]; rfl, by rw [applyA, e2]; rfl, by rw [applyA_p, e3]; rfl, ?_, ?_, ?_, ?_, ?_⟩ <;> (try simp only [fromA, toA, List.length_cons]) <;> omega
  | .k :: A, .p b :: B, s, t, u, h1, h2, h3, h4 => by
    rw [applyA_p] at h2
    obtain ⟨u', h2', rfl⟩ := Option.map_eq_some_iff.1 h2
    obtain ⟨O, U, v, e1, e2, e3, e4, e5, e6, e7, e8⟩ := conv_car (.k :: A) B s t u' h1 h2' h3 (by simpa [fromA] using h4)
    refine ⟨.k :: O, .p b :: U, b :: v, by rw [carA_py _ _ _ rfl, e1]; rfl, by rw [applyA_p, e2]; rfl, by rw [applyA, e3]; rfl, ?_, ?_, ?_, ?_, ?_⟩ <;> (try simp only [fromA, toA, List.length_cons]) <;> omega
  | .d c :: A, .p b :: B, s, t, u, h1, h2, h3, h4 => by
    rw [applyA_p] at h2
    obtain ⟨u', h2', rfl⟩ := Option.map_eq_some_iff.1 h2
    obtain ⟨O, U, v, e1, e2, e3, e4, e5, e6, e7, e8⟩ := conv_car (.d c :: A) B s t u' h1 h2' h3 (by simpa [fromA] using h4)
    refine ⟨.k :: O, .p b :: U, b :: v, by rw [carA_py _ _ _ rfl, e1]; rfl, by rw [applyA_p, e2]; rfl, by rw [applyA, e3]; rfl, ?_, ?_, ?_, ?_, ?_⟩ <;> (try simp only [fromA, toA, List.length_cons]) <;> omega
  | [], .p b :: B, s, t, u, h1, h2, h3, h4 => by
    rw [applyA_p] at h2
    obtain ⟨u', h2', rfl⟩ := Option.map_eq_some_iff.1 h2
    obtain ⟨O, U, v, e1, e2, e3, e4, e5, e6, e7, e8⟩ := conv_car [] B s t u' h1 h2' h3 (by simpa [fromA] using h4)
    refine ⟨.k :: O, .p b :: U, b :: v, by rw [carA_py _ _ _ rfl, e1]; rfl, by rw [applyA_p, e2]; rfl, by rw [applyA, e3]; rfl, ?_, ?_, ?_, ?_, ?_⟩ <;> (try simp only [fromA, toA, List.length_cons]) <;> omega
  | .k :: A, .k :: B, [], t, u, h1, h2, h3, h4 => by simp [fromA] at h3
  | .k :: A, .k :: B, c :: s, t, u, h1, h2, h3, h4 => by
    rw [applyA] at h1
    rw [applyA] at h2
    obtain ⟨t', h1', rfl⟩ := Option.map_eq_some_iff.1 h1
    obtain ⟨u', h2', rfl⟩ := Option.map_eq_some_iff.1 h2
    obtain ⟨O, U, v, e1, e2, e3, e4, e5, e6, e7, e8⟩ := conv_car A B s t' u' h1' h2' (by simpa [fromA] using h3) (by simpa [fromA] using h4)
    refine ⟨.k :: O, .k :: U, c :: v, by rw [carA, e1]; rfl, by rw [applyA, e2]; rfl, by rw [applyA, e3]; rfl, ?_, ?_, ?_, ?_, ?_⟩ <;> (try simp only [fromA, toA, List.length_cons]) <;> omega
  | .d b :: A, .k :: B, [], t, u, h1, h2, h3, h4 => by simp [fromA] at h3
  | .d b :: A, .k :: B, c :: s, t, u, h1, h2, h3, h4 => by
    rw [applyA] at h1
    rw [applyA] at h2
    split at h1
    · rename_i hcb
      subst hcb
      obtain ⟨u', h2', rfl⟩ := Option.map_eq_some_iff.1 h2
      obtain ⟨O, U, v, e1, e2, e3, e4, e5, e6, e7, e8⟩ := conv_car A B s t u' h1 h2' (by simpa [fromA] using h3) (by simpa [fromA] using h4)
      refine ⟨.d c :: O, U, v, by rw [carA, e1]; rfl, e2, by rw [applyA, if_pos rfl]; exact e3, ?_, ?_, ?_, ?_, ?_⟩ <;> (try simp only [fromA, toA, List.length_cons]) <;> omega
    · cases h1
  | .k :: A, .d b :: B, [], t, u, h1, h2, h3, h4 => by simp [fromA] at h3
  | .k :: A, .d b :: B, c :: s, t, u, h1, h2, h3, h4 => by
    rw [applyA] at h1
    rw [applyA] at h2
    split at h2
    · rename_i hcb
      subst hcb
      obtain ⟨t', h1', rfl⟩ := Option.map_eq_some_iff.1 h1
      obtain ⟨O, U, v, e1, e2, e3, e4, e5, e6, e7, e8⟩ := conv_car A B s t' u h1' h2 (by simpa [fromA] using h3) (by simpa [fromA] using h4)
      refine ⟨O, .d c :: U, v, by rw [carA, e1]; rfl, by rw [applyA, if_pos rfl]; exact e2, e3, ?_, ?_, ?_, ?_, ?_⟩ <;> (try simp only [fromA, toA, List.length_cons]) <;> omega
    · cases h2
  | .d b :: A, .d b' :: B, [], t, u, h1, h2, h3, h4 => by simp [fromA] at h3
  | .d b :: A, .d b' :: B, c :: s, t, u, h1, h2, h3, h4 => by
    rw [applyA] at h1
    rw [applyA] at h2
    split at h1
    · split at h2
      · rename_i g1 g2
        subst g1; subst g2
        obtain ⟨O, U, v, e1, e2, e3, e4, e5, e6, e7, e8⟩ := conv_car A B s t u h1 h2 (by simpa [fromA] using h3) (by simpa [fromA] using h4)
        exact ⟨O, U, v, by rw [carA, if_pos rfl]; exact e1, e2, e3, e4, e5, e6, e7, e8⟩
      · cases h2
    · cases h1
  | [], [], s, t, u, h1, h2, h3, h4 => by
    rw [applyA_nil] at h1 h2
    cases h1; cases h2
    exact ⟨[], [], [], by rw [carA], rfl, rfl, rfl, rfl, rfl, rfl, Nat.zero_le _⟩
  | [], .k :: B, s, t, u, h1, h2, h3, h4 => by simp only [fromA] at h3 h4; omega
  | [], .d _ :: B, s, t, u, h1, h2, h3, h4 => by simp only [fromA] at h3 h4; omega
  | .k :: A, [], s, t, u, h1, h2, h3, h4 => by simp only [fromA] at h3 h4; omega
  | .d _ :: A, [], s, t, u, h1, h2, h3, h4 => by simp only [fromA] at h3 h4; omega
termination_by A B => A.length + B.length
/-- one behind the other -/
theorem conv_comp : ∀ (A B : List Atm) (s t v : List UInt8), applyA s A = some t → applyA t B = some v → fromA A = s.length → fromA B = t.length →
    ∃ C, compA A B = some C ∧ applyA s C = some v ∧ fromA C = s.length ∧ toA C = v.length
  | A, .p b :: B, s, t, v, h1, h2, h3, h4 => by
    rw [applyA_p] at h2
    obtain ⟨v', h2', rfl⟩ := Option.map_eq_some_iff.1 h2
    obtain ⟨C, e1, e2, e3, e4⟩ := conv_comp A B s t v' h1 h2' h3 (by simpa [fromA] using h4)
    exact ⟨.p b :: C, by rw [compA_p, e1]; rfl, by rw [applyA_p, e2]; rfl, by simpa [fromA] using e3, by simp [toA, e4]⟩
  | .d b :: A, .k :: B, [], t, v, h1, h2, h3, h4 => by simp [fromA] at h3
  | .d b :: A, .k :: B, c :: s, t, v, h1, h2, h3, h4 => by
    rw [applyA] at h1
    split at h1
    · rename_i g
      subst g
      obtain ⟨C, e1, e2, e3, e4⟩ := conv_comp A (.k :: B) s t v h1 h2 (by simpa [fromA] using h3) h4
      exact ⟨.d c :: C, by rw [compA_d _ _ _ rfl, e1]; rfl, by rw [applyA, if_pos rfl]; exact e2, by simp [fromA, e3], by simpa [toA] using e4⟩
    · cases h1
  | .d b :: A, .d b' :: B, [], t, v, h1, h2, h3, h4 => by simp [fromA] at h3
  | .d b :: A, .d b' :: B, c :: s, t, v, h1, h2, h3, h4 => by
    rw [applyA] at h1
    split at h1
    · rename_i g
      subst g
      obtain ⟨C, e1, e2, e3, e4⟩ := conv_comp A (.d b' :: B) s t v h1 h2 (by simpa [fromA] using h3) h4
      exact ⟨.d c :: C, by rw [compA_d _ _ _ rfl, e1]; rfl, by rw [applyA, if_pos rfl]; exact e2, by simp [fromA, e3], by simpa [toA] using e4⟩
    · cases h1
  | .d b :: A, [], [], t, v, h1, h2, h3, h4 => by simp [fromA] at h3
  | .d b :: A, [], c :: s, t, v, h1, h2, h3, h4 => by
    rw [applyA] at h1
    split at h1
    · rename_i g
      subst g
      obtain ⟨C, e1, e2, e3, e4⟩ := conv_comp A [] s t v h1 h2 (by simpa [fromA] using h3) h4
      exact ⟨.d c :: C, by rw [compA_d _ _ _ rfl, e1]; rfl, by rw [applyA, if_pos rfl]; exact e2, by simp [fromA, e3], by simpa [toA] using e4⟩
    · cases h1
  | .k :: A, .k :: B, [], t, v, h1, h2, h3, h4 => by simp [fromA] at h3
  | .k :: A, .k :: B, c :: s, t, v, h1, h2, h3, h4 => by
    rw [applyA] at h1
    obtain ⟨t', h1', rfl⟩ := Option.map_eq_some_iff.1 h1
    rw [applyA] at h2
    obtain ⟨v', h2', rfl⟩ := Option.map_eq_some_iff.1 h2
    obtain ⟨C, e1, e2, e3, e4⟩ := conv_comp A B s t' v' h1' h2' (by simpa [fromA] using h3) (by simpa [fromA] using h4)
    exact ⟨.k :: C, by rw [compA, e1]; rfl, by rw [applyA, e2]; rfl, by simp [fromA, e3], by simp [toA, e4]⟩
  | .k :: A, .d b :: B, [], t, v, h1, h2, h3, h4 => by simp [fromA] at h3
  | .k :: A, .d b :: B, c :: s, t, v, h1, h2, h3, h4 => by
    rw [applyA] at h1
    obtain ⟨t', h1', rfl⟩ := Option.map_eq_some_iff.1 h1
    rw [applyA] at h2
    split at h2
    · rename_i g
      subst g
      obtain ⟨C, e1, e2, e3, e4⟩ := conv_comp A B s t' v h1' h2 (by simpa [fromA] using h3) (by simpa [fromA] using h4)
      exact ⟨.d c :: C, by rw [compA, e1]; rfl, by rw [applyA, if_pos rfl]; exact e2, by simp [fromA, e3], by simpa [toA] using e4⟩
    · cases h2
  | .p b :: A, .k :: B, s, t, v, h1, h2, h3, h4 => by
    rw [applyA_p] at h1
    obtain ⟨t', h1', rfl⟩ := Option.map_eq_some_iff.1 h1
    rw [applyA] at h2
    obtain ⟨v', h2', rfl⟩ := Option.map_eq_some_iff.1 h2
    obtain ⟨C, e1, e2, e3, e4⟩ := conv_comp A B s t' v' h1' h2' (by simpa [fromA] using h3) (by simpa [fromA] using h4)
    exact ⟨.p b :: C, by rw [compA, e1]; rfl, by rw [applyA_p, e2]; rfl, by simpa [fromA] using e3, by simp [toA, e4]⟩
  | .p b :: A, .d c :: B, s, t, v, h1, h2, h3, h4 => by
    rw [applyA_p] at h1
    obtain ⟨t', h1', rfl⟩ := Option.map_eq_some_iff.1 h1
    rw [applyA] at h2
    split at h2
    · rename_i g
      subst g
      obtain ⟨C, e1, e2, e3, e4⟩ := conv_comp A B s t' v h1' h2 (by simpa [fromA] using h3) (by simpa [fromA] using h4)
      exact ⟨C, by rw [compA, if_pos rfl]; exact e1, e2, e3, e4⟩
    · cases h2
  | [], [], s, t, v, h1, h2, h3, h4 => by
    rw [applyA_nil] at h1
    cases h1
    rw [applyA_nil] at h2
    cases h2
    exact ⟨[], by rw [compA], applyA_nil _, h3, rfl⟩
  | [], .k :: B, s, t, v, h1, h2, h3, h4 => by
    rw [applyA_nil] at h1
    cases h1
    simp [fromA] at h4
  | [], .d _ :: B, s, t, v, h1, h2, h3, h4 => by
    rw [applyA_nil] at h1
    cases h1
    simp [fromA] at h4
  | .k :: A, [], [], t, v, h1, h2, h3, h4 => by simp [fromA] at h3
  | .k :: A, [], c :: s, t, v, h1, h2, h3, h4 => by
    rw [applyA] at h1
    obtain ⟨t', h1', rfl⟩ := Option.map_eq_some_iff.1 h1
    simp [fromA] at h4
  | .p b :: A, [], s, t, v, h1, h2, h3, h4 => by
    rw [applyA_p] at h1
    obtain ⟨t', h1', rfl⟩ := Option.map_eq_some_iff.1 h1
    simp [fromA] at h4
termination_by A B => A.length + B.length
/-- what a change makes does not depend on the order of what is put and dropped -/
theorem apply_congr (X Y : List Atm) (h : ∀ s, applyA s X = applyA s Y) : ∀ (pre : List Atm) (s : List UInt8), applyA s (pre ++ X) = applyA s (pre ++ Y)
  | [], s => h s
  | .p b :: pre, s => by rw [List.cons_append, List.cons_append, applyA_p, applyA_p, apply_congr X Y h pre s]
  | .k :: pre, [] => rfl
  | .k :: pre, c :: s => by rw [List.cons_append, List.cons_append, applyA, applyA, apply_congr X Y h pre s]
  | .d b :: pre, [] => rfl
  | .d b :: pre, c :: s => by rw [List.cons_append, List.cons_append, applyA, applyA, apply_congr X Y h pre s]
theorem applyA_dc (c b : UInt8) (s : List UInt8) (l : List Atm) : applyA (c :: s) (.d b :: l) = if c = b then applyA s l else none := rfl
theorem apply_swap (c : UInt8) (L : List Atm) : ∀ (ds s : List UInt8), applyA s (ds.map .d ++ .p c :: L) = applyA s (.p c :: (ds.map .d ++ L))
  | [], s => rfl
  | b :: ds, [] => by rw [applyA_p]; rfl
  | b :: ds, e :: s => by
    rw [List.map_cons, List.cons_append, List.cons_append, applyA_dc, apply_swap c L ds s, applyA_p, applyA_p, applyA_dc]
    split <;> rfl
theorem apply_atom (g : Gs) (a : Atm) (L : List Atm) (s : List UInt8) : applyA s (nfOf (g.atom a) ++ L) = applyA s (nfOf g ++ a :: L) := by
  cases a with
  | k => simp [Gs.atom, nfOf, gapA]
  | d c => simp [Gs.atom, nfOf, gapA]
  | p c =>
    simp only [Gs.atom, nfOf, gapA, List.map_append, List.map_cons, List.map_nil, List.append_assoc, List.cons_append, List.nil_append]
    rw [← List.append_assoc, ← List.append_assoc (g.done.flatMap _)]
    exact apply_congr _ _ (fun s => (apply_swap c L g.cur.d s).symm) _ s
theorem apply_run : ∀ (L : List Atm) (g : Gs) (s : List UInt8), applyA s (nfOf (g.run L)) = applyA s (nfOf g ++ L)
  | [], g, s => by rw [List.append_nil]; rfl
  | a :: L, g, s => by
    rw [show g.run (a :: L) = (g.atom a).run L from rfl, apply_run L (g.atom a) s, apply_atom]
theorem apply_start (L : List Atm) (s : List UInt8) : applyA s (nfOf (Gs.start.run L)) = applyA s L := apply_run L Gs.start s
theorem apply_nf (l : List Stp) (h : ∀ s ∈ l, stpOk s) (s : List UInt8) : applyA s (nfOf (gapsOf l)) = applyA s (atomsOf l) := by rw [gapsOf_run l h, apply_start]
/-- the builder over bytes is the builder over gaps -/
theorem bld_atom (g : Gs) (a : Atm) : (bldGs g).atom a = bldGs (g.atom a) := by
  cases a with
  | k => simp [Bld.atom, bldGs, Gs.atom, bldGap]
  | d c => simp [Bld.atom, bldGs, Gs.atom]
  | p c => simp [Bld.atom, bldGs, Gs.atom]
theorem bld_run : ∀ (L : List Atm) (g : Gs), (bldGs g).run L = bldGs (g.run L)
  | [], _ => rfl
  | a :: L, g => by
    rw [show g.run (a :: L) = (g.atom a).run L from rfl, ← bld_run L (g.atom a), ← bld_atom]; rfl
theorem start_run (L : List Atm) : Bld.start.run L = bldGs (Gs.start.run L) := bld_run L Gs.start
/-- the list that a builder makes of bytes -/
def listOf (L : List Atm) : List Stp := (Bld.start.run L).close.l
theorem list_ok (L : List Atm) : (∀ s ∈ listOf L, stpOk s) ∧ atomsOf (listOf L) = nfOf (Gs.start.run L) := by
  unfold listOf
  rw [start_run]
  exact ⟨close_ok _ (bldGs_atoms _).2, by rw [close_atoms, (bldGs_atoms _).1]⟩
theorem run_nf (g : Gs) : Gs.start.run (nfOf g) = g := by
  have h : ∀ (l : List Gap) (D : List Gap), (⟨D, ⟨[], []⟩⟩ : Gs).run (l.flatMap fun x => gapA x ++ [.k]) = ⟨D ++ l, ⟨[], []⟩⟩ := by
    intro l
    induction l with
    | nil => intro D; simp [Gs.run]
    | cons x l ih =>
      intro D
      rw [List.flatMap_cons, grun_append, grun_append, gapA, grun_append, grun_p, grun_d]
      have : (⟨D, ⟨[] ++ x.p, [] ++ x.d⟩⟩ : Gs).run [.k] = ⟨D ++ [x], ⟨[], []⟩⟩ := by simp [Gs.run, Gs.atom]
      rw [this, ih]; simp
  obtain ⟨D, c⟩ := g
  unfold nfOf
  rw [grun_append, show Gs.start = ⟨[], ⟨[], []⟩⟩ from rfl, h, gapA, grun_append, grun_p, grun_d]
  simp
theorem list_gaps (L : List Atm) : gapsOf (listOf L) = Gs.start.run L := by
  rw [gapsOf_run _ (list_ok L).1, (list_ok L).2, run_nf]
theorem list_sizes (L : List Atm) : fromA (atomsOf (listOf L)) = fromA L ∧ toA (atomsOf (listOf L)) = toA L := by
  obtain ⟨h1, h2⟩ := nf_run L Gs.start
  rw [(list_ok L).2, h1, h2]
  simp [Gs.start, nfOf, gapA, fromA, toA]
theorem plain_list (l : List Stp) : plainOf l = listOf (nfOf (gapsOf l)) := plain_run l
/-- sizes of a change that may be, the other way round -/
theorem sizesF_of : ∀ (l : List Stp) (f t : Int), (∀ s ∈ l, stpOk s) → 0 ≤ f → 0 ≤ t → f + (fromA (atomsOf l) : Int) ≤ maxT → t + (toA (atomsOf l) : Int) ≤ maxT → sizesF l f t = some (f + (fromA (atomsOf l) : Int), t + (toA (atomsOf l) : Int))
  | [], f, t, _, _, _, _, _ => by simp [sizesF, atomsOf, fromA, toA]
  | s :: l, f, t, h, h1, h2, h3, h4 => by
    have hs := h s List.mem_cons_self
    have hk : 0 ≤ s.k := by rcases hs with ⟨h, _, _⟩ | ⟨h, _, _⟩ | ⟨h, _, _⟩ <;> omega
    rw [atoms_cons] at h3 h4 ⊢
    rw [fromA_append, from_step] at h3 ⊢
    rw [toA_append, to_step] at h4 ⊢
    rw [sizesF, if_pos ⟨hs, by omega, by omega, by omega⟩, sizesF_of l _ _ (fun x hx => h x (List.mem_cons_of_mem _ hx)) (by omega) (by omega) (by omega) (by omega)]
    simp only [Option.some.injEq, Prod.mk.injEq]
    omega
theorem sizesOf_of {l : List Stp} (h : ∀ s ∈ l, stpOk s) (h1 : fromA (atomsOf l) ≤ 65536) (h2 : toA (atomsOf l) ≤ 65536) : sizesOf l = some ((fromA (atomsOf l) : Int), (toA (atomsOf l) : Int)) := by
  unfold sizesOf
  rw [sizesF_of l 0 0 h (by omega) (by omega) (by unfold maxT; omega) (by unfold maxT; omega)]
  simp
theorem sizes_list (L : List Atm) (h1 : fromA L ≤ 65536) (h2 : toA L ≤ 65536) : sizesOf (listOf L) = some ((fromA L : Int), (toA L : Int)) := by
  obtain ⟨e1, e2⟩ := list_sizes L
  rw [sizesOf_of (list_ok L).1 (by omega) (by omega), e1, e2]
theorem apply_list (L : List Atm) (s : List UInt8) : applyA s (atomsOf (listOf L)) = applyA s L := by rw [(list_ok L).2, apply_start]
/-- how many bytes a change makes of a text -/
theorem apply_len : ∀ (A : List Atm) (s t : List UInt8), applyA s A = some t → t.length = toA A
  | [], s, t, h => by rw [applyA_nil] at h; cases h; rfl
  | .p b :: A, s, t, h => by
    rw [applyA_p] at h
    obtain ⟨t', h', rfl⟩ := Option.map_eq_some_iff.1 h
    simp [toA, apply_len A s t' h']
  | .k :: A, [], t, h => by cases h
  | .k :: A, c :: s, t, h => by
    rw [applyA] at h
    obtain ⟨t', h', rfl⟩ := Option.map_eq_some_iff.1 h
    simp [toA, apply_len A s t' h']
  | .d b :: A, [], t, h => by cases h
  | .d b :: A, c :: s, t, h => by
    rw [applyA] at h
    split at h
    · simpa [toA] using apply_len A s t h
    · cases h
end Go.Eng

/-
  The walk of the program's Compose: two changes, one behind the other. No condition.
-/
namespace Go.Eng
open Go Go.RowKit
def nowS : List Stp → Stp
  | [] => ⟨0, [], []⟩
  | s :: _ => s
/-- what two changes come to, one behind the other -/
def comP (a b : List Stp) : Int ⊕ List Stp := match sizesOf a, sizesOf b with
  | some (_, mid), some (from_, _) => if mid ≠ from_ then .inl 5 else match cmpT Bld.start (nfOf (gapsOf a)) (nfOf (gapsOf b)) with
    | none => .inl 270
    | some l => .inr l
  | _, _ => .inl 2
def ListP (T : TypeId) (r : Int ⊕ List Stp) (k : IntKind) (m : Mem) (H : SHeap) : Value → Mem → SHeap → Prop := fun v m' H' => m' = m ∧ match r with
  | .inl e => v = .tuple #[.slice none 0 0, .int k e] ∧ H' = H
  | .inr l => ∃ c cp, v = .tuple #[.slice c l.length cp, .int k 0] ∧ H' = .row c cp T 3 (l.map Stp.cs) :: H
theorem Out.mem {i : Item} {H H' : SHeap} (h : Out i H H') : i ∈ H := h.perm.mem_iff.2 List.mem_cons_self
section
variable {P : Program} {ro : Option Nat} {n : Nat} {w0 : World} {Q : Exit → Act → World → Prop} {r : Env} {ds : List Nat} {m : Mem} {H : SHeap}
theorem WC.strm {c : Code} {a : Option Addr} {cap : Nat} {T : TypeId} {X : List Stp} (hm : Item.row a cap T 3 (X.map Stp.cs) ∈ H) (hok : ∀ s ∈ X, stpOk s) (h : Strm a cap a [] X → WC P ro n w0 c Q r ds m H) : WC P ro n w0 c Q r ds m H := by
  intro tmps w ho hs
  refine h ⟨fun hne => ?_, ?_, hok⟩ tmps w ho hs
  · obtain ⟨a0, rfl⟩ := RowR.some (RowR.row hm) hs (by rw [List.length_map]; exact List.length_pos_iff.2 hne)
    refine ⟨a0, rfl, ?_⟩
    simp [Go.Addr.add]
  · have := row_cap hs hm
    rwa [List.length_map] at this
end
end Go.Eng
namespace Go.Proofs.Ytelgegefmjlimaa
open Go Go.Eng
set_option maxRecDepth 100000
set_option maxHeartbeats 4000000
set_option linter.all false
attribute [local irreducible] WL WC WQ QFun QLoop Does Q1 QRound QAssign Go.Addr.add
attribute [local irreducible] sizesF sizesOf cmpT
theorem now_any {a1 : Option Addr} {c1 x cr : Nat} {ar : Option Addr} {pre : List (List Value)} {X : List Stp} (h : Strm a1 c1 ar pre X) {w0 : World} {m : Mem} {H H1 H2 : SHeap}
    (o1 : Out (.blk x (.cells [.slice a1 X.length c1].toArray 96 (0, 0))) H H1) (o2 : Out (.row ar cr 59 3 (pre ++ X.map Stp.cs)) H1 H2) :
    Does Try.prog 44 #[.pointer (some ⟨x, 0, none⟩)] w0 m H (Gives (.tuple #[.agg #[.int .i64 (nowS X).k, str (nowS X).d, str (nowS X).p], .bool (!X.isEmpty)]) m H) := by
  cases X with
  | nil => exact now_nil rfl o1.mem
  | cons s X => exact now_cons h o1 o2
theorem sq_E15_1 {G : Prop} (h : G := by (repeat (first | (refine sp ?_; (repeat intro zzc)) | (refine iF 40 rfl ?_; refine w_callG Try.func40 ?_ (hs := sizes_any (by assumption) _ _ _ (by assumption))) | (refine iF 47 rfl ?_; refine w_callG Try.func47 ?_ (hs := size_any (by assumption) (by omega) _ _ _)))); exact WQ.q1 rfl) : G := h
theorem st_E15_1 {G G' : Prop} (next : G') (h : Bx G' → G := by intro zzn; (first | ((refine st ?_; (repeat intro zzc)); (try ((first | (refine iF 40 rfl ?_; refine w_callG Try.func40 ?_ (hs := sizes_any (by assumption) _ _ _ (by assumption))) | (refine iF 47 rfl ?_; refine w_callG Try.func47 ?_ (hs := size_any (by assumption) (by omega) _ _ _)) | ((refine iDraw ?_; (first | refine WC.drawAll rfl (by decide +kernel) ?_ | refine WC.draw 1 rfl (by decide +kernel) ?_ | refine WC.draw 2 rfl (by decide +kernel) ?_ | refine WC.draw 3 rfl (by decide +kernel) ?_ | refine WC.draw 4 rfl (by decide +kernel) ?_ | refine WC.draw 5 rfl (by decide +kernel) ?_ | refine WC.draw 6 rfl (by decide +kernel) ?_ | refine WC.draw 7 rfl (by decide +kernel) ?_ | refine WC.draw 8 rfl (by decide +kernel) ?_ | refine WC.draw 9 rfl (by decide +kernel) ?_ | refine WC.draw 10 rfl (by decide +kernel) ?_ | refine WC.draw 11 rfl (by decide +kernel) ?_ | refine WC.draw 12 rfl (by decide +kernel) ?_ | refine WC.draw 13 rfl (by decide +kernel) ?_ | refine WC.draw 14 rfl (by decide +kernel) ?_ | refine WC.draw 15 rfl (by decide +kernel) ?_ | refine WC.draw 16 rfl (by decide +kernel) ?_ | refine WC.draw 17 rfl (by decide +kernel) ?_ | refine WC.draw 18 rfl (by decide +kernel) ?_ | refine WC.draw 19 rfl (by decide +kernel) ?_ | refine WC.draw 20 rfl (by decide +kernel) ?_ | refine WC.draw 21 rfl (by decide +kernel) ?_ | refine WC.draw 22 rfl (by decide +kernel) ?_ | refine WC.draw 23 rfl (by decide +kernel) ?_ | refine WC.draw 24 rfl (by decide +kernel) ?_)); (repeat (refine WD.cons rfl (fun c h => by cases h) sq_E15_1 ?_)); refine WD.nil ?_)); (try (refine st ?_; (repeat intro zzc)))))) | ((first | (refine iF 40 rfl ?_; refine w_callG Try.func40 ?_ (hs := sizes_any (by assumption) _ _ _ (by assumption))) | (refine iF 47 rfl ?_; refine w_callG Try.func47 ?_ (hs := size_any (by assumption) (by omega) _ _ _)) | ((refine iDraw ?_; (first | refine WC.drawAll rfl (by decide +kernel) ?_ | refine WC.draw 1 rfl (by decide +kernel) ?_ | refine WC.draw 2 rfl (by decide +kernel) ?_ | refine WC.draw 3 rfl (by decide +kernel) ?_ | refine WC.draw 4 rfl (by decide +kernel) ?_ | refine WC.draw 5 rfl (by decide +kernel) ?_ | refine WC.draw 6 rfl (by decide +kernel) ?_ | refine WC.draw 7 rfl (by decide +kernel) ?_ | refine WC.draw 8 rfl (by decide +kernel) ?_ | refine WC.draw 9 rfl (by decide +kernel) ?_ | refine WC.draw 10 rfl (by decide +kernel) ?_ | refine WC.draw 11 rfl (by decide +kernel) ?_ | refine WC.draw 12 rfl (by decide +kernel) ?_ | refine WC.draw 13 rfl (by decide +kernel) ?_ | refine WC.draw 14 rfl (by decide +kernel) ?_ | refine WC.draw 15 rfl (by decide +kernel) ?_ | refine WC.draw 16 rfl (by decide +kernel) ?_ | refine WC.draw 17 rfl (by decide +kernel) ?_ | refine WC.draw 18 rfl (by decide +kernel) ?_ | refine WC.draw 19 rfl (by decide +kernel) ?_ | refine WC.draw 20 rfl (by decide +kernel) ?_ | refine WC.draw 21 rfl (by decide +kernel) ?_ | refine WC.draw 22 rfl (by decide +kernel) ?_ | refine WC.draw 23 rfl (by decide +kernel) ?_ | refine WC.draw 24 rfl (by decide +kernel) ?_)); (repeat (refine WD.cons rfl (fun c h => by cases h) sq_E15_1 ?_)); refine WD.nil ?_)); (try (refine st ?_; (repeat intro zzc))))); (repeat ((first | (refine iF 40 rfl ?_; refine w_callG Try.func40 ?_ (hs := sizes_any (by assumption) _ _ _ (by assumption))) | (refine iF 47 rfl ?_; refine w_callG Try.func47 ?_ (hs := size_any (by assumption) (by omega) _ _ _)) | ((refine iDraw ?_; (first | refine WC.drawAll rfl (by decide +kernel) ?_ | refine WC.draw 1 rfl (by decide +kernel) ?_ | refine WC.draw 2 rfl (by decide +kernel) ?_ | refine WC.draw 3 rfl (by decide +kernel) ?_ | refine WC.draw 4 rfl (by decide +kernel) ?_ | refine WC.draw 5 rfl (by decide +kernel) ?_ | refine WC.draw 6 rfl (by decide +kernel) ?_ | refine WC.draw 7 rfl (by decide +kernel) ?_ | refine WC.draw 8 rfl (by decide +kernel) ?_ | refine WC.draw 9 rfl (by decide +kernel) ?_ | refine WC.draw 10 rfl (by decide +kernel) ?_ | refine WC.draw 11 rfl (by decide +kernel) ?_ | refine WC.draw 12 rfl (by decide +kernel) ?_ | refine WC.draw 13 rfl (by decide +kernel) ?_ | refine WC.draw 14 rfl (by decide +kernel) ?_ | refine WC.draw 15 rfl (by decide +kernel) ?_ | refine WC.draw 16 rfl (by decide +kernel) ?_ | refine WC.draw 17 rfl (by decide +kernel) ?_ | refine WC.draw 18 rfl (by decide +kernel) ?_ | refine WC.draw 19 rfl (by decide +kernel) ?_ | refine WC.draw 20 rfl (by decide +kernel) ?_ | refine WC.draw 21 rfl (by decide +kernel) ?_ | refine WC.draw 22 rfl (by decide +kernel) ?_ | refine WC.draw 23 rfl (by decide +kernel) ?_ | refine WC.draw 24 rfl (by decide +kernel) ?_)); (repeat (refine WD.cons rfl (fun c h => by cases h) sq_E15_1 ?_)); refine WD.nil ?_)); (try (refine st ?_; (repeat intro zzc))))); (repeat revert zzc); exact zzn.out) : G := h ⟨next⟩
theorem compose_any {pa pb : Option Addr} {ca cb : Nat} {a b : List Stp} (hfa : Fit a) (hfb : Fit b) (w0 : World) (m : Mem) (H : SHeap) (hra : RowR w0 m H 3 pa (a.map Stp.cs)) (hrb : RowR w0 m H 3 pb (b.map Stp.cs)) :
    Does Try.prog 17 #[.slice pa a.length ca, .slice pb b.length cb] w0 m H (ListP 59 (comP a b) .i64 m H) := by
  refine Does.of_body (args := [.slice pa a.length ca, .slice pb b.length cb]) Try.func17 rfl Try.ntmps17 rfl ?_
  cases hsa : sizesOf a with
  | none =>
    have e : comP a b = .inl 2 := by simp only [comP, hsa]
    have e2 : szP (sizesOf a) = .tuple #[.int .i64 0, .int .i64 0, .int .i64 2] := by rw [hsa]; rfl
    rw [e]
    (try (refine st_E15_1 ?_; intros))
    rw [e2]
    cases hsb : sizesOf b with
    | none =>
      have e3 : szP (sizesOf b) = .tuple #[.int .i64 0, .int .i64 0, .int .i64 2] := by rw [hsb]; rfl
      (try (refine st_E15_1 ?_; intros))
      rw [e3]
      (try (refine st_E15_1 ?_; intros))
      exact q_fin0 (H0 := H) ⟨rfl, rfl, rfl⟩ (hd := (fun w h => Pick.sat (by iterate 60 (try (first | exact Pick.all | (apply Pick.take; (· (repeat (first | exact Out.here | apply Out.there)))) | apply Pick.drop))) h))
    | some ft =>
      obtain ⟨f, t⟩ := ft
      have e3 : szP (sizesOf b) = .tuple #[.int .i64 f, .int .i64 t, .int .i64 0] := by rw [hsb]; rfl
      (try (refine st_E15_1 ?_; intros))
      rw [e3]
      (try (refine st_E15_1 ?_; intros))
      exact q_fin0 (H0 := H) ⟨rfl, rfl, rfl⟩ (hd := (fun w h => Pick.sat (by iterate 60 (try (first | exact Pick.all | (apply Pick.take; (· (repeat (first | exact Out.here | apply Out.there)))) | apply Pick.drop))) h))
  | some ft =>
    obtain ⟨fa, mid⟩ := ft
    have e2 : szP (sizesOf a) = .tuple #[.int .i64 fa, .int .i64 mid, .int .i64 0] := by rw [hsa]; rfl
    (try (refine st_E15_1 ?_; intros))
    rw [e2]
    cases hsb : sizesOf b with
    | none =>
      have e : comP a b = .inl 2 := by simp only [comP, hsa, hsb]
      have e3 : szP (sizesOf b) = .tuple #[.int .i64 0, .int .i64 0, .int .i64 2] := by rw [hsb]; rfl
      rw [e]
      (try (refine st_E15_1 ?_; intros))
      rw [e3]
      (try (refine st_E15_1 ?_; intros))
      exact q_fin0 (H0 := H) ⟨rfl, rfl, rfl⟩ (hd := (fun w h => Pick.sat (by iterate 60 (try (first | exact Pick.all | (apply Pick.take; (· (repeat (first | exact Out.here | apply Out.there)))) | apply Pick.drop))) h))
    | some ft =>
      obtain ⟨fb, tb⟩ := ft
      have e3 : szP (sizesOf b) = .tuple #[.int .i64 fb, .int .i64 tb, .int .i64 0] := by rw [hsb]; rfl
      (try (refine st_E15_1 ?_; intros))
      rw [e3]
      by_cases hmf : mid = fb
      · (try (refine st_E15_1 ?_; intros))
        obtain ⟨hoka, hal, hpla, hfra, htoa, _, _, _, _⟩ := sized hsa
        obtain ⟨hokb, hbl, hplb, hfrb, htob, _, _, _, _⟩ := sized hsb
        refine w_callF Try.func42 ?_ (hs := plain_any hoka (by omega) _ _ _ hra)
        rintro v m H1 ⟨rfl, arx, crx, rfl, rfl⟩
        (refine st_E15_1 ?_; intros; rename_i x)
        refine w_callF Try.func42 ?_ (hs := plain_any hokb (by omega) _ _ _ hrb.more.more)
        rintro v m H1 ⟨rfl, ary, cry, rfl, rfl⟩
        (refine st_E15_1 ?_; intros; rename_i y bo)
        refine WC.newRow (T := 59) (sz := 3) ?_
        refine WC.strm (a := arx) (cap := crx) (X := plainOf a) (by (repeat (first | exact List.Mem.head _ | apply List.Mem.tail))) (plain_ok a) fun hX0 => ?_
        refine WC.strm (a := ary) (cap := cry) (X := plainOf b) (by (repeat (first | exact List.Mem.head _ | apply List.Mem.tail))) (plain_ok b) fun hY0 => ?_
        refine WC.loopH [(12, .pointer (some ⟨x, 0, none⟩)), (13, .pointer (some ⟨y, 0, none⟩)), (14, .pointer (some ⟨bo, 0, none⟩))] ?_ ?_ (fun j r ds m' H' => ∃ (k : Nat) (c : Option Addr) (cp : Nat) (B : Bld) (ax : Option Addr) (cx : Nat) (prx : List (List Value)) (X : List Stp) (ay : Option Addr) (cy : Nat) (pry : List (List Value)) (Y : List Stp), j = (atomsOf X).length + (atomsOf Y).length ∧ r = [(12, .pointer (some ⟨x, 0, none⟩)), (13, .pointer (some ⟨y, 0, none⟩)), (14, .pointer (some ⟨bo, 0, none⟩))] ∧ ds = [] ∧ m = m' ∧ H' = .blk bo (.cells [.slice c B.l.length cp, str B.p, str B.d].toArray 98 (0, 0)) :: .row c cp 59 3 (B.l.map Stp.cs) :: .blk x (.cells [.slice ax X.length cx].toArray 96 (0, 0)) :: .row arx crx 59 3 (prx ++ X.map Stp.cs) :: .blk y (.cells [.slice ay Y.length cy].toArray 96 (0, 0)) :: .row ary cry 59 3 (pry ++ Y.map Stp.cs) :: H ∧ (Strm ax cx arx prx X) ∧ (Strm ay cy ary pry Y) ∧ (BFit k B) ∧ (k + 4 * ((atomsOf X).length + (atomsOf Y).length) ≤ 10000000) ∧ (cmpT B (atomsOf X) (atomsOf Y) = cmpT Bld.start (nfOf (gapsOf a)) (nfOf (gapsOf b)))) ((atomsOf (plainOf a)).length + (atomsOf (plainOf b)).length) ⟨0, none, 0, Bld.start, arx, crx, [], plainOf a, ary, cry, [], plainOf b, rfl, rfl, rfl, rfl, rfl, hX0, hY0, BFit.start, by omega, by rw [plain_atoms, plain_atoms]⟩ ?_
        · (repeat (first | exact Env.Sub.nil | refine Env.Sub.cons rfl ?_))
        · exact (fun w h => Pick.sat (by iterate 60 (try (first | exact Pick.all | (apply Pick.take; (· (repeat (first | exact Out.here | apply Out.there)))) | apply Pick.drop))) h)
        rintro j r ds m' H' ⟨k, c, cp, B, ax, cx, prx, X, ay, cy, pry, Y, rfl, rfl, rfl, rfl, rfl, hX, hY, hB, hk, ht⟩
        (try (refine st_E15_1 ?_; intros))
        refine w_callF Try.func44 ?_ (hs := now_any hX (by (repeat (first | exact Out.here | apply Out.there))) (by (repeat (first | exact Out.here | apply Out.there))))
        rintro v m H1 ⟨rfl, rfl, rfl⟩
        (refine st_E15_1 ?_; intros; rename_i bs)
        refine w_callF Try.func44 ?_ (hs := now_any hY (by (repeat (first | exact Out.here | apply Out.there))) (by (repeat (first | exact Out.here | apply Out.there))))
        rintro v m H1 ⟨rfl, rfl, rfl⟩
        have hxok := hX.ok
        have hyok := hY.ok
        by_cases hc1 : (nowS Y).p = []
        · by_cases hc2 : (nowS X).d = []
          · have hfin : ∀ l, cmpT B (atomsOf X) (atomsOf Y) = some l → comP a b = .inr l := by
              intro l hl
              simp only [comP, hsa, hsb]
              rw [if_neg (fun h => h hmf), ← ht, hl]
            have hlen := hB.len
            have hpy : ∀ t Y', Y = t :: Y' → t.p = [] := by rintro t Y' rfl; exact hc1
            have hdx : ∀ s X', X = s :: X' → s.d = [] := by rintro s X' rfl; exact hc2
            rcases X with _ | ⟨s, X⟩
            · rw [hfin _ (stp_nilX hyok hpy)]
              have e1 : (!([] : List Stp).isEmpty) = false := rfl
              rw [e1]
              have hz : (!Y.isEmpty) = true ∨ (!Y.isEmpty) = false := by cases (!Y.isEmpty) <;> simp
              rcases hz with hz | hz
              all_goals
                rw [hz]
                (refine st_E15_1 ?_; intros; rename_i bt)
                refine WL.heap (H' := .blk bo (.cells [.slice c B.l.length cp, str B.p, str B.d].toArray 98 (0, 0)) :: .row c cp 59 3 (B.l.map Stp.cs) :: H) (fun w h => Pick.sat (by iterate 60 (try (first | exact Pick.all | (apply Pick.take; (· (repeat (first | exact Out.here | apply Out.there)))) | apply Pick.drop))) h) ?_
                refine w_callF Try.func48 ?_ (hs := done_any B (by omega) _ _ _)
                rintro v m H1 ⟨rfl, c2, cp2, rfl, rfl⟩
                (try (refine st_E15_1 ?_; intros))
                exact q_fin0 (H0 := .row c2 cp2 59 3 (B.close.l.map Stp.cs) :: H) ⟨rfl, c2, cp2, rfl, rfl⟩ (hd := (fun w h => Pick.sat (by iterate 60 (try (first | exact Pick.all | (apply Pick.take; (· (repeat (first | exact Out.here | apply Out.there)))) | apply Pick.drop))) h))
            · have hsok := hxok s List.mem_cons_self
              have e1 : nowS (s :: X) = s := rfl
              have e2 : (!(s :: X).isEmpty) = true := rfl
              rw [e1] at hc2
              rw [e1, e2]
              have hbs := stp_bounds hsok
              have hap := atoms_pos hsok
              rcases Y with _ | ⟨t, Y⟩
              · rw [hfin _ (stp_nilY hxok hdx)]
                have e1 : (!([] : List Stp).isEmpty) = false := rfl
                rw [e1]
                (refine st_E15_1 ?_; intros; rename_i bt)
                refine WL.heap (H' := .blk bo (.cells [.slice c B.l.length cp, str B.p, str B.d].toArray 98 (0, 0)) :: .row c cp 59 3 (B.l.map Stp.cs) :: H) (fun w h => Pick.sat (by iterate 60 (try (first | exact Pick.all | (apply Pick.take; (· (repeat (first | exact Out.here | apply Out.there)))) | apply Pick.drop))) h) ?_
                refine w_callF Try.func48 ?_ (hs := done_any B (by omega) _ _ _)
                rintro v m H1 ⟨rfl, c2, cp2, rfl, rfl⟩
                (try (refine st_E15_1 ?_; intros))
                exact q_fin0 (H0 := .row c2 cp2 59 3 (B.close.l.map Stp.cs) :: H) ⟨rfl, c2, cp2, rfl, rfl⟩ (hd := (fun w h => Pick.sat (by iterate 60 (try (first | exact Pick.all | (apply Pick.take; (· (repeat (first | exact Out.here | apply Out.there)))) | apply Pick.drop))) h))
              · have htok := hyok t List.mem_cons_self
                have e1 : nowS (t :: Y) = t := rfl
                have e2 : (!(t :: Y).isEmpty) = true := rfl
                rw [e1] at hc1
                rw [e1, e2]
                have hbt := stp_bounds htok
                have hap2 := atoms_pos htok
                have hlx0 : s.atoms.length ≤ (atomsOf (s :: X)).length := by rw [atoms_cons, List.length_append]; omega
                have hly0 : t.atoms.length ≤ (atomsOf (t :: Y)).length := by rw [atoms_cons, List.length_append]; omega
                (refine st_E15_1 ?_; intros; rename_i bt)
                have hn : ∃ n : Nat, min (s.atoms.length : Int) (t.atoms.length : Int) = (n : Int) ∧ 0 < n ∧ n ≤ s.atoms.length ∧ n ≤ t.atoms.length := ⟨min s.atoms.length t.atoms.length, by omega, by omega, by omega, by omega⟩
                obtain ⟨n, en, hn0, hns, hnt⟩ := hn
                rw [en]
                rw [stp_both hxok hyok hc2 hc1 hn0 hns hnt] at ht
                have hok1 := (takeS_ok hsok hn0 hns).1
                have hok2 := (takeS_ok htok hn0 hnt).1
                have hk1 := takeS_kind hsok hn0 hns
                have hk2 := takeS_kind htok hn0 hnt
                have hlx := (rest_len hxok hn0 hns).1
                have hly := (rest_len hyok hn0 hnt).1
                refine WL.heap (H' := .blk x (.cells [.slice ax (s :: X).length cx].toArray 96 (0, 0)) :: .row arx crx 59 3 (prx ++ (s :: X).map Stp.cs) :: .blk bt (.cells [.int .i64 t.k, str t.d, str t.p].toArray 59 (0, 0)) :: .blk bs (.cells [.int .i64 s.k, str s.d, str s.p].toArray 59 (0, 0)) :: .blk bo (.cells [.slice c B.l.length cp, str B.p, str B.d].toArray 98 (0, 0)) :: .row c cp 59 3 (B.l.map Stp.cs) :: .blk y (.cells [.slice ay (t :: Y).length cy].toArray 96 (0, 0)) :: .row ary cry 59 3 (pry ++ (t :: Y).map Stp.cs) :: H) (fun w h => Pick.sat (by iterate 60 (try (first | exact Pick.all | (apply Pick.take; (· (repeat (first | exact Out.here | apply Out.there)))) | apply Pick.drop))) h) ?_
                refine w_callF Try.func46 ?_ (hs := take_any _ hX hn0 hns (by omega) _ _ _)
                rintro v m H1 ⟨rfl, rfl, ax2, cx2, prx2, hX2, rfl⟩
                (try (refine st_E15_1 ?_; intros))
                refine WL.heap (H' := .blk y (.cells [.slice ay (t :: Y).length cy].toArray 96 (0, 0)) :: .row ary cry 59 3 (pry ++ (t :: Y).map Stp.cs) :: .blk bt (.cells [.int .i64 t.k, str t.d, str t.p].toArray 59 (0, 0)) :: .blk bs (.cells [.int .i64 s.k, str s.d, str s.p].toArray 59 (0, 0)) :: .blk bo (.cells [.slice c B.l.length cp, str B.p, str B.d].toArray 98 (0, 0)) :: .row c cp 59 3 (B.l.map Stp.cs) :: .blk x (.cells [.slice ax2 (restS s n X).length cx2].toArray 96 (0, 0)) :: .row arx crx 59 3 (prx2 ++ (restS s n X).map Stp.cs) :: H) (fun w h => Pick.sat (by iterate 60 (try (first | exact Pick.all | (apply Pick.take; (· (repeat (first | exact Out.here | apply Out.there)))) | apply Pick.drop))) h) ?_
                refine w_callF Try.func46 ?_ (hs := take_any _ hY hn0 hnt (by omega) _ _ _)
                rintro v m H1 ⟨rfl, rfl, ay2, cy2, pry2, hY2, rfl⟩
                generalize takeS s n = S1 at *
                generalize takeS t n = T1 at *
                have hb1 := stp_bounds hok1
                have hb2 := stp_bounds hok2
                rw [show S1.v = .agg #[.int .i64 S1.k, str S1.d, str S1.p] from rfl, show T1.v = .agg #[.int .i64 T1.k, str T1.d, str T1.p] from rfl]
                by_cases g1 : 0 < S1.k
                · rw [if_pos g1] at ht
                  (try (refine st_E15_1 ?_; intros))
                  refine WL.heap (H' := .blk bo (.cells [.slice c B.l.length cp, str B.p, str B.d].toArray 98 (0, 0)) :: .row c cp 59 3 (B.l.map Stp.cs) :: .blk x (.cells [.slice ax2 (restS s n X).length cx2].toArray 96 (0, 0)) :: .row arx crx 59 3 (prx2 ++ (restS s n X).map Stp.cs) :: .blk y (.cells [.slice ay2 (restS t n Y).length cy2].toArray 96 (0, 0)) :: .row ary cry 59 3 (pry2 ++ (restS t n Y).map Stp.cs) :: H) (fun w h => Pick.sat (by iterate 60 (try (first | exact Pick.all | (apply Pick.take; (· (repeat (first | exact Out.here | apply Out.there)))) | apply Pick.drop))) h) ?_
                  refine w_callF Try.func45 ?_ (hs := step_any B T1 (by omega) (by omega) (by omega) (hB.mono (by omega)) _ _ _)
                  rintro v m H1 ⟨rfl, rfl, c2, cp2, rfl⟩
                  (try (refine st_E15_1 ?_; intros))
                  refine WQ.next ((atomsOf (restS s n X)).length + (atomsOf (restS t n Y)).length) ⟨k + 4 * T1.atoms.length, c2, cp2, B.step T1, ax2, cx2, prx2, restS s n X, ay2, cy2, pry2, restS t n Y, rfl, rfl, rfl, rfl, rfl, ?_, ?_, ?_, ?_, ?_⟩ (by omega) (by (repeat (first | exact Env.Sub.nil | refine Env.Sub.cons rfl ?_))) (fun w h => Pick.sat (by iterate 60 (try (first | exact Pick.all | (apply Pick.take; (· (repeat (first | exact Out.here | apply Out.there)))) | apply Pick.drop))) h)
                  · exact hX2
                  · exact hY2
                  · exact bfit_step hB hok2
                  · omega
                  · exact ht
                · rw [if_neg g1] at ht
                  by_cases g2 : 0 < T1.k
                  · rw [if_pos g2] at ht
                    (try (refine st_E15_1 ?_; intros))
                    refine WL.heap (H' := .blk bo (.cells [.slice c B.l.length cp, str B.p, str B.d].toArray 98 (0, 0)) :: .row c cp 59 3 (B.l.map Stp.cs) :: .blk x (.cells [.slice ax2 (restS s n X).length cx2].toArray 96 (0, 0)) :: .row arx crx 59 3 (prx2 ++ (restS s n X).map Stp.cs) :: .blk y (.cells [.slice ay2 (restS t n Y).length cy2].toArray 96 (0, 0)) :: .row ary cry 59 3 (pry2 ++ (restS t n Y).map Stp.cs) :: H) (fun w h => Pick.sat (by iterate 60 (try (first | exact Pick.all | (apply Pick.take; (· (repeat (first | exact Out.here | apply Out.there)))) | apply Pick.drop))) h) ?_
                    refine w_callF Try.func45 ?_ (hs := step_any B S1 (by omega) (by omega) (by omega) (hB.mono (by omega)) _ _ _)
                    rintro v m H1 ⟨rfl, rfl, c2, cp2, rfl⟩
                    (try (refine st_E15_1 ?_; intros))
                    refine WQ.next ((atomsOf (restS s n X)).length + (atomsOf (restS t n Y)).length) ⟨k + 4 * S1.atoms.length, c2, cp2, B.step S1, ax2, cx2, prx2, restS s n X, ay2, cy2, pry2, restS t n Y, rfl, rfl, rfl, rfl, rfl, ?_, ?_, ?_, ?_, ?_⟩ (by omega) (by (repeat (first | exact Env.Sub.nil | refine Env.Sub.cons rfl ?_))) (fun w h => Pick.sat (by iterate 60 (try (first | exact Pick.all | (apply Pick.take; (· (repeat (first | exact Out.here | apply Out.there)))) | apply Pick.drop))) h)
                    · exact hX2
                    · exact hY2
                    · exact bfit_step hB hok1
                    · omega
                    · exact ht
                  · rw [if_neg g2] at ht
                    by_cases g3 : S1.p = T1.d
                    · rw [if_pos g3] at ht
                      (try (refine st_E15_1 ?_; intros))
                      refine WQ.next ((atomsOf (restS s n X)).length + (atomsOf (restS t n Y)).length) ⟨k, c, cp, B, ax2, cx2, prx2, restS s n X, ay2, cy2, pry2, restS t n Y, rfl, rfl, rfl, rfl, rfl, ?_, ?_, ?_, ?_, ?_⟩ (by omega) (by (repeat (first | exact Env.Sub.nil | refine Env.Sub.cons rfl ?_))) (fun w h => Pick.sat (by iterate 60 (try (first | exact Pick.all | (apply Pick.take; (· (repeat (first | exact Out.here | apply Out.there)))) | apply Pick.drop))) h)
                      · exact hX2
                      · exact hY2
                      · exact hB
                      · omega
                      · exact ht
                    · rw [if_neg g3] at ht
                      have e : comP a b = .inl 270 := by
                        simp only [comP, hsa, hsb]
                        rw [if_neg (fun h => h hmf), ← ht]
                      rw [e]
                      (try (refine st_E15_1 ?_; intros))
                      exact q_fin0 (H0 := H) ⟨rfl, rfl, rfl⟩ (hd := (fun w h => Pick.sat (by iterate 60 (try (first | exact Pick.all | (apply Pick.take; (· (repeat (first | exact Out.here | apply Out.there)))) | apply Pick.drop))) h))
          · rcases X with _ | ⟨s, X⟩
            · exact absurd rfl hc2
            · have hsok := hxok s List.mem_cons_self
              have e1 : nowS (s :: X) = s := rfl
              have e2 : (!(s :: X).isEmpty) = true := rfl
              rw [e1] at hc2
              rw [e1, e2]
              have hl := rest_len hxok (atoms_pos hsok) (Nat.le_refl _)
              rw [restS_all, takeS_all hsok] at hl
              have hbs := stp_bounds hsok
              have hap := atoms_pos hsok
              have hpy : ∀ t Y', Y = t :: Y' → t.p = [] := by rintro t Y' rfl; exact hc1
              have hz : (!Y.isEmpty) = true ∨ (!Y.isEmpty) = false := by cases (!Y.isEmpty) <;> simp
              rcases hz with hz | hz
              all_goals
                rw [hz]
                (refine st_E15_1 ?_; intros; rename_i bt)
                refine WL.heap (H' := .blk x (.cells [.slice ax (s :: X).length cx].toArray 96 (0, 0)) :: .row arx crx 59 3 (prx ++ (s :: X).map Stp.cs) :: .blk bo (.cells [.slice c B.l.length cp, str B.p, str B.d].toArray 98 (0, 0)) :: .row c cp 59 3 (B.l.map Stp.cs) :: .blk y (.cells [.slice ay Y.length cy].toArray 96 (0, 0)) :: .row ary cry 59 3 (pry ++ Y.map Stp.cs) :: H) (fun w h => Pick.sat (by iterate 60 (try (first | exact Pick.all | (apply Pick.take; (· (repeat (first | exact Out.here | apply Out.there)))) | apply Pick.drop))) h) ?_
                refine w_callF Try.func46 ?_ (hs := take_any _ hX (atoms_pos hsok) (Nat.le_refl _) (by omega) _ _ _)
                rintro v m H1 ⟨rfl, rfl, ax2, cx2, prx2, hX2, rfl⟩
                rw [restS_all] at hX2 ⊢
                rw [takeS_all hsok]
                (try (refine st_E15_1 ?_; intros))
                refine WL.heap (H' := .blk bo (.cells [.slice c B.l.length cp, str B.p, str B.d].toArray 98 (0, 0)) :: .row c cp 59 3 (B.l.map Stp.cs) :: .blk x (.cells [.slice ax2 X.length cx2].toArray 96 (0, 0)) :: .row arx crx 59 3 (prx2 ++ X.map Stp.cs) :: .blk y (.cells [.slice ay Y.length cy].toArray 96 (0, 0)) :: .row ary cry 59 3 (pry ++ Y.map Stp.cs) :: H) (fun w h => Pick.sat (by iterate 60 (try (first | exact Pick.all | (apply Pick.take; (· (repeat (first | exact Out.here | apply Out.there)))) | apply Pick.drop))) h) ?_
                refine w_callF Try.func45 ?_ (hs := step_any B s (by omega) (by omega) (by omega) (hB.mono (by omega)) _ _ _)
                rintro v m H1 ⟨rfl, rfl, c2, cp2, rfl⟩
                (try (refine st_E15_1 ?_; intros))
                refine WQ.next ((atomsOf (X)).length + (atomsOf (Y)).length) ⟨k + 4 * s.atoms.length, c2, cp2, B.step s, ax2, cx2, prx2, X, ay, cy, pry, Y, rfl, rfl, rfl, rfl, rfl, ?_, ?_, ?_, ?_, ?_⟩ (by omega) (by (repeat (first | exact Env.Sub.nil | refine Env.Sub.cons rfl ?_))) (fun w h => Pick.sat (by iterate 60 (try (first | exact Pick.all | (apply Pick.take; (· (repeat (first | exact Out.here | apply Out.there)))) | apply Pick.drop))) h)
                · exact hX2
                · exact hY
                · exact bfit_step hB hsok
                · omega
                · rw [← ht, stp_drop hsok hc2 hyok hpy]
        · rcases Y with _ | ⟨t, Y⟩
          · exact absurd rfl hc1
          · have htok := hyok t List.mem_cons_self
            have e1 : nowS (t :: Y) = t := rfl
            have e2 : (!(t :: Y).isEmpty) = true := rfl
            rw [e1] at hc1
            rw [e1, e2]
            have hl := rest_len hyok (atoms_pos htok) (Nat.le_refl _)
            rw [restS_all, takeS_all htok] at hl
            have hbt := stp_bounds htok
            have hap := atoms_pos htok
            (refine st_E15_1 ?_; intros; rename_i bt)
            refine WL.heap (H' := .blk y (.cells [.slice ay (t :: Y).length cy].toArray 96 (0, 0)) :: .row ary cry 59 3 (pry ++ (t :: Y).map Stp.cs) :: .blk bo (.cells [.slice c B.l.length cp, str B.p, str B.d].toArray 98 (0, 0)) :: .row c cp 59 3 (B.l.map Stp.cs) :: .blk x (.cells [.slice ax X.length cx].toArray 96 (0, 0)) :: .row arx crx 59 3 (prx ++ X.map Stp.cs) :: H) (fun w h => Pick.sat (by iterate 60 (try (first | exact Pick.all | (apply Pick.take; (· (repeat (first | exact Out.here | apply Out.there)))) | apply Pick.drop))) h) ?_
            refine w_callF Try.func46 ?_ (hs := take_any _ hY (atoms_pos htok) (Nat.le_refl _) (by omega) _ _ _)
            rintro v m H1 ⟨rfl, rfl, ay2, cy2, pry2, hY2, rfl⟩
            rw [restS_all] at hY2 ⊢
            rw [takeS_all htok]
            (try (refine st_E15_1 ?_; intros))
            refine WL.heap (H' := .blk bo (.cells [.slice c B.l.length cp, str B.p, str B.d].toArray 98 (0, 0)) :: .row c cp 59 3 (B.l.map Stp.cs) :: .blk y (.cells [.slice ay2 Y.length cy2].toArray 96 (0, 0)) :: .row ary cry 59 3 (pry2 ++ Y.map Stp.cs) :: .blk x (.cells [.slice ax X.length cx].toArray 96 (0, 0)) :: .row arx crx 59 3 (prx ++ X.map Stp.cs) :: H) (fun w h => Pick.sat (by iterate 60 (try (first | exact Pick.all | (apply Pick.take; (· (repeat (first | exact Out.here | apply Out.there)))) | apply Pick.drop))) h) ?_
            refine w_callF Try.func45 ?_ (hs := step_any B t (by omega) (by omega) (by omega) (hB.mono (by omega)) _ _ _)
            rintro v m H1 ⟨rfl, rfl, c2, cp2, rfl⟩
            (try (refine st_E15_1 ?_; intros))
            refine WQ.next ((atomsOf (X)).length + (atomsOf (Y)).length) ⟨k + 4 * t.atoms.length, c2, cp2, B.step t, ax, cx, prx, X, ay2, cy2, pry2, Y, rfl, rfl, rfl, rfl, rfl, ?_, ?_, ?_, ?_, ?_⟩ (by omega) (by (repeat (first | exact Env.Sub.nil | refine Env.Sub.cons rfl ?_))) (fun w h => Pick.sat (by iterate 60 (try (first | exact Pick.all | (apply Pick.take; (· (repeat (first | exact Out.here | apply Out.there)))) | apply Pick.drop))) h)
            · exact hX
            · exact hY2
            · exact bfit_step hB htok
            · omega
            · rw [← ht, stp_put htok hc1]
      · have e : comP a b = .inl 5 := by simp only [comP, hsa, hsb]; rw [if_pos hmf]
        rw [e]
        (try (refine st_E15_1 ?_; intros))
        exact q_fin0 (H0 := H) ⟨rfl, rfl, rfl⟩ (hd := (fun w h => Pick.sat (by iterate 60 (try (first | exact Pick.all | (apply Pick.take; (· (repeat (first | exact Out.here | apply Out.there)))) | apply Pick.drop))) h))
end Go.Proofs.Ytelgegefmjlimaa

/-
  The walk of the program's Carry: two changes carried over each other. No condition.
-/
namespace Go.Eng
open Go Go.RowKit
def PairP (T : TypeId) (r : Int ⊕ (List Stp × List Stp)) (k : IntKind) (m : Mem) (H : SHeap) : Value → Mem → SHeap → Prop := fun v m' H' => m' = m ∧ match r with
  | .inl e => v = .tuple #[.slice none 0 0, .slice none 0 0, .int k e] ∧ H' = H
  | .inr (l1, l2) => ∃ c cp c2 cp2, v = .tuple #[.slice c l1.length cp, .slice c2 l2.length cp2, .int k 0] ∧ H' = .row c cp T 3 (l1.map Stp.cs) :: .row c2 cp2 T 3 (l2.map Stp.cs) :: H
end Go.Eng
namespace Go.Proofs.Ytelgegefmjlimaa
open Go Go.Eng
set_option maxRecDepth 100000
set_option maxHeartbeats 4000000
set_option linter.all false
attribute [local irreducible] WL WC WQ QFun QLoop Does Q1 QRound QAssign Go.Addr.add
attribute [local irreducible] sizesF sizesOf carT
theorem sq_E18_1 {G : Prop} (h : G := by (repeat (first | (refine sp ?_; (repeat intro zzc)) | (refine iF 40 rfl ?_; refine w_callG Try.func40 ?_ (hs := sizes_any (by assumption) _ _ _ (by assumption))) | (refine iF 47 rfl ?_; refine w_callG Try.func47 ?_ (hs := size_any (by assumption) (by omega) _ _ _)))); exact WQ.q1 rfl) : G := h
theorem st_E18_1 {G G' : Prop} (next : G') (h : Bx G' → G := by intro zzn; (first | ((refine st ?_; (repeat intro zzc)); (try ((first | (refine iF 40 rfl ?_; refine w_callG Try.func40 ?_ (hs := sizes_any (by assumption) _ _ _ (by assumption))) | (refine iF 47 rfl ?_; refine w_callG Try.func47 ?_ (hs := size_any (by assumption) (by omega) _ _ _)) | ((refine iDraw ?_; (first | refine WC.drawAll rfl (by decide +kernel) ?_ | refine WC.draw 1 rfl (by decide +kernel) ?_ | refine WC.draw 2 rfl (by decide +kernel) ?_ | refine WC.draw 3 rfl (by decide +kernel) ?_ | refine WC.draw 4 rfl (by decide +kernel) ?_ | refine WC.draw 5 rfl (by decide +kernel) ?_ | refine WC.draw 6 rfl (by decide +kernel) ?_ | refine WC.draw 7 rfl (by decide +kernel) ?_ | refine WC.draw 8 rfl (by decide +kernel) ?_ | refine WC.draw 9 rfl (by decide +kernel) ?_ | refine WC.draw 10 rfl (by decide +kernel) ?_ | refine WC.draw 11 rfl (by decide +kernel) ?_ | refine WC.draw 12 rfl (by decide +kernel) ?_ | refine WC.draw 13 rfl (by decide +kernel) ?_ | refine WC.draw 14 rfl (by decide +kernel) ?_ | refine WC.draw 15 rfl (by decide +kernel) ?_ | refine WC.draw 16 rfl (by decide +kernel) ?_ | refine WC.draw 17 rfl (by decide +kernel) ?_ | refine WC.draw 18 rfl (by decide +kernel) ?_ | refine WC.draw 19 rfl (by decide +kernel) ?_ | refine WC.draw 20 rfl (by decide +kernel) ?_ | refine WC.draw 21 rfl (by decide +kernel) ?_ | refine WC.draw 22 rfl (by decide +kernel) ?_ | refine WC.draw 23 rfl (by decide +kernel) ?_ | refine WC.draw 24 rfl (by decide +kernel) ?_)); (repeat (refine WD.cons rfl (fun c h => by cases h) sq_E18_1 ?_)); refine WD.nil ?_)); (try (refine st ?_; (repeat intro zzc)))))) | ((first | (refine iF 40 rfl ?_; refine w_callG Try.func40 ?_ (hs := sizes_any (by assumption) _ _ _ (by assumption))) | (refine iF 47 rfl ?_; refine w_callG Try.func47 ?_ (hs := size_any (by assumption) (by omega) _ _ _)) | ((refine iDraw ?_; (first | refine WC.drawAll rfl (by decide +kernel) ?_ | refine WC.draw 1 rfl (by decide +kernel) ?_ | refine WC.draw 2 rfl (by decide +kernel) ?_ | refine WC.draw 3 rfl (by decide +kernel) ?_ | refine WC.draw 4 rfl (by decide +kernel) ?_ | refine WC.draw 5 rfl (by decide +kernel) ?_ | refine WC.draw 6 rfl (by decide +kernel) ?_ | refine WC.draw 7 rfl (by decide +kernel) ?_ | refine WC.draw 8 rfl (by decide +kernel) ?_ | refine WC.draw 9 rfl (by decide +kernel) ?_ | refine WC.draw 10 rfl (by decide +kernel) ?_ | refine WC.draw 11 rfl (by decide +kernel) ?_ | refine WC.draw 12 rfl (by decide +kernel) ?_ | refine WC.draw 13 rfl (by decide +kernel) ?_ | refine WC.draw 14 rfl (by decide +kernel) ?_ | refine WC.draw 15 rfl (by decide +kernel) ?_ | refine WC.draw 16 rfl (by decide +kernel) ?_ | refine WC.draw 17 rfl (by decide +kernel) ?_ | refine WC.draw 18 rfl (by decide +kernel) ?_ | refine WC.draw 19 rfl (by decide +kernel) ?_ | refine WC.draw 20 rfl (by decide +kernel) ?_ | refine WC.draw 21 rfl (by decide +kernel) ?_ | refine WC.draw 22 rfl (by decide +kernel) ?_ | refine WC.draw 23 rfl (by decide +kernel) ?_ | refine WC.draw 24 rfl (by decide +kernel) ?_)); (repeat (refine WD.cons rfl (fun c h => by cases h) sq_E18_1 ?_)); refine WD.nil ?_)); (try (refine st ?_; (repeat intro zzc))))); (repeat ((first | (refine iF 40 rfl ?_; refine w_callG Try.func40 ?_ (hs := sizes_any (by assumption) _ _ _ (by assumption))) | (refine iF 47 rfl ?_; refine w_callG Try.func47 ?_ (hs := size_any (by assumption) (by omega) _ _ _)) | ((refine iDraw ?_; (first | refine WC.drawAll rfl (by decide +kernel) ?_ | refine WC.draw 1 rfl (by decide +kernel) ?_ | refine WC.draw 2 rfl (by decide +kernel) ?_ | refine WC.draw 3 rfl (by decide +kernel) ?_ | refine WC.draw 4 rfl (by decide +kernel) ?_ | refine WC.draw 5 rfl (by decide +kernel) ?_ | refine WC.draw 6 rfl (by decide +kernel) ?_ | refine WC.draw 7 rfl (by decide +kernel) ?_ | refine WC.draw 8 rfl (by decide +kernel) ?_ | refine WC.draw 9 rfl (by decide +kernel) ?_ | refine WC.draw 10 rfl (by decide +kernel) ?_ | refine WC.draw 11 rfl (by decide +kernel) ?_ | refine WC.draw 12 rfl (by decide +kernel) ?_ | refine WC.draw 13 rfl (by decide +kernel) ?_ | refine WC.draw 14 rfl (by decide +kernel) ?_ | refine WC.draw 15 rfl (by decide +kernel) ?_ | refine WC.draw 16 rfl (by decide +kernel) ?_ | refine WC.draw 17 rfl (by decide +kernel) ?_ | refine WC.draw 18 rfl (by decide +kernel) ?_ | refine WC.draw 19 rfl (by decide +kernel) ?_ | refine WC.draw 20 rfl (by decide +kernel) ?_ | refine WC.draw 21 rfl (by decide +kernel) ?_ | refine WC.draw 22 rfl (by decide +kernel) ?_ | refine WC.draw 23 rfl (by decide +kernel) ?_ | refine WC.draw 24 rfl (by decide +kernel) ?_)); (repeat (refine WD.cons rfl (fun c h => by cases h) sq_E18_1 ?_)); refine WD.nil ?_)); (try (refine st ?_; (repeat intro zzc))))); (repeat revert zzc); exact zzn.out) : G := h ⟨next⟩
theorem carry_any {pa pb : Option Addr} {ca cb : Nat} {a b : List Stp} (hfa : Fit a) (hfb : Fit b) (w0 : World) (m : Mem) (H : SHeap) (hra : RowR w0 m H 3 pa (a.map Stp.cs)) (hrb : RowR w0 m H 3 pb (b.map Stp.cs)) :
    Does Try.prog 27 #[.slice pa a.length ca, .slice pb b.length cb] w0 m H (PairP 59 (carP a b) .i64 m H) := by
  refine Does.of_body (args := [.slice pa a.length ca, .slice pb b.length cb]) Try.func27 rfl Try.ntmps27 rfl ?_
  cases hsa : sizesOf a with
  | none =>
    have e : carP a b = .inl 2 := by simp only [carP, hsa]
    have e2 : szP (sizesOf a) = .tuple #[.int .i64 0, .int .i64 0, .int .i64 2] := by rw [hsa]; rfl
    rw [e]
    (try (refine st_E18_1 ?_; intros))
    rw [e2]
    cases hsb : sizesOf b with
    | none =>
      have e3 : szP (sizesOf b) = .tuple #[.int .i64 0, .int .i64 0, .int .i64 2] := by rw [hsb]; rfl
      (try (refine st_E18_1 ?_; intros))
      rw [e3]
      (try (refine st_E18_1 ?_; intros))
      exact q_fin0 (H0 := H) ⟨rfl, rfl, rfl⟩ (hd := (fun w h => Pick.sat (by iterate 60 (try (first | exact Pick.all | (apply Pick.take; (· (repeat (first | exact Out.here | apply Out.there)))) | apply Pick.drop))) h))
    | some ft =>
      obtain ⟨f, t⟩ := ft
      have e3 : szP (sizesOf b) = .tuple #[.int .i64 f, .int .i64 t, .int .i64 0] := by rw [hsb]; rfl
      (try (refine st_E18_1 ?_; intros))
      rw [e3]
      (try (refine st_E18_1 ?_; intros))
      exact q_fin0 (H0 := H) ⟨rfl, rfl, rfl⟩ (hd := (fun w h => Pick.sat (by iterate 60 (try (first | exact Pick.all | (apply Pick.take; (· (repeat (first | exact Out.here | apply Out.there)))) | apply Pick.drop))) h))
  | some ft =>
    obtain ⟨fa, ta⟩ := ft
    have e2 : szP (sizesOf a) = .tuple #[.int .i64 fa, .int .i64 ta, .int .i64 0] := by rw [hsa]; rfl
    (try (refine st_E18_1 ?_; intros))
    rw [e2]
    cases hsb : sizesOf b with
    | none =>
      have e : carP a b = .inl 2 := by simp only [carP, hsa, hsb]
      have e3 : szP (sizesOf b) = .tuple #[.int .i64 0, .int .i64 0, .int .i64 2] := by rw [hsb]; rfl
      rw [e]
      (try (refine st_E18_1 ?_; intros))
      rw [e3]
      (try (refine st_E18_1 ?_; intros))
      exact q_fin0 (H0 := H) ⟨rfl, rfl, rfl⟩ (hd := (fun w h => Pick.sat (by iterate 60 (try (first | exact Pick.all | (apply Pick.take; (· (repeat (first | exact Out.here | apply Out.there)))) | apply Pick.drop))) h))
    | some ft =>
      obtain ⟨fb, tb⟩ := ft
      have e3 : szP (sizesOf b) = .tuple #[.int .i64 fb, .int .i64 tb, .int .i64 0] := by rw [hsb]; rfl
      (try (refine st_E18_1 ?_; intros))
      rw [e3]
      by_cases hmf : fa = fb
      · (try (refine st_E18_1 ?_; intros))
        obtain ⟨hoka, hal, hpla, hfra, htoa, _, _, _, _⟩ := sized hsa
        obtain ⟨hokb, hbl, hplb, hfrb, htob, _, _, _, _⟩ := sized hsb
        refine w_callF Try.func42 ?_ (hs := plain_any hoka (by omega) _ _ _ hra)
        rintro v m H1 ⟨rfl, arx, crx, rfl, rfl⟩
        (refine st_E18_1 ?_; intros; rename_i x)
        refine w_callF Try.func42 ?_ (hs := plain_any hokb (by omega) _ _ _ hrb.more.more)
        rintro v m H1 ⟨rfl, ary, cry, rfl, rfl⟩
        (refine st_E18_1 ?_; intros; rename_i y bu bv)
        refine WC.newRow (T := 59) (sz := 3) ?_
        refine WC.newRow (T := 59) (sz := 3) ?_
        refine WC.strm (a := arx) (cap := crx) (X := plainOf a) (by (repeat (first | exact List.Mem.head _ | apply List.Mem.tail))) (plain_ok a) fun hX0 => ?_
        refine WC.strm (a := ary) (cap := cry) (X := plainOf b) (by (repeat (first | exact List.Mem.head _ | apply List.Mem.tail))) (plain_ok b) fun hY0 => ?_
        refine WC.loopH [(13, .pointer (some ⟨x, 0, none⟩)), (14, .pointer (some ⟨y, 0, none⟩)), (15, .pointer (some ⟨bu, 0, none⟩)), (16, .pointer (some ⟨bv, 0, none⟩)), (17, .int .i64 ((0) : Int))] ?_ ?_ (fun j r ds m' H' => ∃ (k : _) (cu : Option Addr) (cpu : Nat) (U : Bld) (cv : Option Addr) (cpv : Nat) (V : Bld) (al : Nat) (ax : Option Addr) (cx : Nat) (prx : List (List Value)) (X : List Stp) (ay : Option Addr) (cy : Nat) (pry : List (List Value)) (Y : List Stp), j = (atomsOf X).length + (atomsOf Y).length ∧ r = [(13, .pointer (some ⟨x, 0, none⟩)), (14, .pointer (some ⟨y, 0, none⟩)), (15, .pointer (some ⟨bu, 0, none⟩)), (16, .pointer (some ⟨bv, 0, none⟩)), (17, .int .i64 (al : Int))] ∧ ds = [] ∧ m = m' ∧ H' = .blk bu (.cells [.slice cu U.l.length cpu, str U.p, str U.d].toArray 98 (0, 0)) :: .row cu cpu 59 3 (U.l.map Stp.cs) :: .blk bv (.cells [.slice cv V.l.length cpv, str V.p, str V.d].toArray 98 (0, 0)) :: .row cv cpv 59 3 (V.l.map Stp.cs) :: .blk x (.cells [.slice ax X.length cx].toArray 96 (0, 0)) :: .row arx crx 59 3 (prx ++ X.map Stp.cs) :: .blk y (.cells [.slice ay Y.length cy].toArray 96 (0, 0)) :: .row ary cry 59 3 (pry ++ Y.map Stp.cs) :: H ∧ (Strm ax cx arx prx X) ∧ (Strm ay cy ary pry Y) ∧ (BFit k U) ∧ (BFit k V) ∧ (k + 4 * ((atomsOf X).length + (atomsOf Y).length) ≤ 10000000 ∧ al ≤ k) ∧ (carT U V al (atomsOf X) (atomsOf Y) = carT Bld.start Bld.start 0 (nfOf (gapsOf a)) (nfOf (gapsOf b)))) ((atomsOf (plainOf a)).length + (atomsOf (plainOf b)).length) ⟨0, none, 0, Bld.start, none, 0, Bld.start, 0, arx, crx, [], plainOf a, ary, cry, [], plainOf b, rfl, rfl, rfl, rfl, rfl, hX0, hY0, BFit.start, BFit.start, by omega, by rw [plain_atoms, plain_atoms]⟩ ?_
        · (repeat (first | exact Env.Sub.nil | refine Env.Sub.cons rfl ?_))
        · exact (fun w h => Pick.sat (by iterate 60 (try (first | exact Pick.all | (apply Pick.take; (· (repeat (first | exact Out.here | apply Out.there)))) | apply Pick.drop))) h)
        rintro j r ds m' H' ⟨k, cu, cpu, U, cv, cpv, V, al, ax, cx, prx, X, ay, cy, pry, Y, rfl, rfl, rfl, rfl, rfl, hX, hY, hU, hV, hk, ht⟩
        (try (refine st_E18_1 ?_; intros))
        refine w_callF Try.func44 ?_ (hs := now_any hX (by (repeat (first | exact Out.here | apply Out.there))) (by (repeat (first | exact Out.here | apply Out.there))))
        rintro v m H1 ⟨rfl, rfl, rfl⟩
        (refine st_E18_1 ?_; intros; rename_i bs)
        refine w_callF Try.func44 ?_ (hs := now_any hY (by (repeat (first | exact Out.here | apply Out.there))) (by (repeat (first | exact Out.here | apply Out.there))))
        rintro v m H1 ⟨rfl, rfl, rfl⟩
        have hxok := hX.ok
        have hyok := hY.ok
        by_cases hc1 : (nowS X).p = []
        · by_cases hc2 : (nowS Y).p = []
          · have hfin : carT U V al (atomsOf X) (atomsOf Y) = some (U.close.l, V.close.l, al) → carP a b = if 65536 < al then .inl 3 else .inr (U.close.l, V.close.l) := by
              intro hl
              simp only [carP, hsa, hsb]
              rw [if_neg (fun h => h hmf), ← ht, hl]
            have hlu := hU.len
            have hlv := hV.len
            have hpx : ∀ s X', X = s :: X' → s.p = [] := by rintro s X' rfl; exact hc1
            have hpy : ∀ t Y', Y = t :: Y' → t.p = [] := by rintro t Y' rfl; exact hc2
            by_cases hem : X = [] ∨ Y = []
            · have hend : carT U V al (atomsOf X) (atomsOf Y) = some (U.close.l, V.close.l, al) := by
                rcases hem with rfl | rfl
                · exact cst_nilX hyok hpy
                · exact cst_nilY hxok hpx
              have hfin := hfin hend
              have hz : ((!X.isEmpty) = true ∧ (!Y.isEmpty) = false) ∨ ((!X.isEmpty) = false ∧ (!Y.isEmpty) = true) ∨ ((!X.isEmpty) = false ∧ (!Y.isEmpty) = false) := by
                rcases X with _ | ⟨s, X⟩ <;> rcases Y with _ | ⟨t, Y⟩ <;> simp at hem ⊢
              by_cases hbig : 65536 < al
              · rw [hfin, if_pos hbig]
                rcases hz with hz | hz | hz
                all_goals
                  rw [hz.1, hz.2]
                  (refine st_E18_1 ?_; intros; rename_i bt)
                  exact q_fin0 (H0 := H) ⟨rfl, rfl, rfl⟩ (hd := (fun w h => Pick.sat (by iterate 60 (try (first | exact Pick.all | (apply Pick.take; (· (repeat (first | exact Out.here | apply Out.there)))) | apply Pick.drop))) h))
              · rw [hfin, if_neg hbig]
                rcases hz with hz | hz | hz
                all_goals
                  rw [hz.1, hz.2]
                  (refine st_E18_1 ?_; intros; rename_i bt)
                  refine WL.heap (H' := .blk bu (.cells [.slice cu U.l.length cpu, str U.p, str U.d].toArray 98 (0, 0)) :: .row cu cpu 59 3 (U.l.map Stp.cs) :: .blk bv (.cells [.slice cv V.l.length cpv, str V.p, str V.d].toArray 98 (0, 0)) :: .row cv cpv 59 3 (V.l.map Stp.cs) :: H) (fun w h => Pick.sat (by iterate 60 (try (first | exact Pick.all | (apply Pick.take; (· (repeat (first | exact Out.here | apply Out.there)))) | apply Pick.drop))) h) ?_
                  refine w_callF Try.func48 ?_ (hs := done_any U (by omega) _ _ _)
                  rintro v m H1 ⟨rfl, c2, cp2, rfl, rfl⟩
                  (try (refine st_E18_1 ?_; intros))
                  refine WL.heap (H' := .blk bv (.cells [.slice cv V.l.length cpv, str V.p, str V.d].toArray 98 (0, 0)) :: .row cv cpv 59 3 (V.l.map Stp.cs) :: .row c2 cp2 59 3 (U.close.l.map Stp.cs) :: H) (fun w h => Pick.sat (by iterate 60 (try (first | exact Pick.all | (apply Pick.take; (· (repeat (first | exact Out.here | apply Out.there)))) | apply Pick.drop))) h) ?_
                  refine w_callF Try.func48 ?_ (hs := done_any V (by omega) _ _ _)
                  rintro v m H1 ⟨rfl, c3, cp3, rfl, rfl⟩
                  (try (refine st_E18_1 ?_; intros))
                  exact q_fin0 (H0 := .row c2 cp2 59 3 (U.close.l.map Stp.cs) :: .row c3 cp3 59 3 (V.close.l.map Stp.cs) :: H) ⟨rfl, c2, cp2, c3, cp3, rfl, rfl⟩ (hd := (fun w h => Pick.sat (by iterate 60 (try (first | exact Pick.all | (apply Pick.take; (· (repeat (first | exact Out.here | apply Out.there)))) | apply Pick.drop))) h))
            · have hne : ∃ s X' t Y', X = s :: X' ∧ Y = t :: Y' := by
                rcases X with _ | ⟨s, X⟩ <;> rcases Y with _ | ⟨t, Y⟩ <;> simp at hem ⊢
              obtain ⟨s, X, t, Y, rfl, rfl⟩ := hne
              have hsok := hxok s List.mem_cons_self
              have htok := hyok t List.mem_cons_self
              have e1 : nowS (s :: X) = s := rfl
              have e2 : (!(s :: X).isEmpty) = true := rfl
              have e3 : nowS (t :: Y) = t := rfl
              have e4 : (!(t :: Y).isEmpty) = true := rfl
              rw [e1] at hc1
              rw [e3] at hc2
              rw [e1, e2, e3, e4]
              have hbs := stp_bounds hsok
              have hap := atoms_pos hsok
              have hbt := stp_bounds htok
              have hap2 := atoms_pos htok
              have hlx0 : s.atoms.length ≤ (atomsOf (s :: X)).length := by rw [atoms_cons, List.length_append]; omega
              have hly0 : t.atoms.length ≤ (atomsOf (t :: Y)).length := by rw [atoms_cons, List.length_append]; omega
              (refine st_E18_1 ?_; intros; rename_i bt)
              have hn : ∃ n : Nat, min (s.atoms.length : Int) (t.atoms.length : Int) = (n : Int) ∧ 0 < n ∧ n ≤ s.atoms.length ∧ n ≤ t.atoms.length := ⟨min s.atoms.length t.atoms.length, by omega, by omega, by omega, by omega⟩
              obtain ⟨n, en, hn0, hns, hnt⟩ := hn
              rw [en]
              rw [cst_both hxok hyok hc1 hc2 hn0 hns hnt] at ht
              have hok1 := (takeS_ok hsok hn0 hns).1
              have hok2 := (takeS_ok htok hn0 hnt).1
              have hk1 := takeS_kind hsok hn0 hns
              have hk2 := takeS_kind htok hn0 hnt
              have hlx := (rest_len hxok hn0 hns).1
              have hly := (rest_len hyok hn0 hnt).1
              refine WL.heap (H' := .blk x (.cells [.slice ax (s :: X).length cx].toArray 96 (0, 0)) :: .row arx crx 59 3 (prx ++ (s :: X).map Stp.cs) :: .blk bt (.cells [.int .i64 t.k, str t.d, str t.p].toArray 59 (0, 0)) :: .blk bs (.cells [.int .i64 s.k, str s.d, str s.p].toArray 59 (0, 0)) :: .blk bu (.cells [.slice cu U.l.length cpu, str U.p, str U.d].toArray 98 (0, 0)) :: .row cu cpu 59 3 (U.l.map Stp.cs) :: .blk bv (.cells [.slice cv V.l.length cpv, str V.p, str V.d].toArray 98 (0, 0)) :: .row cv cpv 59 3 (V.l.map Stp.cs) :: .blk y (.cells [.slice ay (t :: Y).length cy].toArray 96 (0, 0)) :: .row ary cry 59 3 (pry ++ (t :: Y).map Stp.cs) :: H) (fun w h => Pick.sat (by iterate 60 (try (first | exact Pick.all | (apply Pick.take; (· (repeat (first | exact Out.here | apply Out.there)))) | apply Pick.drop))) h) ?_
              refine w_callF Try.func46 ?_ (hs := take_any _ hX hn0 hns (by omega) _ _ _)
              rintro v m H1 ⟨rfl, rfl, ax2, cx2, prx2, hX2, rfl⟩
              (try (refine st_E18_1 ?_; intros))
              refine WL.heap (H' := .blk y (.cells [.slice ay (t :: Y).length cy].toArray 96 (0, 0)) :: .row ary cry 59 3 (pry ++ (t :: Y).map Stp.cs) :: .blk bt (.cells [.int .i64 t.k, str t.d, str t.p].toArray 59 (0, 0)) :: .blk bs (.cells [.int .i64 s.k, str s.d, str s.p].toArray 59 (0, 0)) :: .blk bu (.cells [.slice cu U.l.length cpu, str U.p, str U.d].toArray 98 (0, 0)) :: .row cu cpu 59 3 (U.l.map Stp.cs) :: .blk bv (.cells [.slice cv V.l.length cpv, str V.p, str V.d].toArray 98 (0, 0)) :: .row cv cpv 59 3 (V.l.map Stp.cs) :: .blk x (.cells [.slice ax2 (restS s n X).length cx2].toArray 96 (0, 0)) :: .row arx crx 59 3 (prx2 ++ (restS s n X).map Stp.cs) :: H) (fun w h => Pick.sat (by iterate 60 (try (first | exact Pick.all | (apply Pick.take; (· (repeat (first | exact Out.here | apply Out.there)))) | apply Pick.drop))) h) ?_
              refine w_callF Try.func46 ?_ (hs := take_any _ hY hn0 hnt (by omega) _ _ _)
              rintro v m H1 ⟨rfl, rfl, ay2, cy2, pry2, hY2, rfl⟩
              generalize takeS s n = S1 at *
              generalize takeS t n = T1 at *
              have hb1 := stp_bounds hok1
              have hb2 := stp_bounds hok2
              rw [show S1.v = .agg #[.int .i64 S1.k, str S1.d, str S1.p] from rfl, show T1.v = .agg #[.int .i64 T1.k, str T1.d, str T1.p] from rfl]
              by_cases g1 : 0 < S1.k
              · by_cases g2 : 0 < T1.k
                · rw [if_pos ⟨g1, g2⟩] at ht
                  (try (refine st_E18_1 ?_; intros))
                  refine WL.heap (H' := .blk bu (.cells [.slice cu U.l.length cpu, str U.p, str U.d].toArray 98 (0, 0)) :: .row cu cpu 59 3 (U.l.map Stp.cs) :: .blk bv (.cells [.slice cv V.l.length cpv, str V.p, str V.d].toArray 98 (0, 0)) :: .row cv cpv 59 3 (V.l.map Stp.cs) :: .blk x (.cells [.slice ax2 (restS s n X).length cx2].toArray 96 (0, 0)) :: .row arx crx 59 3 (prx2 ++ (restS s n X).map Stp.cs) :: .blk y (.cells [.slice ay2 (restS t n Y).length cy2].toArray 96 (0, 0)) :: .row ary cry 59 3 (pry2 ++ (restS t n Y).map Stp.cs) :: H) (fun w h => Pick.sat (by iterate 60 (try (first | exact Pick.all | (apply Pick.take; (· (repeat (first | exact Out.here | apply Out.there)))) | apply Pick.drop))) h) ?_
                  refine w_callF Try.func55 ?_ (hs := keep_any U n (by omega) (hU.mono (by omega)) _ _ _)
                  rintro v m H1 ⟨rfl, rfl, c2, cp2, rfl⟩
                  (try (refine st_E18_1 ?_; intros))
                  refine WL.heap (H' := .blk bv (.cells [.slice cv V.l.length cpv, str V.p, str V.d].toArray 98 (0, 0)) :: .row cv cpv 59 3 (V.l.map Stp.cs) :: .blk bu (.cells [.slice c2 (U.keep n).l.length cp2, str (U.keep n).p, str (U.keep n).d].toArray 98 (0, 0)) :: .row c2 cp2 59 3 ((U.keep n).l.map Stp.cs) :: .blk x (.cells [.slice ax2 (restS s n X).length cx2].toArray 96 (0, 0)) :: .row arx crx 59 3 (prx2 ++ (restS s n X).map Stp.cs) :: .blk y (.cells [.slice ay2 (restS t n Y).length cy2].toArray 96 (0, 0)) :: .row ary cry 59 3 (pry2 ++ (restS t n Y).map Stp.cs) :: H) (fun w h => Pick.sat (by iterate 60 (try (first | exact Pick.all | (apply Pick.take; (· (repeat (first | exact Out.here | apply Out.there)))) | apply Pick.drop))) h) ?_
                  refine w_callF Try.func55 ?_ (hs := keep_any V n (by omega) (hV.mono (by omega)) _ _ _)
                  rintro v m H1 ⟨rfl, rfl, c3, cp3, rfl⟩
                  have eal : (al : Int) + (n : Int) = ((al + n : Nat) : Int) := by omega
                  (try (refine st_E18_1 ?_; intros))
                  rw [eal]
                  refine WQ.next ((atomsOf (restS s n X)).length + (atomsOf (restS t n Y)).length) ⟨k + n + 3, c2, cp2, U.keep n, c3, cp3, V.keep n, al + n, ax2, cx2, prx2, restS s n X, ay2, cy2, pry2, restS t n Y, rfl, rfl, rfl, rfl, rfl, ?_, ?_, ?_, ?_, ?_, ?_⟩ (by omega) (by (repeat (first | exact Env.Sub.nil | refine Env.Sub.cons rfl ?_))) (fun w h => Pick.sat (by iterate 60 (try (first | exact Pick.all | (apply Pick.take; (· (repeat (first | exact Out.here | apply Out.there)))) | apply Pick.drop))) h)
                  · exact hX2
                  · exact hY2
                  · exact hU.keep
                  · exact hV.keep
                  · omega
                  · exact ht
                · rw [if_neg (by omega), if_pos g1] at ht
                  (try (refine st_E18_1 ?_; intros))
                  refine WL.heap (H' := .blk bv (.cells [.slice cv V.l.length cpv, str V.p, str V.d].toArray 98 (0, 0)) :: .row cv cpv 59 3 (V.l.map Stp.cs) :: .blk bu (.cells [.slice cu U.l.length cpu, str U.p, str U.d].toArray 98 (0, 0)) :: .row cu cpu 59 3 (U.l.map Stp.cs) :: .blk x (.cells [.slice ax2 (restS s n X).length cx2].toArray 96 (0, 0)) :: .row arx crx 59 3 (prx2 ++ (restS s n X).map Stp.cs) :: .blk y (.cells [.slice ay2 (restS t n Y).length cy2].toArray 96 (0, 0)) :: .row ary cry 59 3 (pry2 ++ (restS t n Y).map Stp.cs) :: H) (fun w h => Pick.sat (by iterate 60 (try (first | exact Pick.all | (apply Pick.take; (· (repeat (first | exact Out.here | apply Out.there)))) | apply Pick.drop))) h) ?_
                  refine w_callF Try.func45 ?_ (hs := step_any V T1 (by omega) (by omega) (by omega) (hV.mono (by omega)) _ _ _)
                  rintro v m H1 ⟨rfl, rfl, c2, cp2, rfl⟩
                  (try (refine st_E18_1 ?_; intros))
                  refine WQ.next ((atomsOf (restS s n X)).length + (atomsOf (restS t n Y)).length) ⟨k + 4 * T1.atoms.length, cu, cpu, U, c2, cp2, V.step T1, al, ax2, cx2, prx2, restS s n X, ay2, cy2, pry2, restS t n Y, rfl, rfl, rfl, rfl, rfl, ?_, ?_, ?_, ?_, ?_, ?_⟩ (by omega) (by (repeat (first | exact Env.Sub.nil | refine Env.Sub.cons rfl ?_))) (fun w h => Pick.sat (by iterate 60 (try (first | exact Pick.all | (apply Pick.take; (· (repeat (first | exact Out.here | apply Out.there)))) | apply Pick.drop))) h)
                  · exact hX2
                  · exact hY2
                  · exact hU.mono (by omega)
                  · exact bfit_step hV hok2
                  · omega
                  · exact ht
              · rw [if_neg (by omega), if_neg g1] at ht
                by_cases g2 : 0 < T1.k
                · rw [if_pos g2] at ht
                  (try (refine st_E18_1 ?_; intros))
                  refine WL.heap (H' := .blk bu (.cells [.slice cu U.l.length cpu, str U.p, str U.d].toArray 98 (0, 0)) :: .row cu cpu 59 3 (U.l.map Stp.cs) :: .blk bv (.cells [.slice cv V.l.length cpv, str V.p, str V.d].toArray 98 (0, 0)) :: .row cv cpv 59 3 (V.l.map Stp.cs) :: .blk x (.cells [.slice ax2 (restS s n X).length cx2].toArray 96 (0, 0)) :: .row arx crx 59 3 (prx2 ++ (restS s n X).map Stp.cs) :: .blk y (.cells [.slice ay2 (restS t n Y).length cy2].toArray 96 (0, 0)) :: .row ary cry 59 3 (pry2 ++ (restS t n Y).map Stp.cs) :: H) (fun w h => Pick.sat (by iterate 60 (try (first | exact Pick.all | (apply Pick.take; (· (repeat (first | exact Out.here | apply Out.there)))) | apply Pick.drop))) h) ?_
                  refine w_callF Try.func45 ?_ (hs := step_any U S1 (by omega) (by omega) (by omega) (hU.mono (by omega)) _ _ _)
                  rintro v m H1 ⟨rfl, rfl, c2, cp2, rfl⟩
                  (try (refine st_E18_1 ?_; intros))
                  refine WQ.next ((atomsOf (restS s n X)).length + (atomsOf (restS t n Y)).length) ⟨k + 4 * S1.atoms.length, c2, cp2, U.step S1, cv, cpv, V, al, ax2, cx2, prx2, restS s n X, ay2, cy2, pry2, restS t n Y, rfl, rfl, rfl, rfl, rfl, ?_, ?_, ?_, ?_, ?_, ?_⟩ (by omega) (by (repeat (first | exact Env.Sub.nil | refine Env.Sub.cons rfl ?_))) (fun w h => Pick.sat (by iterate 60 (try (first | exact Pick.all | (apply Pick.take; (· (repeat (first | exact Out.here | apply Out.there)))) | apply Pick.drop))) h)
                  · exact hX2
                  · exact hY2
                  · exact bfit_step hU hok1
                  · exact hV.mono (by omega)
                  · omega
                  · exact ht
                · rw [if_neg g2] at ht
                  by_cases g3 : S1.d = T1.d
                  · rw [if_pos g3] at ht
                    (try (refine st_E18_1 ?_; intros))
                    refine WQ.next ((atomsOf (restS s n X)).length + (atomsOf (restS t n Y)).length) ⟨k, cu, cpu, U, cv, cpv, V, al, ax2, cx2, prx2, restS s n X, ay2, cy2, pry2, restS t n Y, rfl, rfl, rfl, rfl, rfl, ?_, ?_, ?_, ?_, ?_, ?_⟩ (by omega) (by (repeat (first | exact Env.Sub.nil | refine Env.Sub.cons rfl ?_))) (fun w h => Pick.sat (by iterate 60 (try (first | exact Pick.all | (apply Pick.take; (· (repeat (first | exact Out.here | apply Out.there)))) | apply Pick.drop))) h)
                    · exact hX2
                    · exact hY2
                    · exact hU
                    · exact hV
                    · omega
                    · exact ht
                  · rw [if_neg g3] at ht
                    have e : carP a b = .inl 270 := by
                      simp only [carP, hsa, hsb]
                      rw [if_neg (fun h => h hmf), ← ht]
                    rw [e]
                    (try (refine st_E18_1 ?_; intros))
                    exact q_fin0 (H0 := H) ⟨rfl, rfl, rfl⟩ (hd := (fun w h => Pick.sat (by iterate 60 (try (first | exact Pick.all | (apply Pick.take; (· (repeat (first | exact Out.here | apply Out.there)))) | apply Pick.drop))) h))
          · rcases Y with _ | ⟨t, Y⟩
            · exact absurd rfl hc2
            · have htok := hyok t List.mem_cons_self
              have e1 : nowS (t :: Y) = t := rfl
              have e2 : (!(t :: Y).isEmpty) = true := rfl
              rw [e1] at hc2
              rw [e1, e2]
              have hl := rest_len hyok (atoms_pos htok) (Nat.le_refl _)
              rw [restS_all, takeS_all htok] at hl
              have hbt := stp_bounds htok
              have hap := atoms_pos htok
              have hpx : ∀ s X', X = s :: X' → s.p = [] := by rintro s X' rfl; exact hc1
              have hz : (!X.isEmpty) = true ∨ (!X.isEmpty) = false := by cases (!X.isEmpty) <;> simp
              have eal : (al : Int) + (t.p.length : Int) = ((al + t.p.length : Nat) : Int) := by omega
              rcases hz with hz | hz
              all_goals
                rw [hz]
                (refine st_E18_1 ?_; intros; rename_i bt)
                refine WL.heap (H' := .blk y (.cells [.slice ay (t :: Y).length cy].toArray 96 (0, 0)) :: .row ary cry 59 3 (pry ++ (t :: Y).map Stp.cs) :: .blk bt (.cells [.int .i64 t.k, str t.d, str t.p].toArray 59 (0, 0)) :: .blk bu (.cells [.slice cu U.l.length cpu, str U.p, str U.d].toArray 98 (0, 0)) :: .row cu cpu 59 3 (U.l.map Stp.cs) :: .blk bv (.cells [.slice cv V.l.length cpv, str V.p, str V.d].toArray 98 (0, 0)) :: .row cv cpv 59 3 (V.l.map Stp.cs) :: .blk x (.cells [.slice ax X.length cx].toArray 96 (0, 0)) :: .row arx crx 59 3 (prx ++ X.map Stp.cs) :: H) (fun w h => Pick.sat (by iterate 60 (try (first | exact Pick.all | (apply Pick.take; (· (repeat (first | exact Out.here | apply Out.there)))) | apply Pick.drop))) h) ?_
                refine w_callF Try.func46 ?_ (hs := take_any _ hY (atoms_pos htok) (Nat.le_refl _) (by omega) _ _ _)
                rintro v m H1 ⟨rfl, rfl, ay2, cy2, pry2, hY2, rfl⟩
                rw [restS_all] at hY2 ⊢
                rw [takeS_all htok]
                (try (refine st_E18_1 ?_; intros))
                refine WL.heap (H' := .blk bv (.cells [.slice cv V.l.length cpv, str V.p, str V.d].toArray 98 (0, 0)) :: .row cv cpv 59 3 (V.l.map Stp.cs) :: .blk bt (.cells [.int .i64 t.k, str t.d, str t.p].toArray 59 (0, 0)) :: .blk bu (.cells [.slice cu U.l.length cpu, str U.p, str U.d].toArray 98 (0, 0)) :: .row cu cpu 59 3 (U.l.map Stp.cs) :: .blk x (.cells [.slice ax X.length cx].toArray 96 (0, 0)) :: .row arx crx 59 3 (prx ++ X.map Stp.cs) :: .blk y (.cells [.slice ay2 Y.length cy2].toArray 96 (0, 0)) :: .row ary cry 59 3 (pry2 ++ Y.map Stp.cs) :: H) (fun w h => Pick.sat (by iterate 60 (try (first | exact Pick.all | (apply Pick.take; (· (repeat (first | exact Out.here | apply Out.there)))) | apply Pick.drop))) h) ?_
                refine w_callF Try.func45 ?_ (hs := step_any V t (by omega) (by omega) (by omega) (hV.mono (by omega)) _ _ _)
                rintro v m H1 ⟨rfl, rfl, c2, cp2, rfl⟩
                (try (refine st_E18_1 ?_; intros))
                refine WL.heap (H' := .blk bu (.cells [.slice cu U.l.length cpu, str U.p, str U.d].toArray 98 (0, 0)) :: .row cu cpu 59 3 (U.l.map Stp.cs) :: .blk bt (.cells [.int .i64 t.k, str t.d, str t.p].toArray 59 (0, 0)) :: .blk bv (.cells [.slice c2 (V.step t).l.length cp2, str (V.step t).p, str (V.step t).d].toArray 98 (0, 0)) :: .row c2 cp2 59 3 ((V.step t).l.map Stp.cs) :: .blk x (.cells [.slice ax X.length cx].toArray 96 (0, 0)) :: .row arx crx 59 3 (prx ++ X.map Stp.cs) :: .blk y (.cells [.slice ay2 Y.length cy2].toArray 96 (0, 0)) :: .row ary cry 59 3 (pry2 ++ Y.map Stp.cs) :: H) (fun w h => Pick.sat (by iterate 60 (try (first | exact Pick.all | (apply Pick.take; (· (repeat (first | exact Out.here | apply Out.there)))) | apply Pick.drop))) h) ?_
                refine w_callF Try.func55 ?_ (hs := keep_any U t.p.length (by omega) (hU.mono (by omega)) _ _ _)
                rintro v m H1 ⟨rfl, rfl, c3, cp3, rfl⟩
                (try (refine st_E18_1 ?_; intros))
                rw [eal]
                refine WQ.next ((atomsOf (X)).length + (atomsOf (Y)).length) ⟨k + 4 * t.atoms.length, c3, cp3, U.keep t.p.length, c2, cp2, V.step t, al + t.p.length, ax, cx, prx, X, ay2, cy2, pry2, Y, rfl, rfl, rfl, rfl, rfl, ?_, ?_, ?_, ?_, ?_, ?_⟩ (by omega) (by (repeat (first | exact Env.Sub.nil | refine Env.Sub.cons rfl ?_))) (fun w h => Pick.sat (by iterate 60 (try (first | exact Pick.all | (apply Pick.take; (· (repeat (first | exact Out.here | apply Out.there)))) | apply Pick.drop))) h)
                · exact hX
                · exact hY2
                · exact hU.keep.mono (by omega)
                · exact bfit_step hV htok
                · omega
                · rw [← ht, cst_py htok hc2 hxok hpx]
        · rcases X with _ | ⟨s, X⟩
          · exact absurd rfl hc1
          · have hsok := hxok s List.mem_cons_self
            have e1 : nowS (s :: X) = s := rfl
            have e2 : (!(s :: X).isEmpty) = true := rfl
            rw [e1] at hc1
            rw [e1, e2]
            have hl := rest_len hxok (atoms_pos hsok) (Nat.le_refl _)
            rw [restS_all, takeS_all hsok] at hl
            have hbs := stp_bounds hsok
            have hap := atoms_pos hsok
            have eal : (al : Int) + (s.p.length : Int) = ((al + s.p.length : Nat) : Int) := by omega
            (refine st_E18_1 ?_; intros; rename_i bt)
            refine WL.heap (H' := .blk x (.cells [.slice ax (s :: X).length cx].toArray 96 (0, 0)) :: .row arx crx 59 3 (prx ++ (s :: X).map Stp.cs) :: .blk bs (.cells [.int .i64 s.k, str s.d, str s.p].toArray 59 (0, 0)) :: .blk bu (.cells [.slice cu U.l.length cpu, str U.p, str U.d].toArray 98 (0, 0)) :: .row cu cpu 59 3 (U.l.map Stp.cs) :: .blk bv (.cells [.slice cv V.l.length cpv, str V.p, str V.d].toArray 98 (0, 0)) :: .row cv cpv 59 3 (V.l.map Stp.cs) :: .blk y (.cells [.slice ay Y.length cy].toArray 96 (0, 0)) :: .row ary cry 59 3 (pry ++ Y.map Stp.cs) :: H) (fun w h => Pick.sat (by iterate 60 (try (first | exact Pick.all | (apply Pick.take; (· (repeat (first | exact Out.here | apply Out.there)))) | apply Pick.drop))) h) ?_
            refine w_callF Try.func46 ?_ (hs := take_any _ hX (atoms_pos hsok) (Nat.le_refl _) (by omega) _ _ _)
            rintro v m H1 ⟨rfl, rfl, ax2, cx2, prx2, hX2, rfl⟩
            rw [restS_all] at hX2 ⊢
            rw [takeS_all hsok]
            (try (refine st_E18_1 ?_; intros))
            refine WL.heap (H' := .blk bu (.cells [.slice cu U.l.length cpu, str U.p, str U.d].toArray 98 (0, 0)) :: .row cu cpu 59 3 (U.l.map Stp.cs) :: .blk bs (.cells [.int .i64 s.k, str s.d, str s.p].toArray 59 (0, 0)) :: .blk bv (.cells [.slice cv V.l.length cpv, str V.p, str V.d].toArray 98 (0, 0)) :: .row cv cpv 59 3 (V.l.map Stp.cs) :: .blk x (.cells [.slice ax2 X.length cx2].toArray 96 (0, 0)) :: .row arx crx 59 3 (prx2 ++ X.map Stp.cs) :: .blk y (.cells [.slice ay Y.length cy].toArray 96 (0, 0)) :: .row ary cry 59 3 (pry ++ Y.map Stp.cs) :: H) (fun w h => Pick.sat (by iterate 60 (try (first | exact Pick.all | (apply Pick.take; (· (repeat (first | exact Out.here | apply Out.there)))) | apply Pick.drop))) h) ?_
            refine w_callF Try.func45 ?_ (hs := step_any U s (by omega) (by omega) (by omega) (hU.mono (by omega)) _ _ _)
            rintro v m H1 ⟨rfl, rfl, c2, cp2, rfl⟩
            (try (refine st_E18_1 ?_; intros))
            refine WL.heap (H' := .blk bv (.cells [.slice cv V.l.length cpv, str V.p, str V.d].toArray 98 (0, 0)) :: .row cv cpv 59 3 (V.l.map Stp.cs) :: .blk bs (.cells [.int .i64 s.k, str s.d, str s.p].toArray 59 (0, 0)) :: .blk bu (.cells [.slice c2 (U.step s).l.length cp2, str (U.step s).p, str (U.step s).d].toArray 98 (0, 0)) :: .row c2 cp2 59 3 ((U.step s).l.map Stp.cs) :: .blk x (.cells [.slice ax2 X.length cx2].toArray 96 (0, 0)) :: .row arx crx 59 3 (prx2 ++ X.map Stp.cs) :: .blk y (.cells [.slice ay Y.length cy].toArray 96 (0, 0)) :: .row ary cry 59 3 (pry ++ Y.map Stp.cs) :: H) (fun w h => Pick.sat (by iterate 60 (try (first | exact Pick.all | (apply Pick.take; (· (repeat (first | exact Out.here | apply Out.there)))) | apply Pick.drop))) h) ?_
            refine w_callF Try.func55 ?_ (hs := keep_any V s.p.length (by omega) (hV.mono (by omega)) _ _ _)
            rintro v m H1 ⟨rfl, rfl, c3, cp3, rfl⟩
            (try (refine st_E18_1 ?_; intros))
            rw [eal]
            refine WQ.next ((atomsOf (X)).length + (atomsOf (Y)).length) ⟨k + 4 * s.atoms.length, c2, cp2, U.step s, c3, cp3, V.keep s.p.length, al + s.p.length, ax2, cx2, prx2, X, ay, cy, pry, Y, rfl, rfl, rfl, rfl, rfl, ?_, ?_, ?_, ?_, ?_, ?_⟩ (by omega) (by (repeat (first | exact Env.Sub.nil | refine Env.Sub.cons rfl ?_))) (fun w h => Pick.sat (by iterate 60 (try (first | exact Pick.all | (apply Pick.take; (· (repeat (first | exact Out.here | apply Out.there)))) | apply Pick.drop))) h)
            · exact hX2
            · exact hY
            · exact bfit_step hU hsok
            · exact hV.keep.mono (by omega)
            · omega
            · rw [← ht, cst_px hsok hc1]
      · have e : carP a b = .inl 5 := by simp only [carP, hsa, hsb]; rw [if_pos hmf]
        rw [e]
        (try (refine st_E18_1 ?_; intros))
        exact q_fin0 (H0 := H) ⟨rfl, rfl, rfl⟩ (hd := (fun w h => Pick.sat (by iterate 60 (try (first | exact Pick.all | (apply Pick.take; (· (repeat (first | exact Out.here | apply Out.there)))) | apply Pick.drop))) h))
end Go.Proofs.Ytelgegefmjlimaa

