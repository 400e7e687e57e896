/-
  Parts of a walk, joined: ET12 ET13 ET14 ET19 E14 E27a EL E15 E18 ET26 EngY E38 ET27 ET28 ET29. No condition.
-/
import Derived.Test.YtelgegefmjlimaaP4
set_option linter.all false
/-
  Plain facts on changes: two changes carried over each other. No condition.
-/
namespace Go.Eng
open Go
/-- two changes byte by byte, carried over each other; none: they are apart -/
def carA : List Atm → List Atm → Option (List Atm × List Atm)
  | .p b :: xs, ys => (carA xs ys).map fun o => (.p b :: o.1, .k :: o.2)
  | [], .p b :: ys => (carA [] ys).map fun o => (.k :: o.1, .p b :: o.2)
  | .k :: xs, .p b :: ys => (carA (.k :: xs) ys).map fun o => (.k :: o.1, .p b :: o.2)
  | .d c :: xs, .p b :: ys => (carA (.d c :: xs) ys).map fun o => (.k :: o.1, .p b :: o.2)
  | .k :: xs, .k :: ys => (carA xs ys).map fun o => (.k :: o.1, .k :: o.2)
  | .d b :: xs, .k :: ys => (carA xs ys).map fun o => (.d b :: o.1, o.2)
  | .k :: xs, .d b :: ys => (carA xs ys).map fun o => (o.1, .d b :: o.2)
  | .d b :: xs, .d c :: ys => if b = c then carA xs ys else none
  | [], [] => some ([], [])
  | [], .k :: _ => some ([], [])
  | [], .d _ :: _ => some ([], [])
  | .k :: _, [] => some ([], [])
  | .d _ :: _, [] => some ([], [])
termination_by xs ys => xs.length + ys.length
theorem carA_px (b : UInt8) (xs ys : List Atm) : carA (.p b :: xs) ys = (carA xs ys).map fun o => (.p b :: o.1, .k :: o.2) := by
  match ys with
  | [] => rw [carA]
  | .k :: _ => rw [carA]
  | .d _ :: _ => rw [carA]
  | .p _ :: _ => rw [carA]
theorem carA_py (b : UInt8) (xs ys : List Atm) (h : notPut xs = true) : carA xs (.p b :: ys) = (carA xs ys).map fun o => (.k :: o.1, .p b :: o.2) := by
  match xs, h with
  | [], _ => rw [carA]
  | .k :: _, _ => rw [carA]
  | .d _ :: _, _ => rw [carA]
  | .p _ :: _, h => simp [notPut] at h
theorem carA_nilX (ys : List Atm) (h : notPut ys = true) : carA [] ys = some ([], []) := by
  match ys, h with
  | [], _ => rw [carA]
  | .k :: _, _ => rw [carA]
  | .d _ :: _, _ => rw [carA]
  | .p _ :: _, h => simp [notPut] at h
theorem carA_nilY (xs : List Atm) (h : notPut xs = true) : carA xs [] = some ([], []) := by
  match xs, h with
  | [], _ => rw [carA]
  | .k :: _, _ => rw [carA]
  | .d _ :: _, _ => rw [carA]
  | .p _ :: _, h => simp [notPut] at h
/-- the answer, from here on, with both builders at hand -/
def carT (U V : Bld) (n : Nat) (xs ys : List Atm) : Option (List Stp × List Stp × Nat) := (carA xs ys).map fun o => ((U.run o.1).close.l, (V.run o.2).close.l, n + toA o.1)
theorem carT_p1 (U V : Bld) (n : Nat) (b : UInt8) (xs ys : List Atm) : carT U V n (.p b :: xs) ys = carT ⟨U.l, U.p ++ [b], U.d⟩ (V.keep 1) (n + 1) xs ys := by
  unfold carT
  rw [carA_px, Option.map_map]
  congr 1; funext o
  simp only [Function.comp, toA]
  rw [show n + (toA o.1 + 1) = n + 1 + toA o.1 by omega]; rfl
theorem carT_q1 (U V : Bld) (n : Nat) (b : UInt8) (xs ys : List Atm) (h : notPut xs = true) : carT U V n xs (.p b :: ys) = carT (U.keep 1) ⟨V.l, V.p ++ [b], V.d⟩ (n + 1) xs ys := by
  unfold carT
  rw [carA_py _ _ _ h, Option.map_map]
  congr 1; funext o
  simp only [Function.comp, toA]
  rw [show n + (toA o.1 + 1) = n + 1 + toA o.1 by omega]; rfl
theorem keep_zero (B : Bld) : B.keep ((0 : Nat) : Int) = B := rfl
theorem keep_succ (B : Bld) (n : Nat) : (B.keep 1).keep (n : Int) = B.keep ((n + 1 : Nat) : Int) := by
  by_cases h : n = 0
  · subst h; rfl
  · rw [keep_keep _ _ _ (by omega) (by omega)]; congr 1; omega
theorem carT_p (xs ys : List Atm) : ∀ (P : List UInt8) (U V : Bld) (n : Nat), carT U V n (P.map .p ++ xs) ys = carT ⟨U.l, U.p ++ P, U.d⟩ (V.keep (P.length : Int)) (n + P.length) xs ys
  | [], U, V, n => by rw [List.length_nil, keep_zero]; simp
  | b :: P, U, V, n => by
    rw [List.map_cons, List.cons_append, carT_p1, carT_p xs ys P, keep_succ, List.length_cons]
    simp only [List.append_assoc, List.singleton_append]
    congr 1; omega
theorem carT_q (xs ys : List Atm) (h : notPut xs = true) : ∀ (P : List UInt8) (U V : Bld) (n : Nat), carT U V n xs (P.map .p ++ ys) = carT (U.keep (P.length : Int)) ⟨V.l, V.p ++ P, V.d⟩ (n + P.length) xs ys
  | [], U, V, n => by rw [List.length_nil, keep_zero]; simp
  | b :: P, U, V, n => by
    rw [List.map_cons, List.cons_append, carT_q1 _ _ _ _ _ _ h, carT_q xs ys h P, keep_succ, List.length_cons]
    simp only [List.append_assoc, List.singleton_append]
    congr 1; omega
theorem carT_kk (xs ys : List Atm) : ∀ (m : Nat) (U V : Bld) (n : Nat), carT U V n (List.replicate m .k ++ xs) (List.replicate m .k ++ ys) = carT (U.keep (m : Int)) (V.keep (m : Int)) (n + m) xs ys
  | 0, U, V, n => by simp [keep_zero, show U.keep 0 = U from rfl, show V.keep 0 = V from rfl]
  | m + 1, U, V, n => by
    have e : carT U V n (.k :: (List.replicate m .k ++ xs)) (.k :: (List.replicate m .k ++ ys)) = carT (U.keep 1) (V.keep 1) (n + 1) (List.replicate m .k ++ xs) (List.replicate m .k ++ ys) := by
      unfold carT
      rw [carA, Option.map_map]
      congr 1; funext o
      simp only [Function.comp, toA]
      rw [show n + (toA o.1 + 1) = n + 1 + toA o.1 by omega]; rfl
    rw [List.replicate_succ, List.cons_append, List.cons_append, e, carT_kk xs ys m, keep_succ, keep_succ]
    congr 1; omega
theorem carT_dk (xs ys : List Atm) : ∀ (ds : List UInt8) (U V : Bld) (n : Nat), carT U V n (ds.map .d ++ xs) (List.replicate ds.length .k ++ ys) = carT ⟨U.l, U.p, U.d ++ ds⟩ V n xs ys
  | [], U, V, n => by simp
  | b :: ds, U, V, n => by
    have e : carT U V n (.d b :: (ds.map .d ++ xs)) (.k :: (List.replicate ds.length .k ++ ys)) = carT ⟨U.l, U.p, U.d ++ [b]⟩ V n (ds.map .d ++ xs) (List.replicate ds.length .k ++ ys) := by
      unfold carT
      rw [carA, Option.map_map]
      congr 1
    rw [List.map_cons, List.length_cons, List.replicate_succ, List.cons_append, List.cons_append, e, carT_dk xs ys ds]
    simp
theorem carT_kd (xs ys : List Atm) : ∀ (ds : List UInt8) (U V : Bld) (n : Nat), carT U V n (List.replicate ds.length .k ++ xs) (ds.map .d ++ ys) = carT U ⟨V.l, V.p, V.d ++ ds⟩ n xs ys
  | [], U, V, n => by simp
  | b :: ds, U, V, n => by
    have e : carT U V n (.k :: (List.replicate ds.length .k ++ xs)) (.d b :: (ds.map .d ++ ys)) = carT U ⟨V.l, V.p, V.d ++ [b]⟩ n (List.replicate ds.length .k ++ xs) (ds.map .d ++ ys) := by
      unfold carT
      rw [carA, Option.map_map]
      congr 1
    rw [List.map_cons, List.length_cons, List.replicate_succ, List.cons_append, List.cons_append, e, carT_kd xs ys ds]
    simp
theorem carT_dd (xs ys : List Atm) (U V : Bld) (n : Nat) : ∀ (ds es : List UInt8), ds.length = es.length → carT U V n (ds.map .d ++ xs) (es.map .d ++ ys) = if ds = es then carT U V n xs ys else none
  | [], [], _ => by simp
  | b :: ds, c :: es, h => by
    have e : carT U V n (.d b :: (ds.map .d ++ xs)) (.d c :: (es.map .d ++ ys)) = if b = c then carT U V n (ds.map .d ++ xs) (es.map .d ++ ys) else none := by
      unfold carT
      rw [carA]
      split <;> rfl
    rw [List.map_cons, List.map_cons, List.cons_append, List.cons_append, e, carT_dd xs ys U V n ds es (by simpa using h)]
    by_cases hb : b = c
    · subst hb; simp
    · simp [hb]
  | [], _ :: _, h => by simp at h
  | _ :: _, [], h => by simp at h
theorem carT_nilX (U V : Bld) (n : Nat) (ys : List Atm) (h : notPut ys = true) : carT U V n [] ys = some (U.close.l, V.close.l, n) := by
  unfold carT; rw [carA_nilX _ h]; rfl
theorem carT_nilY (U V : Bld) (n : Nat) (xs : List Atm) (h : notPut xs = true) : carT U V n xs [] = some (U.close.l, V.close.l, n) := by
  unfold carT; rw [carA_nilY _ h]; rfl
/-- the same step by step -/
theorem cst_px {U V : Bld} {n : Nat} {X Y : List Stp} {s : Stp} (hs : stpOk s) (hp : s.p ≠ []) : carT U V n (atomsOf (s :: X)) (atomsOf Y) = carT (U.step s) (V.keep (s.p.length : Int)) (n + s.p.length) (atomsOf X) (atomsOf Y) := by
  rcases step_kinds hs with ⟨h1, h2, h3, e⟩ | ⟨h1, h2, h3, e⟩ | ⟨h1, h2, h3, e⟩
  · exact absurd h3 hp
  · exact absurd h3 hp
  · rw [atoms_cons, e, carT_p]
    congr 1
    unfold Bld.step; rw [if_neg (by omega), if_neg (fun h => h h2)]
theorem cst_py {U V : Bld} {n : Nat} {X Y : List Stp} {t : Stp} (ht : stpOk t) (hp : t.p ≠ []) (hX : ∀ x ∈ X, stpOk x) (hq : ∀ s X', X = s :: X' → s.p = []) : carT U V n (atomsOf X) (atomsOf (t :: Y)) = carT (U.keep (t.p.length : Int)) (V.step t) (n + t.p.length) (atomsOf X) (atomsOf Y) := by
  rcases step_kinds ht with ⟨h1, h2, h3, e⟩ | ⟨h1, h2, h3, e⟩ | ⟨h1, h2, h3, e⟩
  · exact absurd h3 hp
  · exact absurd h3 hp
  · rw [atoms_cons, e, carT_q _ _ (notPut_atoms hX hq)]
    congr 1
    unfold Bld.step; rw [if_neg (by omega), if_neg (fun h => h h2)]
theorem step_d {B : Bld} {s : Stp} (h : ¬ 0 < s.k) (h2 : s.d ≠ []) : B.step s = ⟨B.l, B.p, B.d ++ s.d⟩ := by unfold Bld.step; rw [if_neg h, if_pos h2]
theorem cst_both {U V : Bld} {q : Nat} {X Y : List Stp} {s t : Stp} {n : Nat} (hX : ∀ x ∈ s :: X, stpOk x) (hY : ∀ y ∈ t :: Y, stpOk y) (hs0 : s.p = []) (ht0 : t.p = []) (h0 : 0 < n) (hs : n ≤ s.atoms.length) (ht : n ≤ t.atoms.length) :
    carT U V q (atomsOf (s :: X)) (atomsOf (t :: Y)) =
      if 0 < (takeS s n).k ∧ 0 < (takeS t n).k then carT (U.keep (n : Int)) (V.keep (n : Int)) (q + n) (atomsOf (restS s n X)) (atomsOf (restS t n Y))
      else if 0 < (takeS s n).k then carT U (V.step (takeS t n)) q (atomsOf (restS s n X)) (atomsOf (restS t n Y))
      else if 0 < (takeS t n).k then carT (U.step (takeS s n)) V q (atomsOf (restS s n X)) (atomsOf (restS t n Y))
      else if (takeS s n).d = (takeS t n).d then carT U V q (atomsOf (restS s n X)) (atomsOf (restS t n Y)) else none := by
  have a1 := takeS_kind (hX s List.mem_cons_self) h0 hs
  have a2 := takeS_kind (hY t List.mem_cons_self) h0 ht
  have o1 := (takeS_ok (hX s List.mem_cons_self) h0 hs).1
  have o2 := (takeS_ok (hY t List.mem_cons_self) h0 ht).1
  rw [parts_S hX h0 hs, parts_S hY h0 ht]
  generalize takeS s n = s1 at *
  generalize takeS t n = t1 at *
  have p1 : s1.p = [] := a1.2.2.1.2 hs0
  have p2 : t1.p = [] := a2.2.2.1.2 ht0
  have l1 := a1.2.2.2
  have l2 := a2.2.2.2
  rcases step_kinds o1 with ⟨h1, h2, h3, e⟩ | ⟨h1, h2, h3, e⟩ | ⟨h1, h2, h3, e⟩
  · have el : s1.k.toNat = n := by rw [e] at l1; simpa using l1
    rcases step_kinds o2 with ⟨g1, g2, g3, f⟩ | ⟨g1, g2, g3, f⟩ | ⟨g1, g2, g3, f⟩
    · have el2 : t1.k.toNat = n := by rw [f] at l2; simpa using l2
      rw [if_pos ⟨h1, g1⟩, e, f, el, el2, carT_kk]
    · have el2 : t1.d.length = n := by rw [f] at l2; simpa using l2
      rw [if_neg (by omega), if_pos h1, e, f, el, ← el2, carT_kd, step_d (by omega) g2]
    · exact absurd p2 g3
  · have el : s1.d.length = n := by rw [e] at l1; simpa using l1
    rcases step_kinds o2 with ⟨g1, g2, g3, f⟩ | ⟨g1, g2, g3, f⟩ | ⟨g1, g2, g3, f⟩
    · have el2 : t1.k.toNat = n := by rw [f] at l2; simpa using l2
      rw [if_neg (by omega), if_neg (by omega), if_pos g1, e, f, el2, ← el, carT_dk, step_d (by omega) h2]
    · have el2 : t1.d.length = n := by rw [f] at l2; simpa using l2
      rw [if_neg (by omega), if_neg (by omega), if_neg (by omega), e, f, carT_dd _ _ _ _ _ _ _ (by omega)]
    · exact absurd p2 g3
  · exact absurd p1 h3
theorem cst_nilX {U V : Bld} {n : Nat} {Y : List Stp} (hY : ∀ y ∈ Y, stpOk y) (hp : ∀ t Y', Y = t :: Y' → t.p = []) : carT U V n (atomsOf []) (atomsOf Y) = some (U.close.l, V.close.l, n) := carT_nilX _ _ _ _ (notPut_atoms hY hp)
theorem cst_nilY {U V : Bld} {n : Nat} {X : List Stp} (hX : ∀ x ∈ X, stpOk x) (hp : ∀ s X', X = s :: X' → s.p = []) : carT U V n (atomsOf X) (atomsOf []) = some (U.close.l, V.close.l, n) := carT_nilY _ _ _ _ (notPut_atoms hX hp)
/-- what two changes carried over each other come to -/
def carP (a b : List Stp) : Int ⊕ (List Stp × List Stp) := match sizesOf a, sizesOf b with
  | some (from_, _), some (same, _) => if from_ ≠ same then .inl 5 else match carT Bld.start Bld.start 0 (nfOf (gapsOf a)) (nfOf (gapsOf b)) with
    | none => .inl 270
    | some (u, v, n) => if 65536 < n then .inl 3 else .inr (u, v)
  | _, _ => .inl 2
end Go.Eng

/-
  Plain facts on changes: carried over each other they come to one text; one behind the other the same. No condition.
-/
namespace Go.Eng
open Go
/-- what a change makes does not depend on the order of what is put and dropped -/
theorem apply_congr (X Y : List Atm) (h : ∀ s, applyA s X = applyA s Y) : ∀ (pre : List Atm) (s : List UInt8), applyA s (pre ++ X) = applyA s (pre ++ Y)
  | [], s => h s
  | .p b :: pre, s => by rw [List.cons_append, List.cons_append, applyA_p, applyA_p, apply_congr X Y h pre s]
  | .k :: pre, [] => rfl
  | .k :: pre, c :: s => by rw [List.cons_append, List.cons_append, applyA, applyA, apply_congr X Y h pre s]
  | .d b :: pre, [] => rfl
  | .d b :: pre, c :: s => by rw [List.cons_append, List.cons_append, applyA, applyA, apply_congr X Y h pre s]
theorem applyA_dc (c b : UInt8) (s : List UInt8) (l : List Atm) : applyA (c :: s) (.d b :: l) = if c = b then applyA s l else none := rfl
theorem apply_swap (c : UInt8) (L : List Atm) : ∀ (ds s : List UInt8), applyA s (ds.map .d ++ .p c :: L) = applyA s (.p c :: (ds.map .d ++ L))
  | [], s => rfl
  | b :: ds, [] => by rw [applyA_p]; rfl
  | b :: ds, e :: s => by
    rw [List.map_cons, List.cons_append, List.cons_append, applyA_dc, apply_swap c L ds s, applyA_p, applyA_p, applyA_dc]
    split <;> rfl
theorem apply_atom (g : Gs) (a : Atm) (L : List Atm) (s : List UInt8) : applyA s (nfOf (g.atom a) ++ L) = applyA s (nfOf g ++ a :: L) := by
  cases a with
  | k => simp [Gs.atom, nfOf, gapA]
  | d c => simp [Gs.atom, nfOf, gapA]
  | p c =>
    simp only [Gs.atom, nfOf, gapA, List.map_append, List.map_cons, List.map_nil, List.append_assoc, List.cons_append, List.nil_append]
    rw [← List.append_assoc, ← List.append_assoc (g.done.flatMap _)]
    exact apply_congr _ _ (fun s => (apply_swap c L g.cur.d s).symm) _ s
theorem apply_run : ∀ (L : List Atm) (g : Gs) (s : List UInt8), applyA s (nfOf (g.run L)) = applyA s (nfOf g ++ L)
  | [], g, s => by rw [List.append_nil]; rfl
  | a :: L, g, s => by
    rw [show g.run (a :: L) = (g.atom a).run L from rfl, apply_run L (g.atom a) s, apply_atom]
theorem apply_start (L : List Atm) (s : List UInt8) : applyA s (nfOf (Gs.start.run L)) = applyA s L := apply_run L Gs.start s
/-- the builder over bytes is the builder over gaps -/
theorem bld_atom (g : Gs) (a : Atm) : (bldGs g).atom a = bldGs (g.atom a) := by
  cases a with
  | k => simp [Bld.atom, bldGs, Gs.atom, bldGap]
  | d c => simp [Bld.atom, bldGs, Gs.atom]
  | p c => simp [Bld.atom, bldGs, Gs.atom]
theorem bld_run : ∀ (L : List Atm) (g : Gs), (bldGs g).run L = bldGs (g.run L)
  | [], _ => rfl
  | a :: L, g => by
    rw [show g.run (a :: L) = (g.atom a).run L from rfl, ← bld_run L (g.atom a), ← bld_atom]; rfl
theorem start_run (L : List Atm) : Bld.start.run L = bldGs (Gs.start.run L) := bld_run L Gs.start
/-- the list that a builder makes of bytes -/
def listOf (L : List Atm) : List Stp := (Bld.start.run L).close.l
theorem list_ok (L : List Atm) : (∀ s ∈ listOf L, stpOk s) ∧ atomsOf (listOf L) = nfOf (Gs.start.run L) := by
  unfold listOf
  rw [start_run]
  exact ⟨close_ok _ (bldGs_atoms _).2, by rw [close_atoms, (bldGs_atoms _).1]⟩
theorem run_nf (g : Gs) : Gs.start.run (nfOf g) = g := by
  have h : ∀ (l : List Gap) (D : List Gap), (⟨D, ⟨[], []⟩⟩ : Gs).run (l.flatMap fun x => gapA x ++ [.k]) = ⟨D ++ l, ⟨[], []⟩⟩ := by
    intro l
    induction l with
    | nil => intro D; simp [Gs.run]
    | cons x l ih =>
      intro D
      rw [List.flatMap_cons, grun_append, grun_append, gapA, grun_append, grun_p, grun_d]
      have : (⟨D, ⟨[] ++ x.p, [] ++ x.d⟩⟩ : Gs).run [.k] = ⟨D ++ [x], ⟨[], []⟩⟩ := by simp [Gs.run, Gs.atom]
      rw [this, ih]; simp
  obtain ⟨D, c⟩ := g
  unfold nfOf
  rw [grun_append, show Gs.start = ⟨[], ⟨[], []⟩⟩ from rfl, h, gapA, grun_append, grun_p, grun_d]
  simp
theorem list_gaps (L : List Atm) : gapsOf (listOf L) = Gs.start.run L := by
  rw [gapsOf_run _ (list_ok L).1, (list_ok L).2, run_nf]
theorem list_sizes (L : List Atm) : fromA (atomsOf (listOf L)) = fromA L ∧ toA (atomsOf (listOf L)) = toA L := by
  obtain ⟨h1, h2⟩ := nf_run L Gs.start
  rw [(list_ok L).2, h1, h2]
  simp [Gs.start, nfOf, gapA, fromA, toA]
theorem plain_list (l : List Stp) : plainOf l = listOf (nfOf (gapsOf l)) := plain_run l
/-- sizes of a change that may be, the other way round -/
theorem sizesF_of : ∀ (l : List Stp) (f t : Int), (∀ s ∈ l, stpOk s) → 0 ≤ f → 0 ≤ t → f + (fromA (atomsOf l) : Int) ≤ maxT → t + (toA (atomsOf l) : Int) ≤ maxT → sizesF l f t = some (f + (fromA (atomsOf l) : Int), t + (toA (atomsOf l) : Int))
  | [], f, t, _, _, _, _, _ => by simp [sizesF, atomsOf, fromA, toA]
  | s :: l, f, t, h, h1, h2, h3, h4 => by
    have hs := h s List.mem_cons_self
    have hk : 0 ≤ s.k := by rcases hs with ⟨h, _, _⟩ | ⟨h, _, _⟩ | ⟨h, _, _⟩ <;> omega
    rw [atoms_cons] at h3 h4 ⊢
    rw [fromA_append, from_step] at h3 ⊢
    rw [toA_append, to_step] at h4 ⊢
    rw [sizesF, if_pos ⟨hs, by omega, by omega, by omega⟩, sizesF_of l _ _ (fun x hx => h x (List.mem_cons_of_mem _ hx)) (by omega) (by omega) (by omega) (by omega)]
    simp only [Option.some.injEq, Prod.mk.injEq]
    omega
theorem sizesOf_of {l : List Stp} (h : ∀ s ∈ l, stpOk s) (h1 : fromA (atomsOf l) ≤ 65536) (h2 : toA (atomsOf l) ≤ 65536) : sizesOf l = some ((fromA (atomsOf l) : Int), (toA (atomsOf l) : Int)) := by
  unfold sizesOf
  rw [sizesF_of l 0 0 h (by omega) (by omega) (by unfold maxT; omega) (by unfold maxT; omega)]
  simp
theorem sizes_list (L : List Atm) (h1 : fromA L ≤ 65536) (h2 : toA L ≤ 65536) : sizesOf (listOf L) = some ((fromA L : Int), (toA L : Int)) := by
  obtain ⟨e1, e2⟩ := list_sizes L
  rw [sizesOf_of (list_ok L).1 (by omega) (by omega), e1, e2]
theorem apply_list (L : List Atm) (s : List UInt8) : applyA s (atomsOf (listOf L)) = applyA s L := by rw [(list_ok L).2, apply_start]
/-- how many bytes a change makes of a text -/
theorem apply_len : ∀ (A : List Atm) (s t : List UInt8), applyA s A = some t → t.length = toA A
  | [], s, t, h => by rw [applyA_nil] at h; cases h; rfl
  | .p b :: A, s, t, h => by
    rw [applyA_p] at h
    obtain ⟨t', h', rfl⟩ := Option.map_eq_some_iff.1 h
    simp [toA, apply_len A s t' h']
  | .k :: A, [], t, h => by cases h
  | .k :: A, c :: s, t, h => by
    rw [applyA] at h
    obtain ⟨t', h', rfl⟩ := Option.map_eq_some_iff.1 h
    simp [toA, apply_len A s t' h']
  | .d b :: A, [], t, h => by cases h
  | .d b :: A, c :: s, t, h => by
    rw [applyA] at h
    split at h
    · simpa [toA] using apply_len A s t h
    · cases h
end Go.Eng

/-
  Plain facts on changes: how much composing and carrying make. No condition.
-/
namespace Go.Eng
open Go
theorem carT_list (A B : List Atm) : carT Bld.start Bld.start 0 A B = (carA A B).map fun o => (listOf o.1, listOf o.2, 0 + toA o.1) := rfl
/-- what a change that may be is of, in its one form -/
theorem nf_len {l : List Stp} {f t : Int} (h : sizesOf l = some (f, t)) : (nfOf (gapsOf l)).length ≤ 131072 ∧ (fromA (nfOf (gapsOf l)) : Int) = f ∧ (toA (nfOf (gapsOf l)) : Int) = t := by
  obtain ⟨h1, h2, h3, h4, h5⟩ := sizesOf_some h
  have hok : ∀ s ∈ l, stpOk s := fun s hs => (h1 s hs).1
  obtain ⟨n1, n2⟩ := nf_sizes l hok
  have := atoms_le (nfOf (gapsOf l))
  unfold maxT at h4 h5
  omega
end Go.Eng

/-
  Plain facts on changes: lists that builders make, applied. No condition.
-/
namespace Go.Eng
open Go
theorem mem_atoms {l : List Stp} {s : Stp} (h : s ∈ l) : s.atoms.length ≤ (atomsOf l).length := by
  obtain ⟨x, y, rfl⟩ := List.append_of_mem h
  rw [atoms_append, atoms_cons, List.length_append, List.length_append]; omega
theorem fit_list {L : List Atm} (h1 : fromA L ≤ 65536) (h2 : toA L ≤ 65536) : Fit (listOf L) := by
  obtain ⟨e1, e2⟩ := list_sizes L
  have hok := (list_ok L).1
  have ha := atoms_le (atomsOf (listOf L))
  have hl := steps_le (listOf L) hok
  refine ⟨by omega, fun s hs => ?_, fun s hs => ?_, fun s hs => ?_⟩
  all_goals
    have := mem_atoms hs
    have hb := stp_bounds (hok s hs)
    omega
def okV (t : List UInt8) : Value := .tuple #[str t, .int .i64 0]
end Go.Eng

/-
  The walks of package edit, a stream's methods: size, now, take. No condition.
-/
namespace Go.Eng
open Go Go.RowKit
theorem Does.gives_mem {P : Program} {w0 : World} {m : Mem} {H : SHeap} {f : FuncId} {args : Array Value} {v : Value} {i : Item} (hm : i ∈ H) (h : ∀ H1, Does P f args w0 m (i :: H1) (Gives v m (i :: H1))) : Does P f args w0 m H (Gives v m H) := by
  intro w hs
  obtain ⟨H1, hp⟩ := hs.at_ hm
  refine (h H1 w (hs.perm hp)).mono ?_
  rintro e w' ⟨v', m', H', he, ⟨rfl, rfl, rfl⟩, hs'⟩
  exact ⟨_, _, _, he, ⟨rfl, rfl, rfl⟩, hs'.perm hp.symm⟩
section
variable {P : Program} {ro : Option Nat} {n : Nat} {w0 : World} {Q : Exit → Act → World → Prop} {r : Env} {ds : List Nat} {m : Mem} {H : SHeap} {ops : Array Oper} {l : List Oper} {d : Nat} {t ty : TypeId} {pos : String} {after : Array Edge}
theorem WL.indexAddr0 {e : TypeId} {x y : Operand} {a : Addr} {j k cap sz : Nat} {ki : IntKind} (hx : r.ev x = some (.slice (some (a.add j)) k cap)) (hy : r.ev y = some (.int ki 0)) (hu : P.underlying t = some (.slice e)) (hsz : sizeB P e = some sz)
    (hi : 0 < k) (hd : Nat.blt d n = true) (h : WL P ro n w0 ops Q l ((d, .pointer (some (a.add j))) :: r) ds m H) :
    WL P ro n w0 ops Q (⟨some d, .indexAddr t x y, ty, pos, after, none⟩ :: l) r ds m H := by
  refine WL.indexAddr (i := 0) hx hy rfl hu hsz hi hd ?_
  rw [addadd, Nat.zero_mul, Nat.add_zero]
  exact h
end
/-- a stream: what is left of a change, in a list of its own -/
structure Strm (a1 : Option Addr) (c1 : Nat) (ar : Option Addr) (pre : List (List Value)) (X : List Stp) : Prop where
  at_ : X ≠ [] → ∃ a0, ar = some a0 ∧ a1 = some (a0.add (pre.length * 3))
  cap : X.length ≤ c1
  ok : ∀ s ∈ X, stpOk s
theorem Does.gives_out2 {P : Program} {w0 : World} {m : Mem} {H H1 H2 : SHeap} {i1 i2 : Item} {f : FuncId} {args : Array Value} {v : Value} (o1 : Out i1 H H1) (o2 : Out i2 H1 H2) (h : ∀ H', Does P f args w0 m (i1 :: i2 :: H') (Gives v m (i1 :: i2 :: H'))) : Does P f args w0 m H (Gives v m H) := by
  have hp : List.Perm H (i1 :: i2 :: H2) := o1.perm.trans (List.Perm.cons _ o2.perm)
  intro w hs
  refine (h H2 w (hs.perm hp)).mono ?_
  rintro e w' ⟨v', m', H', he, ⟨rfl, rfl, rfl⟩, hs'⟩
  exact ⟨_, _, _, he, ⟨rfl, rfl, rfl⟩, hs'.perm hp.symm⟩
end Go.Eng
namespace Go.Proofs.Ytelgegefmjlimaa
open Go Go.Eng
set_option maxRecDepth 100000
set_option maxHeartbeats 4000000
set_option linter.all false
attribute [local irreducible] WL WC WQ QFun QLoop Does Q1 QRound QAssign Go.Addr.add
theorem size_any {s : Stp} (hok : stpOk s) (hl : s.atoms.length ≤ 100000000000) (w0 : World) (m : Mem) (H : SHeap) :
    Does Try.prog 47 #[s.v] w0 m H (Gives (.int .i64 (s.atoms.length : Int)) m H) := by
  refine Does.of_body (args := [.agg #[.int .i64 s.k, str s.d, str s.p]]) Try.func47 rfl Try.ntmps47 rfl ?_
  have hl2 := atoms_len s
  have hk : 0 ≤ s.k := by rcases hok with ⟨h, _, _⟩ | ⟨h, _, _⟩ | ⟨h, _, _⟩ <;> omega
  (try (refine st ?_; intros))
  rw [show s.k + (s.d.length : Int) + (s.p.length : Int) = (s.atoms.length : Int) by omega]
  (try (refine st ?_; intros))
  exact q_fin0 (H0 := H) (Gives.mk rfl) (hd := zpk)
theorem sq_E14_1 {G : Prop} (h : G := by (repeat (first | (refine sp ?_; (repeat intro zzc)) | (refine WL.indexAddr0 rfl rfl rfl rfl (by simp) rfl ?_))); exact WQ.q1 rfl) : G := h
theorem st_E14_1 {G G' : Prop} (next : G') (h : Bx G' → G := by intro zzn; (first | ((refine st ?_; (repeat intro zzc)); (try ((first | (refine WL.indexAddr0 rfl rfl rfl rfl (by simp) rfl ?_) | ((refine iDraw ?_; (first | refine WC.drawAll rfl (by decide +kernel) ?_ | refine WC.draw 1 rfl (by decide +kernel) ?_ | refine WC.draw 2 rfl (by decide +kernel) ?_ | refine WC.draw 3 rfl (by decide +kernel) ?_ | refine WC.draw 4 rfl (by decide +kernel) ?_ | refine WC.draw 5 rfl (by decide +kernel) ?_ | refine WC.draw 6 rfl (by decide +kernel) ?_ | refine WC.draw 7 rfl (by decide +kernel) ?_ | refine WC.draw 8 rfl (by decide +kernel) ?_ | refine WC.draw 9 rfl (by decide +kernel) ?_ | refine WC.draw 10 rfl (by decide +kernel) ?_ | refine WC.draw 11 rfl (by decide +kernel) ?_ | refine WC.draw 12 rfl (by decide +kernel) ?_ | refine WC.draw 13 rfl (by decide +kernel) ?_ | refine WC.draw 14 rfl (by decide +kernel) ?_ | refine WC.draw 15 rfl (by decide +kernel) ?_ | refine WC.draw 16 rfl (by decide +kernel) ?_ | refine WC.draw 17 rfl (by decide +kernel) ?_ | refine WC.draw 18 rfl (by decide +kernel) ?_ | refine WC.draw 19 rfl (by decide +kernel) ?_ | refine WC.draw 20 rfl (by decide +kernel) ?_ | refine WC.draw 21 rfl (by decide +kernel) ?_ | refine WC.draw 22 rfl (by decide +kernel) ?_ | refine WC.draw 23 rfl (by decide +kernel) ?_ | refine WC.draw 24 rfl (by decide +kernel) ?_)); (repeat (refine WD.cons rfl (fun c h => by cases h) sq_E14_1 ?_)); refine WD.nil ?_)); (try (refine st ?_; (repeat intro zzc)))))) | ((first | (refine WL.indexAddr0 rfl rfl rfl rfl (by simp) rfl ?_) | ((refine iDraw ?_; (first | refine WC.drawAll rfl (by decide +kernel) ?_ | refine WC.draw 1 rfl (by decide +kernel) ?_ | refine WC.draw 2 rfl (by decide +kernel) ?_ | refine WC.draw 3 rfl (by decide +kernel) ?_ | refine WC.draw 4 rfl (by decide +kernel) ?_ | refine WC.draw 5 rfl (by decide +kernel) ?_ | refine WC.draw 6 rfl (by decide +kernel) ?_ | refine WC.draw 7 rfl (by decide +kernel) ?_ | refine WC.draw 8 rfl (by decide +kernel) ?_ | refine WC.draw 9 rfl (by decide +kernel) ?_ | refine WC.draw 10 rfl (by decide +kernel) ?_ | refine WC.draw 11 rfl (by decide +kernel) ?_ | refine WC.draw 12 rfl (by decide +kernel) ?_ | refine WC.draw 13 rfl (by decide +kernel) ?_ | refine WC.draw 14 rfl (by decide +kernel) ?_ | refine WC.draw 15 rfl (by decide +kernel) ?_ | refine WC.draw 16 rfl (by decide +kernel) ?_ | refine WC.draw 17 rfl (by decide +kernel) ?_ | refine WC.draw 18 rfl (by decide +kernel) ?_ | refine WC.draw 19 rfl (by decide +kernel) ?_ | refine WC.draw 20 rfl (by decide +kernel) ?_ | refine WC.draw 21 rfl (by decide +kernel) ?_ | refine WC.draw 22 rfl (by decide +kernel) ?_ | refine WC.draw 23 rfl (by decide +kernel) ?_ | refine WC.draw 24 rfl (by decide +kernel) ?_)); (repeat (refine WD.cons rfl (fun c h => by cases h) sq_E14_1 ?_)); refine WD.nil ?_)); (try (refine st ?_; (repeat intro zzc))))); (repeat ((first | (refine WL.indexAddr0 rfl rfl rfl rfl (by simp) rfl ?_) | ((refine iDraw ?_; (first | refine WC.drawAll rfl (by decide +kernel) ?_ | refine WC.draw 1 rfl (by decide +kernel) ?_ | refine WC.draw 2 rfl (by decide +kernel) ?_ | refine WC.draw 3 rfl (by decide +kernel) ?_ | refine WC.draw 4 rfl (by decide +kernel) ?_ | refine WC.draw 5 rfl (by decide +kernel) ?_ | refine WC.draw 6 rfl (by decide +kernel) ?_ | refine WC.draw 7 rfl (by decide +kernel) ?_ | refine WC.draw 8 rfl (by decide +kernel) ?_ | refine WC.draw 9 rfl (by decide +kernel) ?_ | refine WC.draw 10 rfl (by decide +kernel) ?_ | refine WC.draw 11 rfl (by decide +kernel) ?_ | refine WC.draw 12 rfl (by decide +kernel) ?_ | refine WC.draw 13 rfl (by decide +kernel) ?_ | refine WC.draw 14 rfl (by decide +kernel) ?_ | refine WC.draw 15 rfl (by decide +kernel) ?_ | refine WC.draw 16 rfl (by decide +kernel) ?_ | refine WC.draw 17 rfl (by decide +kernel) ?_ | refine WC.draw 18 rfl (by decide +kernel) ?_ | refine WC.draw 19 rfl (by decide +kernel) ?_ | refine WC.draw 20 rfl (by decide +kernel) ?_ | refine WC.draw 21 rfl (by decide +kernel) ?_ | refine WC.draw 22 rfl (by decide +kernel) ?_ | refine WC.draw 23 rfl (by decide +kernel) ?_ | refine WC.draw 24 rfl (by decide +kernel) ?_)); (repeat (refine WD.cons rfl (fun c h => by cases h) sq_E14_1 ?_)); refine WD.nil ?_)); (try (refine st ?_; (repeat intro zzc))))); (repeat revert zzc); exact zzn.out) : G := h ⟨next⟩
theorem now_front {a1 : Option Addr} {c1 x cr : Nat} {ar : Option Addr} {pre : List (List Value)} {s : Stp} {X : List Stp} (h : Strm a1 c1 ar pre (s :: X)) (w0 : World) (m : Mem) (H : SHeap) :
    Does Try.prog 44 #[.pointer (some ⟨x, 0, none⟩)] w0 m (.blk x (.cells [.slice a1 (s :: X).length c1].toArray 96 (0, 0)) :: .row ar cr 59 3 (pre ++ (s :: X).map Stp.cs) :: H) (Gives (.tuple #[s.v, .bool true]) m (.blk x (.cells [.slice a1 (s :: X).length c1].toArray 96 (0, 0)) :: .row ar cr 59 3 (pre ++ (s :: X).map Stp.cs) :: H)) := by
  refine Does.of_body (args := [.pointer (some ⟨x, 0, none⟩)]) Try.func44 rfl Try.ntmps44 rfl ?_
  obtain ⟨a0, rfl, rfl⟩ := h.at_ (by simp)
  have hget : (pre ++ (s :: X).map Stp.cs)[pre.length]? = some s.cs := by simp
  have hl0 : (s :: X).length = X.length + 1 := rfl
  generalize pre ++ (s :: X).map Stp.cs = E at *
  (try (refine st_E14_1 ?_; intros))
  exact q_fin0 (H0 := .blk x (.cells [.slice (some (a0.add (pre.length * 3))) (s :: X).length c1].toArray 96 (0, 0)) :: .row (some a0) cr 59 3 E :: H) (Gives.mk rfl) (hd := zpk)
theorem now_cons {a1 : Option Addr} {c1 x cr : Nat} {ar : Option Addr} {pre : List (List Value)} {s : Stp} {X : List Stp} (h : Strm a1 c1 ar pre (s :: X)) {w0 : World} {m : Mem} {H H1 H2 : SHeap}
    (o1 : Out (.blk x (.cells [.slice a1 (s :: X).length c1].toArray 96 (0, 0))) H H1) (o2 : Out (.row ar cr 59 3 (pre ++ (s :: X).map Stp.cs)) H1 H2) :
    Does Try.prog 44 #[.pointer (some ⟨x, 0, none⟩)] w0 m H (Gives (.tuple #[s.v, .bool true]) m H) := Does.gives_out2 o1 o2 fun _ => now_front h _ _ _
theorem now_nil {a1 : Option Addr} {c1 x k : Nat} (hk : k = 0) {w0 : World} {m : Mem} {H : SHeap} (hm : Item.blk x (.cells [.slice a1 k c1].toArray 96 (0, 0)) ∈ H) :
    Does Try.prog 44 #[.pointer (some ⟨x, 0, none⟩)] w0 m H (Gives (.tuple #[.agg #[.int .i64 0, str [], str []], .bool false]) m H) := by
  refine Does.gives_mem hm fun H => ?_
  refine Does.of_body (args := [.pointer (some ⟨x, 0, none⟩)]) Try.func44 rfl Try.ntmps44 rfl ?_
  (try (refine st_E14_1 ?_; intros))
  exact q_fin0 (H0 := .blk x (.cells [.slice a1 k c1].toArray 96 (0, 0)) :: H) (Gives.mk rfl) (hd := zpk)
/-- what a take leaves of the stream -/
def TakenS (x cr : Nat) (ar : Option Addr) (s : Stp) (n : Nat) (X : List Stp) (m : Mem) (H : SHeap) : Value → Mem → SHeap → Prop := fun v m' H' => v = (takeS s n).v ∧ m' = m ∧ ∃ a2 c2 pre2, Strm a2 c2 ar pre2 (restS s n X) ∧
  H' = .blk x (.cells [.slice a2 (restS s n X).length c2].toArray 96 (0, 0)) :: .row ar cr 59 3 (pre2 ++ (restS s n X).map Stp.cs) :: H
theorem sq_E14_2 {G : Prop} (h : G := by (repeat (first | (refine sp ?_; (repeat intro zzc)) | (refine WL.indexAddr0 rfl rfl rfl rfl (by simp) rfl ?_) | (refine iF 47 rfl ?_; refine w_callG Try.func47 ?_ (hs := size_any (by assumption) (by omega) _ _ _)))); exact WQ.q1 rfl) : G := h
theorem st_E14_2 {G G' : Prop} (next : G') (h : Bx G' → G := by intro zzn; (first | ((refine st ?_; (repeat intro zzc)); (try ((first | (refine WL.indexAddr0 rfl rfl rfl rfl (by simp) rfl ?_) | (refine iF 47 rfl ?_; refine w_callG Try.func47 ?_ (hs := size_any (by assumption) (by omega) _ _ _)) | ((refine iDraw ?_; (first | refine WC.drawAll rfl (by decide +kernel) ?_ | refine WC.draw 1 rfl (by decide +kernel) ?_ | refine WC.draw 2 rfl (by decide +kernel) ?_ | refine WC.draw 3 rfl (by decide +kernel) ?_ | refine WC.draw 4 rfl (by decide +kernel) ?_ | refine WC.draw 5 rfl (by decide +kernel) ?_ | refine WC.draw 6 rfl (by decide +kernel) ?_ | refine WC.draw 7 rfl (by decide +kernel) ?_ | refine WC.draw 8 rfl (by decide +kernel) ?_ | refine WC.draw 9 rfl (by decide +kernel) ?_ | refine WC.draw 10 rfl (by decide +kernel) ?_ | refine WC.draw 11 rfl (by decide +kernel) ?_ | refine WC.draw 12 rfl (by decide +kernel) ?_ | refine WC.draw 13 rfl (by decide +kernel) ?_ | refine WC.draw 14 rfl (by decide +kernel) ?_ | refine WC.draw 15 rfl (by decide +kernel) ?_ | refine WC.draw 16 rfl (by decide +kernel) ?_ | refine WC.draw 17 rfl (by decide +kernel) ?_ | refine WC.draw 18 rfl (by decide +kernel) ?_ | refine WC.draw 19 rfl (by decide +kernel) ?_ | refine WC.draw 20 rfl (by decide +kernel) ?_ | refine WC.draw 21 rfl (by decide +kernel) ?_ | refine WC.draw 22 rfl (by decide +kernel) ?_ | refine WC.draw 23 rfl (by decide +kernel) ?_ | refine WC.draw 24 rfl (by decide +kernel) ?_)); (repeat (refine WD.cons rfl (fun c h => by cases h) sq_E14_2 ?_)); refine WD.nil ?_)); (try (refine st ?_; (repeat intro zzc)))))) | ((first | (refine WL.indexAddr0 rfl rfl rfl rfl (by simp) rfl ?_) | (refine iF 47 rfl ?_; refine w_callG Try.func47 ?_ (hs := size_any (by assumption) (by omega) _ _ _)) | ((refine iDraw ?_; (first | refine WC.drawAll rfl (by decide +kernel) ?_ | refine WC.draw 1 rfl (by decide +kernel) ?_ | refine WC.draw 2 rfl (by decide +kernel) ?_ | refine WC.draw 3 rfl (by decide +kernel) ?_ | refine WC.draw 4 rfl (by decide +kernel) ?_ | refine WC.draw 5 rfl (by decide +kernel) ?_ | refine WC.draw 6 rfl (by decide +kernel) ?_ | refine WC.draw 7 rfl (by decide +kernel) ?_ | refine WC.draw 8 rfl (by decide +kernel) ?_ | refine WC.draw 9 rfl (by decide +kernel) ?_ | refine WC.draw 10 rfl (by decide +kernel) ?_ | refine WC.draw 11 rfl (by decide +kernel) ?_ | refine WC.draw 12 rfl (by decide +kernel) ?_ | refine WC.draw 13 rfl (by decide +kernel) ?_ | refine WC.draw 14 rfl (by decide +kernel) ?_ | refine WC.draw 15 rfl (by decide +kernel) ?_ | refine WC.draw 16 rfl (by decide +kernel) ?_ | refine WC.draw 17 rfl (by decide +kernel) ?_ | refine WC.draw 18 rfl (by decide +kernel) ?_ | refine WC.draw 19 rfl (by decide +kernel) ?_ | refine WC.draw 20 rfl (by decide +kernel) ?_ | refine WC.draw 21 rfl (by decide +kernel) ?_ | refine WC.draw 22 rfl (by decide +kernel) ?_ | refine WC.draw 23 rfl (by decide +kernel) ?_ | refine WC.draw 24 rfl (by decide +kernel) ?_)); (repeat (refine WD.cons rfl (fun c h => by cases h) sq_E14_2 ?_)); refine WD.nil ?_)); (try (refine st ?_; (repeat intro zzc))))); (repeat ((first | (refine WL.indexAddr0 rfl rfl rfl rfl (by simp) rfl ?_) | (refine iF 47 rfl ?_; refine w_callG Try.func47 ?_ (hs := size_any (by assumption) (by omega) _ _ _)) | ((refine iDraw ?_; (first | refine WC.drawAll rfl (by decide +kernel) ?_ | refine WC.draw 1 rfl (by decide +kernel) ?_ | refine WC.draw 2 rfl (by decide +kernel) ?_ | refine WC.draw 3 rfl (by decide +kernel) ?_ | refine WC.draw 4 rfl (by decide +kernel) ?_ | refine WC.draw 5 rfl (by decide +kernel) ?_ | refine WC.draw 6 rfl (by decide +kernel) ?_ | refine WC.draw 7 rfl (by decide +kernel) ?_ | refine WC.draw 8 rfl (by decide +kernel) ?_ | refine WC.draw 9 rfl (by decide +kernel) ?_ | refine WC.draw 10 rfl (by decide +kernel) ?_ | refine WC.draw 11 rfl (by decide +kernel) ?_ | refine WC.draw 12 rfl (by decide +kernel) ?_ | refine WC.draw 13 rfl (by decide +kernel) ?_ | refine WC.draw 14 rfl (by decide +kernel) ?_ | refine WC.draw 15 rfl (by decide +kernel) ?_ | refine WC.draw 16 rfl (by decide +kernel) ?_ | refine WC.draw 17 rfl (by decide +kernel) ?_ | refine WC.draw 18 rfl (by decide +kernel) ?_ | refine WC.draw 19 rfl (by decide +kernel) ?_ | refine WC.draw 20 rfl (by decide +kernel) ?_ | refine WC.draw 21 rfl (by decide +kernel) ?_ | refine WC.draw 22 rfl (by decide +kernel) ?_ | refine WC.draw 23 rfl (by decide +kernel) ?_ | refine WC.draw 24 rfl (by decide +kernel) ?_)); (repeat (refine WD.cons rfl (fun c h => by cases h) sq_E14_2 ?_)); refine WD.nil ?_)); (try (refine st ?_; (repeat intro zzc))))); (repeat revert zzc); exact zzn.out) : G := h ⟨next⟩
theorem take_any {a1 : Option Addr} {c1 x cr : Nat} {ar : Option Addr} {pre : List (List Value)} {s : Stp} {X : List Stp} (n : Nat) (h : Strm a1 c1 ar pre (s :: X)) (h0 : 0 < n) (hn : n ≤ s.atoms.length) (hl : s.atoms.length ≤ 100000000000) (w0 : World) (m : Mem) (H : SHeap) :
    Does Try.prog 46 #[.pointer (some ⟨x, 0, none⟩), .int .i64 (n : Int)] w0 m (.blk x (.cells [.slice a1 (s :: X).length c1].toArray 96 (0, 0)) :: .row ar cr 59 3 (pre ++ (s :: X).map Stp.cs) :: H) (TakenS x cr ar s n X m H) := by
  refine Does.of_body (args := [.pointer (some ⟨x, 0, none⟩), .int .i64 (n : Int)]) Try.func46 rfl Try.ntmps46 rfl ?_
  have hst := h
  have hsk := h.ok s List.mem_cons_self
  have hcap := h.cap
  obtain ⟨a0, rfl, rfl⟩ := h.at_ (by simp)
  have hget : (pre ++ (s :: X).map Stp.cs)[pre.length]? = some s.cs := by simp
  have hset : ∀ e, (pre ++ (s :: X).map Stp.cs).set pre.length e = pre ++ e :: X.map Stp.cs := fun e => by simp
  have hl0 : (s :: X).length = X.length + 1 := rfl
  obtain ⟨E, hE⟩ : ∃ E, pre ++ (s :: X).map Stp.cs = E := ⟨_, rfl⟩
  rw [hE] at hget hset ⊢
  by_cases he : n = s.atoms.length
  · have er : restS s n X = X := if_pos he
    have et : takeS s n = s := by rw [he, takeS_all hsk]
    (try (refine st_E14_2 ?_; intros))
    refine q_fin0 (H0 := .blk x (.cells [subSl (some (a0.add (pre.length * 3))) c1 1 (s :: X).length 3].toArray 96 (0, 0)) :: .row (some a0) cr 59 3 E :: H) ⟨by rw [et]; try rfl, rfl, (if c1 = 1 then some (a0.add (pre.length * 3)) else (some (a0.add (pre.length * 3))).map (·.add (1 * 3))), c1 - 1, pre ++ [s.cs], ⟨?_, ?_, ?_⟩, ?_⟩ (hd := zpk)
    · intro hne
      rw [er] at hne
      have : 0 < X.length := List.length_pos_iff.2 hne
      refine ⟨a0, rfl, ?_⟩
      rw [if_neg (by omega), Option.map_some, addadd, List.length_append, List.length_singleton]
      congr 2; omega
    · rw [er]; omega
    · rw [er]; exact fun y hy => h.ok y (List.mem_cons_of_mem _ hy)
    · rw [er, ← hE]; simp [subSl]
  · have er : restS s n X = dropS s n :: X := if_neg he
    have hrs := restS_ok h.ok hn
    have hnl : n < s.atoms.length := by omega
    have fin : ∀ e, e = (dropS s n).cs → ∀ v, v = (takeS s n).v → TakenS x cr (some a0) s n X m H v m (.blk x (.cells [.slice (some (a0.add (pre.length * 3))) (s :: X).length c1].toArray 96 (0, 0)) :: .row (some a0) cr 59 3 (E.set pre.length e) :: H) := by
      intro e hee v hv
      refine ⟨hv, rfl, some (a0.add (pre.length * 3)), c1, pre, ⟨fun _ => ⟨a0, rfl, rfl⟩, ?_, hrs.1⟩, ?_⟩
      · rw [er]; exact hcap
      · rw [hset, er, hee]; simp
    rcases step_kinds hsk with ⟨g1, g2, g3, ea⟩ | ⟨g1, g2, g3, ea⟩ | ⟨g1, g2, g3, ea⟩
    · have hkl : s.atoms.length = s.k.toNat := by rw [ea]; simp
      (try (refine st_E14_2 ?_; intros))
      exact q_fin0 (H0 := .blk x (.cells [.slice (some (a0.add (pre.length * 3))) (s :: X).length c1].toArray 96 (0, 0)) :: .row (some a0) cr 59 3 (E.set pre.length [.int .i64 (s.k - n), str s.d, str s.p]) :: H) (fin _ (by simp [dropS, g1, g2, g3, Stp.cs]) (.agg #[.int .i64 (n : Int), str [], str []]) (by simp [takeS, g1, Stp.v])) (hd := zpk)
    · have hkl : s.atoms.length = s.d.length := by rw [ea]; simp
      (try (refine st_E14_2 ?_; intros))
      exact q_fin0 (H0 := .blk x (.cells [.slice (some (a0.add (pre.length * 3))) (s :: X).length c1].toArray 96 (0, 0)) :: .row (some a0) cr 59 3 (E.set pre.length [.int .i64 s.k, str (s.d.drop n), str s.p]) :: H) (fin _ (by simp [dropS, g1, g2, g3, Stp.cs]) (.agg #[.int .i64 0, str (s.d.take n), str []]) (by simp [takeS, g1, g2, Stp.v])) (hd := zpk)
    · have hkl : s.atoms.length = s.p.length := by rw [ea]; simp
      (try (refine st_E14_2 ?_; intros))
      exact q_fin0 (H0 := .blk x (.cells [.slice (some (a0.add (pre.length * 3))) (s :: X).length c1].toArray 96 (0, 0)) :: .row (some a0) cr 59 3 (E.set pre.length [.int .i64 s.k, str s.d, str (s.p.drop n)]) :: H) (fin _ (by simp [dropS, g1, g2, Stp.cs]) (.agg #[.int .i64 0, str [], str (s.p.take n)]) (by simp [takeS, g1, g2, Stp.v])) (hd := zpk)
end Go.Proofs.Ytelgegefmjlimaa

/-
  The walks of what sheets' methods share: New, Clone, Revision, make. No condition.
-/
namespace Go.Eng
open Go Go.RowKit
section
variable {P : Program} {ro : Option Nat} {n : Nat} {w0 : World} {Q : Exit → Act → World → Prop} {r : Env} {ds : List Nat} {m : Mem} {H : SHeap}
theorem WC.rNone {c : Code} {sz : Nat} {es : List (List Value)} (hr : RowR w0 m H sz none es) (h : es = [] → WC P ro n w0 c Q r ds m H) : WC P ro n w0 c Q r ds m H := by
  intro tmps w ho hs
  exact h (hr w hs).2 tmps w ho hs
end
/-- a change that a sheet keeps -/
def sentV (hand : Int) (a : Option Addr) (k cap : Nat) (left : Bool) : List Value := [.int .i64 hand, .slice a k cap, .bool left]
theorem steps_okc (l : List Stp) : ∀ q ∈ l.map Stp.cs, q.all okCell = true := by
  intro q hq
  obtain ⟨x, _, rfl⟩ := List.mem_map.1 hq
  rfl
theorem steps_three (l : List Stp) : ∀ q ∈ l.map Stp.cs, q.length = 3 := by
  intro q hq
  obtain ⟨x, _, rfl⟩ := List.mem_map.1 hq
  rfl
end Go.Eng
namespace Go.Proofs.Ytelgegefmjlimaa
open Go Go.Eng
set_option maxRecDepth 100000
set_option maxHeartbeats 4000000
set_option linter.all false
attribute [local irreducible] WL WC WQ QFun QLoop Does Q1 QRound QAssign Go.Addr.add
attribute [local irreducible] sizesOf sizesF applyV listOf plainOf applyA
theorem new_any {s : List UInt8} (hs : s.length ≤ 65536) (w0 : World) (m : Mem) (H : SHeap) :
    Does Try.prog 30 #[str s] w0 m H (fun v m' H' => m' = m ∧ ∃ b, v = .tuple #[.pointer (some ⟨b, 0, none⟩), .int .i64 0] ∧ H' = .blk b (.cells [str s, str s, .slice none 0 0].toArray 131 (0, 0)) :: H) := by
  refine Does.of_body (args := [str s]) Try.func30 rfl Try.ntmps30 rfl ?_
  (refine st ?_; intros; rename_i b)
  exact q_fin0 (H0 := .blk b (.cells [str s, str s, .slice none 0 0].toArray 131 (0, 0)) :: H) ⟨rfl, b, rfl, rfl⟩ (hd := zpk)
theorem clone_any {a : Option Addr} {cap : Nat} {l : List Stp} (hl : l.length ≤ 3000000) (w0 : World) (m : Mem) (H : SHeap) (hr : RowR w0 m H 3 a (l.map Stp.cs)) :
    Does Try.prog 77 #[.slice a l.length cap] w0 m H (fun v m' H' => m' = m ∧ ∃ c cp, v = .slice c l.length cp ∧ H' = .row c cp 59 3 (l.map Stp.cs) :: H) := by
  refine Does.of_body (args := [.slice a l.length cap]) Try.func77 rfl Try.ntmps77 rfl ?_
  have hln : (l.map Stp.cs).length = l.length := by simp
  cases a with
  | none =>
    refine WC.rNone hr fun he => ?_
    have hl0 : l = [] := by cases l with
      | nil => rfl
      | cons x l => simp at he
    subst hl0
    refine WC.newRow (T := 59) (sz := 3) ?_
    (try (refine st ?_; intros))
    exact q_fin0 (H0 := .row none 0 59 3 [] :: H) ⟨rfl, none, 0, rfl, rfl⟩ (hd := zpk)
  | some a0 =>
    (try (refine st ?_; intros))
    refine WL.buildSlice0 (sz := 3) rfl rfl rfl ?_
    intro q
    (try (refine st ?_; intros))
    refine w_appendR (hr.more) (steps_okc l) (steps_three l) ?_
    intro c cp
    have e : ([] : List (List Value)).length + (l.map Stp.cs).length = l.length := by simp
    (try (refine st ?_; intros))
    rw [e, List.nil_append]
    exact q_fin0 (H0 := .row c cp 59 3 (l.map Stp.cs) :: H) ⟨rfl, c, cp, rfl, rfl⟩ (hd := zpk)
end Go.Proofs.Ytelgegefmjlimaa

/-
  What a function hands back that makes a change. No condition.
-/
namespace Go.Eng
open Go Go.RowKit
def ListP (T : TypeId) (r : Int ⊕ List Stp) (k : IntKind) (m : Mem) (H : SHeap) : Value → Mem → SHeap → Prop := fun v m' H' => m' = m ∧ match r with
  | .inl e => v = .tuple #[.slice none 0 0, .int k e] ∧ H' = H
  | .inr l => ∃ c cp, v = .tuple #[.slice c l.length cp, .int k 0] ∧ H' = .row c cp T 3 (l.map Stp.cs) :: H
end Go.Eng

/-
  The walk of the program's Compose: two changes, one behind the other. No condition.
-/
namespace Go.Eng
open Go Go.RowKit
def nowS : List Stp → Stp
  | [] => ⟨0, [], []⟩
  | s :: _ => s
/-- what two changes come to, one behind the other -/
def comP (a b : List Stp) : Int ⊕ List Stp := match sizesOf a, sizesOf b with
  | some (_, mid), some (from_, _) => if mid ≠ from_ then .inl 5 else match cmpT Bld.start (nfOf (gapsOf a)) (nfOf (gapsOf b)) with
    | none => .inl 270
    | some l => .inr l
  | _, _ => .inl 2
theorem Out.mem {i : Item} {H H' : SHeap} (h : Out i H H') : i ∈ H := h.perm.mem_iff.2 List.mem_cons_self
section
variable {P : Program} {ro : Option Nat} {n : Nat} {w0 : World} {Q : Exit → Act → World → Prop} {r : Env} {ds : List Nat} {m : Mem} {H : SHeap}
theorem WC.strm {c : Code} {a : Option Addr} {cap : Nat} {T : TypeId} {X : List Stp} (hm : Item.row a cap T 3 (X.map Stp.cs) ∈ H) (hok : ∀ s ∈ X, stpOk s) (h : Strm a cap a [] X → WC P ro n w0 c Q r ds m H) : WC P ro n w0 c Q r ds m H := by
  intro tmps w ho hs
  refine h ⟨fun hne => ?_, ?_, hok⟩ tmps w ho hs
  · obtain ⟨a0, rfl⟩ := RowR.some (RowR.row hm) hs (by rw [List.length_map]; exact List.length_pos_iff.2 hne)
    refine ⟨a0, rfl, ?_⟩
    simp [Go.Addr.add]
  · have := row_cap hs hm
    rwa [List.length_map] at this
end
end Go.Eng
namespace Go.Proofs.Ytelgegefmjlimaa
open Go Go.Eng
set_option maxRecDepth 100000
set_option maxHeartbeats 4000000
set_option linter.all false
attribute [local irreducible] WL WC WQ QFun QLoop Does Q1 QRound QAssign Go.Addr.add
attribute [local irreducible] sizesF sizesOf cmpT
theorem now_any {a1 : Option Addr} {c1 x cr : Nat} {ar : Option Addr} {pre : List (List Value)} {X : List Stp} (h : Strm a1 c1 ar pre X) {w0 : World} {m : Mem} {H H1 H2 : SHeap}
    (o1 : Out (.blk x (.cells [.slice a1 X.length c1].toArray 96 (0, 0))) H H1) (o2 : Out (.row ar cr 59 3 (pre ++ X.map Stp.cs)) H1 H2) :
    Does Try.prog 44 #[.pointer (some ⟨x, 0, none⟩)] w0 m H (Gives (.tuple #[.agg #[.int .i64 (nowS X).k, str (nowS X).d, str (nowS X).p], .bool (!X.isEmpty)]) m H) := by
  cases X with
  | nil => exact now_nil rfl o1.mem
  | cons s X => exact now_cons h o1 o2
end Go.Proofs.Ytelgegefmjlimaa

/-
  The walk of the program's Carry: two changes carried over each other. No condition.
-/
namespace Go.Eng
open Go Go.RowKit
def PairP (T : TypeId) (r : Int ⊕ (List Stp × List Stp)) (k : IntKind) (m : Mem) (H : SHeap) : Value → Mem → SHeap → Prop := fun v m' H' => m' = m ∧ match r with
  | .inl e => v = .tuple #[.slice none 0 0, .slice none 0 0, .int k e] ∧ H' = H
  | .inr (l1, l2) => ∃ c cp c2 cp2, v = .tuple #[.slice c l1.length cp, .slice c2 l2.length cp2, .int k 0] ∧ H' = .row c cp T 3 (l1.map Stp.cs) :: .row c2 cp2 T 3 (l2.map Stp.cs) :: H
end Go.Eng
namespace Go.Proofs.Ytelgegefmjlimaa
open Go Go.Eng
set_option maxRecDepth 100000
set_option maxHeartbeats 4000000
set_option linter.all false
attribute [local irreducible] WL WC WQ QFun QLoop Does Q1 QRound QAssign Go.Addr.add
attribute [local irreducible] sizesF sizesOf carT
theorem sq_E18_1 {G : Prop} (h : G := by (repeat (first | (refine sp ?_; (repeat intro zzc)) | (refine iF 40 rfl ?_; refine w_callG Try.func40 ?_ (hs := sizes_any (by assumption) _ _ _ (by assumption))) | (refine iF 47 rfl ?_; refine w_callG Try.func47 ?_ (hs := size_any (by assumption) (by omega) _ _ _)))); exact WQ.q1 rfl) : G := h
theorem st_E18_1 {G G' : Prop} (next : G') (h : Bx G' → G := by intro zzn; (first | ((refine st ?_; (repeat intro zzc)); (try ((first | (refine iF 40 rfl ?_; refine w_callG Try.func40 ?_ (hs := sizes_any (by assumption) _ _ _ (by assumption))) | (refine iF 47 rfl ?_; refine w_callG Try.func47 ?_ (hs := size_any (by assumption) (by omega) _ _ _)) | ((refine iDraw ?_; (first | refine WC.drawAll rfl (by decide +kernel) ?_ | refine WC.draw 1 rfl (by decide +kernel) ?_ | refine WC.draw 2 rfl (by decide +kernel) ?_ | refine WC.draw 3 rfl (by decide +kernel) ?_ | refine WC.draw 4 rfl (by decide +kernel) ?_ | refine WC.draw 5 rfl (by decide +kernel) ?_ | refine WC.draw 6 rfl (by decide +kernel) ?_ | refine WC.draw 7 rfl (by decide +kernel) ?_ | refine WC.draw 8 rfl (by decide +kernel) ?_ | refine WC.draw 9 rfl (by decide +kernel) ?_ | refine WC.draw 10 rfl (by decide +kernel) ?_ | refine WC.draw 11 rfl (by decide +kernel) ?_ | refine WC.draw 12 rfl (by decide +kernel) ?_ | refine WC.draw 13 rfl (by decide +kernel) ?_ | refine WC.draw 14 rfl (by decide +kernel) ?_ | refine WC.draw 15 rfl (by decide +kernel) ?_ | refine WC.draw 16 rfl (by decide +kernel) ?_ | refine WC.draw 17 rfl (by decide +kernel) ?_ | refine WC.draw 18 rfl (by decide +kernel) ?_ | refine WC.draw 19 rfl (by decide +kernel) ?_ | refine WC.draw 20 rfl (by decide +kernel) ?_ | refine WC.draw 21 rfl (by decide +kernel) ?_ | refine WC.draw 22 rfl (by decide +kernel) ?_ | refine WC.draw 23 rfl (by decide +kernel) ?_ | refine WC.draw 24 rfl (by decide +kernel) ?_)); (repeat (refine WD.cons rfl (fun c h => by cases h) sq_E18_1 ?_)); refine WD.nil ?_)); (try (refine st ?_; (repeat intro zzc)))))) | ((first | (refine iF 40 rfl ?_; refine w_callG Try.func40 ?_ (hs := sizes_any (by assumption) _ _ _ (by assumption))) | (refine iF 47 rfl ?_; refine w_callG Try.func47 ?_ (hs := size_any (by assumption) (by omega) _ _ _)) | ((refine iDraw ?_; (first | refine WC.drawAll rfl (by decide +kernel) ?_ | refine WC.draw 1 rfl (by decide +kernel) ?_ | refine WC.draw 2 rfl (by decide +kernel) ?_ | refine WC.draw 3 rfl (by decide +kernel) ?_ | refine WC.draw 4 rfl (by decide +kernel) ?_ | refine WC.draw 5 rfl (by decide +kernel) ?_ | refine WC.draw 6 rfl (by decide +kernel) ?_ | refine WC.draw 7 rfl (by decide +kernel) ?_ | refine WC.draw 8 rfl (by decide +kernel) ?_ | refine WC.draw 9 rfl (by decide +kernel) ?_ | refine WC.draw 10 rfl (by decide +kernel) ?_ | refine WC.draw 11 rfl (by decide +kernel) ?_ | refine WC.draw 12 rfl (by decide +kernel) ?_ | refine WC.draw 13 rfl (by decide +kernel) ?_ | refine WC.draw 14 rfl (by decide +kernel) ?_ | refine WC.draw 15 rfl (by decide +kernel) ?_ | refine WC.draw 16 rfl (by decide +kernel) ?_ | refine WC.draw 17 rfl (by decide +kernel) ?_ | refine WC.draw 18 rfl (by decide +kernel) ?_ | refine WC.draw 19 rfl (by decide +kernel) ?_ | refine WC.draw 20 rfl (by decide +kernel) ?_ | refine WC.draw 21 rfl (by decide +kernel) ?_ | refine WC.draw 22 rfl (by decide +kernel) ?_ | refine WC.draw 23 rfl (by decide +kernel) ?_ | refine WC.draw 24 rfl (by decide +kernel) ?_)); (repeat (refine WD.cons rfl (fun c h => by cases h) sq_E18_1 ?_)); refine WD.nil ?_)); (try (refine st ?_; (repeat intro zzc))))); (repeat ((first | (refine iF 40 rfl ?_; refine w_callG Try.func40 ?_ (hs := sizes_any (by assumption) _ _ _ (by assumption))) | (refine iF 47 rfl ?_; refine w_callG Try.func47 ?_ (hs := size_any (by assumption) (by omega) _ _ _)) | ((refine iDraw ?_; (first | refine WC.drawAll rfl (by decide +kernel) ?_ | refine WC.draw 1 rfl (by decide +kernel) ?_ | refine WC.draw 2 rfl (by decide +kernel) ?_ | refine WC.draw 3 rfl (by decide +kernel) ?_ | refine WC.draw 4 rfl (by decide +kernel) ?_ | refine WC.draw 5 rfl (by decide +kernel) ?_ | refine WC.draw 6 rfl (by decide +kernel) ?_ | refine WC.draw 7 rfl (by decide +kernel) ?_ | refine WC.draw 8 rfl (by decide +kernel) ?_ | refine WC.draw 9 rfl (by decide +kernel) ?_ | refine WC.draw 10 rfl (by decide +kernel) ?_ | refine WC.draw 11 rfl (by decide +kernel) ?_ | refine WC.draw 12 rfl (by decide +kernel) ?_ | refine WC.draw 13 rfl (by decide +kernel) ?_ | refine WC.draw 14 rfl (by decide +kernel) ?_ | refine WC.draw 15 rfl (by decide +kernel) ?_ | refine WC.draw 16 rfl (by decide +kernel) ?_ | refine WC.draw 17 rfl (by decide +kernel) ?_ | refine WC.draw 18 rfl (by decide +kernel) ?_ | refine WC.draw 19 rfl (by decide +kernel) ?_ | refine WC.draw 20 rfl (by decide +kernel) ?_ | refine WC.draw 21 rfl (by decide +kernel) ?_ | refine WC.draw 22 rfl (by decide +kernel) ?_ | refine WC.draw 23 rfl (by decide +kernel) ?_ | refine WC.draw 24 rfl (by decide +kernel) ?_)); (repeat (refine WD.cons rfl (fun c h => by cases h) sq_E18_1 ?_)); refine WD.nil ?_)); (try (refine st ?_; (repeat intro zzc))))); (repeat revert zzc); exact zzn.out) : G := h ⟨next⟩
theorem carry_any {pa pb : Option Addr} {ca cb : Nat} {a b : List Stp} (hfa : Fit a) (hfb : Fit b) (w0 : World) (m : Mem) (H : SHeap) (hra : RowR w0 m H 3 pa (a.map Stp.cs)) (hrb : RowR w0 m H 3 pb (b.map Stp.cs)) :
    Does Try.prog 27 #[.slice pa a.length ca, .slice pb b.length cb] w0 m H (PairP 59 (carP a b) .i64 m H) := by
  refine Does.of_body (args := [.slice pa a.length ca, .slice pb b.length cb]) Try.func27 rfl Try.ntmps27 rfl ?_
  cases hsa : sizesOf a with
  | none =>
    have e : carP a b = .inl 2 := by simp only [carP, hsa]
    have e2 : szP (sizesOf a) = .tuple #[.int .i64 0, .int .i64 0, .int .i64 2] := by rw [hsa]; rfl
    rw [e]
    (try (refine st_E18_1 ?_; intros))
    rw [e2]
    cases hsb : sizesOf b with
    | none =>
      have e3 : szP (sizesOf b) = .tuple #[.int .i64 0, .int .i64 0, .int .i64 2] := by rw [hsb]; rfl
      (try (refine st_E18_1 ?_; intros))
      rw [e3]
      (try (refine st_E18_1 ?_; intros))
      exact q_fin0 (H0 := H) ⟨rfl, rfl, rfl⟩ (hd := zpk)
    | some ft =>
      obtain ⟨f, t⟩ := ft
      have e3 : szP (sizesOf b) = .tuple #[.int .i64 f, .int .i64 t, .int .i64 0] := by rw [hsb]; rfl
      (try (refine st_E18_1 ?_; intros))
      rw [e3]
      (try (refine st_E18_1 ?_; intros))
      exact q_fin0 (H0 := H) ⟨rfl, rfl, rfl⟩ (hd := zpk)
  | some ft =>
    obtain ⟨fa, ta⟩ := ft
    have e2 : szP (sizesOf a) = .tuple #[.int .i64 fa, .int .i64 ta, .int .i64 0] := by rw [hsa]; rfl
    (try (refine st_E18_1 ?_; intros))
    rw [e2]
    cases hsb : sizesOf b with
    | none =>
      have e : carP a b = .inl 2 := by simp only [carP, hsa, hsb]
      have e3 : szP (sizesOf b) = .tuple #[.int .i64 0, .int .i64 0, .int .i64 2] := by rw [hsb]; rfl
      rw [e]
      (try (refine st_E18_1 ?_; intros))
      rw [e3]
      (try (refine st_E18_1 ?_; intros))
      exact q_fin0 (H0 := H) ⟨rfl, rfl, rfl⟩ (hd := zpk)
    | some ft =>
      obtain ⟨fb, tb⟩ := ft
      have e3 : szP (sizesOf b) = .tuple #[.int .i64 fb, .int .i64 tb, .int .i64 0] := by rw [hsb]; rfl
      (try (refine st_E18_1 ?_; intros))
      rw [e3]
      by_cases hmf : fa = fb
      · (try (refine st_E18_1 ?_; intros))
        obtain ⟨hoka, hal, hpla, hfra, htoa, _, _, _, _⟩ := sized hsa
        obtain ⟨hokb, hbl, hplb, hfrb, htob, _, _, _, _⟩ := sized hsb
        refine w_callF Try.func42 ?_ (hs := plain_any hoka (by omega) _ _ _ hra)
        rintro v m H1 ⟨rfl, arx, crx, rfl, rfl⟩
        (refine st_E18_1 ?_; intros; rename_i x)
        refine w_callF Try.func42 ?_ (hs := plain_any hokb (by omega) _ _ _ hrb.more.more)
        rintro v m H1 ⟨rfl, ary, cry, rfl, rfl⟩
        (refine st_E18_1 ?_; intros; rename_i y bu bv)
        refine WC.newRow (T := 59) (sz := 3) ?_
        refine WC.newRow (T := 59) (sz := 3) ?_
        refine WC.strm (a := arx) (cap := crx) (X := plainOf a) zhs (plain_ok a) fun hX0 => ?_
        refine WC.strm (a := ary) (cap := cry) (X := plainOf b) zhs (plain_ok b) fun hY0 => ?_
        refine WC.loopH [(13, .pointer (some ⟨x, 0, none⟩)), (14, .pointer (some ⟨y, 0, none⟩)), (15, .pointer (some ⟨bu, 0, none⟩)), (16, .pointer (some ⟨bv, 0, none⟩)), (17, .int .i64 ((0) : Int))] ?_ ?_ (fun j r ds m' H' => ∃ (k : _) (cu : Option Addr) (cpu : Nat) (U : Bld) (cv : Option Addr) (cpv : Nat) (V : Bld) (al : Nat) (ax : Option Addr) (cx : Nat) (prx : List (List Value)) (X : List Stp) (ay : Option Addr) (cy : Nat) (pry : List (List Value)) (Y : List Stp), j = (atomsOf X).length + (atomsOf Y).length ∧ r = [(13, .pointer (some ⟨x, 0, none⟩)), (14, .pointer (some ⟨y, 0, none⟩)), (15, .pointer (some ⟨bu, 0, none⟩)), (16, .pointer (some ⟨bv, 0, none⟩)), (17, .int .i64 (al : Int))] ∧ ds = [] ∧ m = m' ∧ H' = .blk bu (.cells [.slice cu U.l.length cpu, str U.p, str U.d].toArray 98 (0, 0)) :: .row cu cpu 59 3 (U.l.map Stp.cs) :: .blk bv (.cells [.slice cv V.l.length cpv, str V.p, str V.d].toArray 98 (0, 0)) :: .row cv cpv 59 3 (V.l.map Stp.cs) :: .blk x (.cells [.slice ax X.length cx].toArray 96 (0, 0)) :: .row arx crx 59 3 (prx ++ X.map Stp.cs) :: .blk y (.cells [.slice ay Y.length cy].toArray 96 (0, 0)) :: .row ary cry 59 3 (pry ++ Y.map Stp.cs) :: H ∧ (Strm ax cx arx prx X) ∧ (Strm ay cy ary pry Y) ∧ (BFit k U) ∧ (BFit k V) ∧ (k + 4 * ((atomsOf X).length + (atomsOf Y).length) ≤ 10000000 ∧ al ≤ k) ∧ (carT U V al (atomsOf X) (atomsOf Y) = carT Bld.start Bld.start 0 (nfOf (gapsOf a)) (nfOf (gapsOf b)))) ((atomsOf (plainOf a)).length + (atomsOf (plainOf b)).length) ⟨0, none, 0, Bld.start, none, 0, Bld.start, 0, arx, crx, [], plainOf a, ary, cry, [], plainOf b, rfl, rfl, rfl, rfl, rfl, hX0, hY0, BFit.start, BFit.start, by omega, by rw [plain_atoms, plain_atoms]⟩ ?_
        · (repeat (first | exact Env.Sub.nil | refine Env.Sub.cons rfl ?_))
        · exact zpk
        rintro j r ds m' H' ⟨k, cu, cpu, U, cv, cpv, V, al, ax, cx, prx, X, ay, cy, pry, Y, rfl, rfl, rfl, rfl, rfl, hX, hY, hU, hV, hk, ht⟩
        (try (refine st_E18_1 ?_; intros))
        refine w_callF Try.func44 ?_ (hs := now_any hX (by (repeat (first | exact Out.here | apply Out.there))) (by (repeat (first | exact Out.here | apply Out.there))))
        rintro v m H1 ⟨rfl, rfl, rfl⟩
        (refine st_E18_1 ?_; intros; rename_i bs)
        refine w_callF Try.func44 ?_ (hs := now_any hY (by (repeat (first | exact Out.here | apply Out.there))) (by (repeat (first | exact Out.here | apply Out.there))))
        rintro v m H1 ⟨rfl, rfl, rfl⟩
        have hxok := hX.ok
        have hyok := hY.ok
        by_cases hc1 : (nowS X).p = []
        · by_cases hc2 : (nowS Y).p = []
          · have hfin : carT U V al (atomsOf X) (atomsOf Y) = some (U.close.l, V.close.l, al) → carP a b = if 65536 < al then .inl 3 else .inr (U.close.l, V.close.l) := by
              intro hl
              simp only [carP, hsa, hsb]
              rw [if_neg (fun h => h hmf), ← ht, hl]
            have hlu := hU.len
            have hlv := hV.len
            have hpx : ∀ s X', X = s :: X' → s.p = [] := by rintro s X' rfl; exact hc1
            have hpy : ∀ t Y', Y = t :: Y' → t.p = [] := by rintro t Y' rfl; exact hc2
            by_cases hem : X = [] ∨ Y = []
            · have hend : carT U V al (atomsOf X) (atomsOf Y) = some (U.close.l, V.close.l, al) := by
                rcases hem with rfl | rfl
                · exact cst_nilX hyok hpy
                · exact cst_nilY hxok hpx
              have hfin := hfin hend
              have hz : ((!X.isEmpty) = true ∧ (!Y.isEmpty) = false) ∨ ((!X.isEmpty) = false ∧ (!Y.isEmpty) = true) ∨ ((!X.isEmpty) = false ∧ (!Y.isEmpty) = false) := by
                rcases X with _ | ⟨s, X⟩ <;> rcases Y with _ | ⟨t, Y⟩ <;> simp at hem ⊢
              by_cases hbig : 65536 < al
              · rw [hfin, if_pos hbig]
                rcases hz with hz | hz | hz
                all_goals
                  rw [hz.1, hz.2]
                  (refine st_E18_1 ?_; intros; rename_i bt)
                  exact q_fin0 (H0 := H) ⟨rfl, rfl, rfl⟩ (hd := zpk)
              · rw [hfin, if_neg hbig]
                rcases hz with hz | hz | hz
                all_goals
                  rw [hz.1, hz.2]
                  (refine st_E18_1 ?_; intros; rename_i bt)
                  refine WL.heap (H' := .blk bu (.cells [.slice cu U.l.length cpu, str U.p, str U.d].toArray 98 (0, 0)) :: .row cu cpu 59 3 (U.l.map Stp.cs) :: .blk bv (.cells [.slice cv V.l.length cpv, str V.p, str V.d].toArray 98 (0, 0)) :: .row cv cpv 59 3 (V.l.map Stp.cs) :: H) zpk ?_
                  refine w_callF Try.func48 ?_ (hs := done_any U (by omega) _ _ _)
                  rintro v m H1 ⟨rfl, c2, cp2, rfl, rfl⟩
                  (try (refine st_E18_1 ?_; intros))
                  refine WL.heap (H' := .blk bv (.cells [.slice cv V.l.length cpv, str V.p, str V.d].toArray 98 (0, 0)) :: .row cv cpv 59 3 (V.l.map Stp.cs) :: .row c2 cp2 59 3 (U.close.l.map Stp.cs) :: H) zpk ?_
                  refine w_callF Try.func48 ?_ (hs := done_any V (by omega) _ _ _)
                  rintro v m H1 ⟨rfl, c3, cp3, rfl, rfl⟩
                  (try (refine st_E18_1 ?_; intros))
                  exact q_fin0 (H0 := .row c2 cp2 59 3 (U.close.l.map Stp.cs) :: .row c3 cp3 59 3 (V.close.l.map Stp.cs) :: H) ⟨rfl, c2, cp2, c3, cp3, rfl, rfl⟩ (hd := zpk)
            · have hne : ∃ s X' t Y', X = s :: X' ∧ Y = t :: Y' := by
                rcases X with _ | ⟨s, X⟩ <;> rcases Y with _ | ⟨t, Y⟩ <;> simp at hem ⊢
              obtain ⟨s, X, t, Y, rfl, rfl⟩ := hne
              have hsok := hxok s List.mem_cons_self
              have htok := hyok t List.mem_cons_self
              have e1 : nowS (s :: X) = s := rfl
              have e2 : (!(s :: X).isEmpty) = true := rfl
              have e3 : nowS (t :: Y) = t := rfl
              have e4 : (!(t :: Y).isEmpty) = true := rfl
              rw [e1] at hc1
              rw [e3] at hc2
              rw [e1, e2, e3, e4]
              have hbs := stp_bounds hsok
              have hap := atoms_pos hsok
              have hbt := stp_bounds htok
              have hap2 := atoms_pos htok
              have hlx0 : s.atoms.length ≤ (atomsOf (s :: X)).length := by rw [atoms_cons, List.length_append]; omega
              have hly0 : t.atoms.length ≤ (atomsOf (t :: Y)).length := by rw [atoms_cons, List.length_append]; omega
              (refine st_E18_1 ?_; intros; rename_i bt)
              have hn : ∃ n : Nat, min (s.atoms.length : Int) (t.atoms.length : Int) = (n : Int) ∧ 0 < n ∧ n ≤ s.atoms.length ∧ n ≤ t.atoms.length := ⟨min s.atoms.length t.atoms.length, by omega, by omega, by omega, by omega⟩
              obtain ⟨n, en, hn0, hns, hnt⟩ := hn
              rw [en]
              rw [cst_both hxok hyok hc1 hc2 hn0 hns hnt] at ht
              have hok1 := (takeS_ok hsok hn0 hns).1
              have hok2 := (takeS_ok htok hn0 hnt).1
              have hk1 := takeS_kind hsok hn0 hns
              have hk2 := takeS_kind htok hn0 hnt
              have hlx := (rest_len hxok hn0 hns).1
              have hly := (rest_len hyok hn0 hnt).1
              refine WL.heap (H' := .blk x (.cells [.slice ax (s :: X).length cx].toArray 96 (0, 0)) :: .row arx crx 59 3 (prx ++ (s :: X).map Stp.cs) :: .blk bt (.cells [.int .i64 t.k, str t.d, str t.p].toArray 59 (0, 0)) :: .blk bs (.cells [.int .i64 s.k, str s.d, str s.p].toArray 59 (0, 0)) :: .blk bu (.cells [.slice cu U.l.length cpu, str U.p, str U.d].toArray 98 (0, 0)) :: .row cu cpu 59 3 (U.l.map Stp.cs) :: .blk bv (.cells [.slice cv V.l.length cpv, str V.p, str V.d].toArray 98 (0, 0)) :: .row cv cpv 59 3 (V.l.map Stp.cs) :: .blk y (.cells [.slice ay (t :: Y).length cy].toArray 96 (0, 0)) :: .row ary cry 59 3 (pry ++ (t :: Y).map Stp.cs) :: H) zpk ?_
              refine w_callF Try.func46 ?_ (hs := take_any _ hX hn0 hns (by omega) _ _ _)
              rintro v m H1 ⟨rfl, rfl, ax2, cx2, prx2, hX2, rfl⟩
              (try (refine st_E18_1 ?_; intros))
              refine WL.heap (H' := .blk y (.cells [.slice ay (t :: Y).length cy].toArray 96 (0, 0)) :: .row ary cry 59 3 (pry ++ (t :: Y).map Stp.cs) :: .blk bt (.cells [.int .i64 t.k, str t.d, str t.p].toArray 59 (0, 0)) :: .blk bs (.cells [.int .i64 s.k, str s.d, str s.p].toArray 59 (0, 0)) :: .blk bu (.cells [.slice cu U.l.length cpu, str U.p, str U.d].toArray 98 (0, 0)) :: .row cu cpu 59 3 (U.l.map Stp.cs) :: .blk bv (.cells [.slice cv V.l.length cpv, str V.p, str V.d].toArray 98 (0, 0)) :: .row cv cpv 59 3 (V.l.map Stp.cs) :: .blk x (.cells [.slice ax2 (restS s n X).length cx2].toArray 96 (0, 0)) :: .row arx crx 59 3 (prx2 ++ (restS s n X).map Stp.cs) :: H) zpk ?_
              refine w_callF Try.func46 ?_ (hs := take_any _ hY hn0 hnt (by omega) _ _ _)
              rintro v m H1 ⟨rfl, rfl, ay2, cy2, pry2, hY2, rfl⟩
              generalize takeS s n = S1 at *
              generalize takeS t n = T1 at *
              have hb1 := stp_bounds hok1
              have hb2 := stp_bounds hok2
              rw [show S1.v = .agg #[.int .i64 S1.k, str S1.d, str S1.p] from rfl, show T1.v = .agg #[.int .i64 T1.k, str T1.d, str T1.p] from rfl]
              by_cases g1 : 0 < S1.k
              · by_cases g2 : 0 < T1.k
                · rw [if_pos ⟨g1, g2⟩] at ht
                  (try (refine st_E18_1 ?_; intros))
                  refine WL.heap (H' := .blk bu (.cells [.slice cu U.l.length cpu, str U.p, str U.d].toArray 98 (0, 0)) :: .row cu cpu 59 3 (U.l.map Stp.cs) :: .blk bv (.cells [.slice cv V.l.length cpv, str V.p, str V.d].toArray 98 (0, 0)) :: .row cv cpv 59 3 (V.l.map Stp.cs) :: .blk x (.cells [.slice ax2 (restS s n X).length cx2].toArray 96 (0, 0)) :: .row arx crx 59 3 (prx2 ++ (restS s n X).map Stp.cs) :: .blk y (.cells [.slice ay2 (restS t n Y).length cy2].toArray 96 (0, 0)) :: .row ary cry 59 3 (pry2 ++ (restS t n Y).map Stp.cs) :: H) zpk ?_
                  refine w_callF Try.func55 ?_ (hs := keep_any U n (by omega) (hU.mono (by omega)) _ _ _)
                  rintro v m H1 ⟨rfl, rfl, c2, cp2, rfl⟩
                  (try (refine st_E18_1 ?_; intros))
                  refine WL.heap (H' := .blk bv (.cells [.slice cv V.l.length cpv, str V.p, str V.d].toArray 98 (0, 0)) :: .row cv cpv 59 3 (V.l.map Stp.cs) :: .blk bu (.cells [.slice c2 (U.keep n).l.length cp2, str (U.keep n).p, str (U.keep n).d].toArray 98 (0, 0)) :: .row c2 cp2 59 3 ((U.keep n).l.map Stp.cs) :: .blk x (.cells [.slice ax2 (restS s n X).length cx2].toArray 96 (0, 0)) :: .row arx crx 59 3 (prx2 ++ (restS s n X).map Stp.cs) :: .blk y (.cells [.slice ay2 (restS t n Y).length cy2].toArray 96 (0, 0)) :: .row ary cry 59 3 (pry2 ++ (restS t n Y).map Stp.cs) :: H) zpk ?_
                  refine w_callF Try.func55 ?_ (hs := keep_any V n (by omega) (hV.mono (by omega)) _ _ _)
                  rintro v m H1 ⟨rfl, rfl, c3, cp3, rfl⟩
                  have eal : (al : Int) + (n : Int) = ((al + n : Nat) : Int) := by omega
                  (try (refine st_E18_1 ?_; intros))
                  rw [eal]
                  refine WQ.next ((atomsOf (restS s n X)).length + (atomsOf (restS t n Y)).length) ⟨k + n + 3, c2, cp2, U.keep n, c3, cp3, V.keep n, al + n, ax2, cx2, prx2, restS s n X, ay2, cy2, pry2, restS t n Y, rfl, rfl, rfl, rfl, rfl, ?_, ?_, ?_, ?_, ?_, ?_⟩ (by omega) zsb zpk
                  · exact hX2
                  · exact hY2
                  · exact hU.keep
                  · exact hV.keep
                  · omega
                  · exact ht
                · rw [if_neg (by omega), if_pos g1] at ht
                  (try (refine st_E18_1 ?_; intros))
                  refine WL.heap (H' := .blk bv (.cells [.slice cv V.l.length cpv, str V.p, str V.d].toArray 98 (0, 0)) :: .row cv cpv 59 3 (V.l.map Stp.cs) :: .blk bu (.cells [.slice cu U.l.length cpu, str U.p, str U.d].toArray 98 (0, 0)) :: .row cu cpu 59 3 (U.l.map Stp.cs) :: .blk x (.cells [.slice ax2 (restS s n X).length cx2].toArray 96 (0, 0)) :: .row arx crx 59 3 (prx2 ++ (restS s n X).map Stp.cs) :: .blk y (.cells [.slice ay2 (restS t n Y).length cy2].toArray 96 (0, 0)) :: .row ary cry 59 3 (pry2 ++ (restS t n Y).map Stp.cs) :: H) zpk ?_
                  refine w_callF Try.func45 ?_ (hs := step_any V T1 (by omega) (by omega) (by omega) (hV.mono (by omega)) _ _ _)
                  rintro v m H1 ⟨rfl, rfl, c2, cp2, rfl⟩
                  (try (refine st_E18_1 ?_; intros))
                  refine WQ.next ((atomsOf (restS s n X)).length + (atomsOf (restS t n Y)).length) ⟨k + 4 * T1.atoms.length, cu, cpu, U, c2, cp2, V.step T1, al, ax2, cx2, prx2, restS s n X, ay2, cy2, pry2, restS t n Y, rfl, rfl, rfl, rfl, rfl, ?_, ?_, ?_, ?_, ?_, ?_⟩ (by omega) zsb zpk
                  · exact hX2
                  · exact hY2
                  · exact hU.mono (by omega)
                  · exact bfit_step hV hok2
                  · omega
                  · exact ht
              · rw [if_neg (by omega), if_neg g1] at ht
                by_cases g2 : 0 < T1.k
                · rw [if_pos g2] at ht
                  (try (refine st_E18_1 ?_; intros))
                  refine WL.heap (H' := .blk bu (.cells [.slice cu U.l.length cpu, str U.p, str U.d].toArray 98 (0, 0)) :: .row cu cpu 59 3 (U.l.map Stp.cs) :: .blk bv (.cells [.slice cv V.l.length cpv, str V.p, str V.d].toArray 98 (0, 0)) :: .row cv cpv 59 3 (V.l.map Stp.cs) :: .blk x (.cells [.slice ax2 (restS s n X).length cx2].toArray 96 (0, 0)) :: .row arx crx 59 3 (prx2 ++ (restS s n X).map Stp.cs) :: .blk y (.cells [.slice ay2 (restS t n Y).length cy2].toArray 96 (0, 0)) :: .row ary cry 59 3 (pry2 ++ (restS t n Y).map Stp.cs) :: H) zpk ?_
                  refine w_callF Try.func45 ?_ (hs := step_any U S1 (by omega) (by omega) (by omega) (hU.mono (by omega)) _ _ _)
                  rintro v m H1 ⟨rfl, rfl, c2, cp2, rfl⟩
                  (try (refine st_E18_1 ?_; intros))
                  refine WQ.next ((atomsOf (restS s n X)).length + (atomsOf (restS t n Y)).length) ⟨k + 4 * S1.atoms.length, c2, cp2, U.step S1, cv, cpv, V, al, ax2, cx2, prx2, restS s n X, ay2, cy2, pry2, restS t n Y, rfl, rfl, rfl, rfl, rfl, ?_, ?_, ?_, ?_, ?_, ?_⟩ (by omega) zsb zpk
                  · exact hX2
                  · exact hY2
                  · exact bfit_step hU hok1
                  · exact hV.mono (by omega)
                  · omega
                  · exact ht
                · rw [if_neg g2] at ht
                  by_cases g3 : S1.d = T1.d
                  · rw [if_pos g3] at ht
                    (try (refine st_E18_1 ?_; intros))
                    refine WQ.next ((atomsOf (restS s n X)).length + (atomsOf (restS t n Y)).length) ⟨k, cu, cpu, U, cv, cpv, V, al, ax2, cx2, prx2, restS s n X, ay2, cy2, pry2, restS t n Y, rfl, rfl, rfl, rfl, rfl, ?_, ?_, ?_, ?_, ?_, ?_⟩ (by omega) zsb zpk
                    · exact hX2
                    · exact hY2
                    · exact hU
                    · exact hV
                    · omega
                    · exact ht
                  · rw [if_neg g3] at ht
                    have e : carP a b = .inl 270 := by
                      simp only [carP, hsa, hsb]
                      rw [if_neg (fun h => h hmf), ← ht]
                    rw [e]
                    (try (refine st_E18_1 ?_; intros))
                    exact q_fin0 (H0 := H) ⟨rfl, rfl, rfl⟩ (hd := zpk)
          · rcases Y with _ | ⟨t, Y⟩
            · exact absurd rfl hc2
            · have htok := hyok t List.mem_cons_self
              have e1 : nowS (t :: Y) = t := rfl
              have e2 : (!(t :: Y).isEmpty) = true := rfl
              rw [e1] at hc2
              rw [e1, e2]
              have hl := rest_len hyok (atoms_pos htok) (Nat.le_refl _)
              rw [restS_all, takeS_all htok] at hl
              have hbt := stp_bounds htok
              have hap := atoms_pos htok
              have hpx : ∀ s X', X = s :: X' → s.p = [] := by rintro s X' rfl; exact hc1
              have hz : (!X.isEmpty) = true ∨ (!X.isEmpty) = false := by cases (!X.isEmpty) <;> simp
              have eal : (al : Int) + (t.p.length : Int) = ((al + t.p.length : Nat) : Int) := by omega
              rcases hz with hz | hz
              all_goals
                rw [hz]
                (refine st_E18_1 ?_; intros; rename_i bt)
                refine WL.heap (H' := .blk y (.cells [.slice ay (t :: Y).length cy].toArray 96 (0, 0)) :: .row ary cry 59 3 (pry ++ (t :: Y).map Stp.cs) :: .blk bt (.cells [.int .i64 t.k, str t.d, str t.p].toArray 59 (0, 0)) :: .blk bu (.cells [.slice cu U.l.length cpu, str U.p, str U.d].toArray 98 (0, 0)) :: .row cu cpu 59 3 (U.l.map Stp.cs) :: .blk bv (.cells [.slice cv V.l.length cpv, str V.p, str V.d].toArray 98 (0, 0)) :: .row cv cpv 59 3 (V.l.map Stp.cs) :: .blk x (.cells [.slice ax X.length cx].toArray 96 (0, 0)) :: .row arx crx 59 3 (prx ++ X.map Stp.cs) :: H) zpk ?_
                refine w_callF Try.func46 ?_ (hs := take_any _ hY (atoms_pos htok) (Nat.le_refl _) (by omega) _ _ _)
                rintro v m H1 ⟨rfl, rfl, ay2, cy2, pry2, hY2, rfl⟩
                rw [restS_all] at hY2 ⊢
                rw [takeS_all htok]
                (try (refine st_E18_1 ?_; intros))
                refine WL.heap (H' := .blk bv (.cells [.slice cv V.l.length cpv, str V.p, str V.d].toArray 98 (0, 0)) :: .row cv cpv 59 3 (V.l.map Stp.cs) :: .blk bt (.cells [.int .i64 t.k, str t.d, str t.p].toArray 59 (0, 0)) :: .blk bu (.cells [.slice cu U.l.length cpu, str U.p, str U.d].toArray 98 (0, 0)) :: .row cu cpu 59 3 (U.l.map Stp.cs) :: .blk x (.cells [.slice ax X.length cx].toArray 96 (0, 0)) :: .row arx crx 59 3 (prx ++ X.map Stp.cs) :: .blk y (.cells [.slice ay2 Y.length cy2].toArray 96 (0, 0)) :: .row ary cry 59 3 (pry2 ++ Y.map Stp.cs) :: H) zpk ?_
                refine w_callF Try.func45 ?_ (hs := step_any V t (by omega) (by omega) (by omega) (hV.mono (by omega)) _ _ _)
                rintro v m H1 ⟨rfl, rfl, c2, cp2, rfl⟩
                (try (refine st_E18_1 ?_; intros))
                refine WL.heap (H' := .blk bu (.cells [.slice cu U.l.length cpu, str U.p, str U.d].toArray 98 (0, 0)) :: .row cu cpu 59 3 (U.l.map Stp.cs) :: .blk bt (.cells [.int .i64 t.k, str t.d, str t.p].toArray 59 (0, 0)) :: .blk bv (.cells [.slice c2 (V.step t).l.length cp2, str (V.step t).p, str (V.step t).d].toArray 98 (0, 0)) :: .row c2 cp2 59 3 ((V.step t).l.map Stp.cs) :: .blk x (.cells [.slice ax X.length cx].toArray 96 (0, 0)) :: .row arx crx 59 3 (prx ++ X.map Stp.cs) :: .blk y (.cells [.slice ay2 Y.length cy2].toArray 96 (0, 0)) :: .row ary cry 59 3 (pry2 ++ Y.map Stp.cs) :: H) zpk ?_
                refine w_callF Try.func55 ?_ (hs := keep_any U t.p.length (by omega) (hU.mono (by omega)) _ _ _)
                rintro v m H1 ⟨rfl, rfl, c3, cp3, rfl⟩
                (try (refine st_E18_1 ?_; intros))
                rw [eal]
                refine WQ.next ((atomsOf (X)).length + (atomsOf (Y)).length) ⟨k + 4 * t.atoms.length, c3, cp3, U.keep t.p.length, c2, cp2, V.step t, al + t.p.length, ax, cx, prx, X, ay2, cy2, pry2, Y, rfl, rfl, rfl, rfl, rfl, ?_, ?_, ?_, ?_, ?_, ?_⟩ (by omega) zsb zpk
                · exact hX
                · exact hY2
                · exact hU.keep.mono (by omega)
                · exact bfit_step hV htok
                · omega
                · rw [← ht, cst_py htok hc2 hxok hpx]
        · rcases X with _ | ⟨s, X⟩
          · exact absurd rfl hc1
          · have hsok := hxok s List.mem_cons_self
            have e1 : nowS (s :: X) = s := rfl
            have e2 : (!(s :: X).isEmpty) = true := rfl
            rw [e1] at hc1
            rw [e1, e2]
            have hl := rest_len hxok (atoms_pos hsok) (Nat.le_refl _)
            rw [restS_all, takeS_all hsok] at hl
            have hbs := stp_bounds hsok
            have hap := atoms_pos hsok
            have eal : (al : Int) + (s.p.length : Int) = ((al + s.p.length : Nat) : Int) := by omega
            (refine st_E18_1 ?_; intros; rename_i bt)
            refine WL.heap (H' := .blk x (.cells [.slice ax (s :: X).length cx].toArray 96 (0, 0)) :: .row arx crx 59 3 (prx ++ (s :: X).map Stp.cs) :: .blk bs (.cells [.int .i64 s.k, str s.d, str s.p].toArray 59 (0, 0)) :: .blk bu (.cells [.slice cu U.l.length cpu, str U.p, str U.d].toArray 98 (0, 0)) :: .row cu cpu 59 3 (U.l.map Stp.cs) :: .blk bv (.cells [.slice cv V.l.length cpv, str V.p, str V.d].toArray 98 (0, 0)) :: .row cv cpv 59 3 (V.l.map Stp.cs) :: .blk y (.cells [.slice ay Y.length cy].toArray 96 (0, 0)) :: .row ary cry 59 3 (pry ++ Y.map Stp.cs) :: H) zpk ?_
            refine w_callF Try.func46 ?_ (hs := take_any _ hX (atoms_pos hsok) (Nat.le_refl _) (by omega) _ _ _)
            rintro v m H1 ⟨rfl, rfl, ax2, cx2, prx2, hX2, rfl⟩
            rw [restS_all] at hX2 ⊢
            rw [takeS_all hsok]
            (try (refine st_E18_1 ?_; intros))
            refine WL.heap (H' := .blk bu (.cells [.slice cu U.l.length cpu, str U.p, str U.d].toArray 98 (0, 0)) :: .row cu cpu 59 3 (U.l.map Stp.cs) :: .blk bs (.cells [.int .i64 s.k, str s.d, str s.p].toArray 59 (0, 0)) :: .blk bv (.cells [.slice cv V.l.length cpv, str V.p, str V.d].toArray 98 (0, 0)) :: .row cv cpv 59 3 (V.l.map Stp.cs) :: .blk x (.cells [.slice ax2 X.length cx2].toArray 96 (0, 0)) :: .row arx crx 59 3 (prx2 ++ X.map Stp.cs) :: .blk y (.cells [.slice ay Y.length cy].toArray 96 (0, 0)) :: .row ary cry 59 3 (pry ++ Y.map Stp.cs) :: H) zpk ?_
            refine w_callF Try.func45 ?_ (hs := step_any U s (by omega) (by omega) (by omega) (hU.mono (by omega)) _ _ _)
            rintro v m H1 ⟨rfl, rfl, c2, cp2, rfl⟩
            (try (refine st_E18_1 ?_; intros))
            refine WL.heap (H' := .blk bv (.cells [.slice cv V.l.length cpv, str V.p, str V.d].toArray 98 (0, 0)) :: .row cv cpv 59 3 (V.l.map Stp.cs) :: .blk bs (.cells [.int .i64 s.k, str s.d, str s.p].toArray 59 (0, 0)) :: .blk bu (.cells [.slice c2 (U.step s).l.length cp2, str (U.step s).p, str (U.step s).d].toArray 98 (0, 0)) :: .row c2 cp2 59 3 ((U.step s).l.map Stp.cs) :: .blk x (.cells [.slice ax2 X.length cx2].toArray 96 (0, 0)) :: .row arx crx 59 3 (prx2 ++ X.map Stp.cs) :: .blk y (.cells [.slice ay Y.length cy].toArray 96 (0, 0)) :: .row ary cry 59 3 (pry ++ Y.map Stp.cs) :: H) zpk ?_
            refine w_callF Try.func55 ?_ (hs := keep_any V s.p.length (by omega) (hV.mono (by omega)) _ _ _)
            rintro v m H1 ⟨rfl, rfl, c3, cp3, rfl⟩
            (try (refine st_E18_1 ?_; intros))
            rw [eal]
            refine WQ.next ((atomsOf (X)).length + (atomsOf (Y)).length) ⟨k + 4 * s.atoms.length, c2, cp2, U.step s, c3, cp3, V.keep s.p.length, al + s.p.length, ax2, cx2, prx2, X, ay, cy, pry, Y, rfl, rfl, rfl, rfl, rfl, ?_, ?_, ?_, ?_, ?_, ?_⟩ (by omega) zsb zpk
            · exact hX2
            · exact hY
            · exact bfit_step hU hsok
            · exact hV.keep.mono (by omega)
            · omega
            · rw [← ht, cst_px hsok hc1]
      · have e : carP a b = .inl 5 := by simp only [carP, hsa, hsb]; rw [if_pos hmf]
        rw [e]
        (try (refine st_E18_1 ?_; intros))
        exact q_fin0 (H0 := H) ⟨rfl, rfl, rfl⟩ (hd := zpk)
end Go.Proofs.Ytelgegefmjlimaa

/-
  Plain facts on changes: how long what is carried is; a change carried over many. No condition.
-/
namespace Go.Eng
open Go
theorem fit_plain {l : List Stp} {f t : Int} (hs : sizesOf l = some (f, t)) : Fit (plainOf l) := by
  obtain ⟨hok, _, _, h1, h2, _, h4, _, h6⟩ := sized hs
  obtain ⟨n1, n2⟩ := nf_sizes l hok
  rw [plain_list]
  exact fit_list (by omega) (by omega)
theorem carA_sizes : ∀ (xs ys : List Atm) (o : List Atm × List Atm), carA xs ys = some o → fromA o.1 ≤ toA ys ∧ fromA o.2 ≤ toA xs ∧ toA o.1 = toA o.2
  | .p b :: xs, ys, o, h => by
    rw [carA_px] at h
    obtain ⟨q, h1, rfl⟩ := Option.map_eq_some_iff.1 h
    have := carA_sizes xs ys q h1
    simp only [fromA, toA]; omega
  | [], .p b :: ys, o, h => by
    rw [carA] at h
    obtain ⟨q, h1, rfl⟩ := Option.map_eq_some_iff.1 h
    have := carA_sizes [] ys q h1
    simp only [fromA, toA] at *; omega
  | .k :: xs, .p b :: ys, o, h => by
    rw [carA] at h
    obtain ⟨q, h1, rfl⟩ := Option.map_eq_some_iff.1 h
    have := carA_sizes (.k :: xs) ys q h1
    simp only [fromA, toA] at *; omega
  | .d c :: xs, .p b :: ys, o, h => by
    rw [carA] at h
    obtain ⟨q, h1, rfl⟩ := Option.map_eq_some_iff.1 h
    have := carA_sizes (.d c :: xs) ys q h1
    simp only [fromA, toA] at *; omega
  | .k :: xs, .k :: ys, o, h => by
    rw [carA] at h
    obtain ⟨q, h1, rfl⟩ := Option.map_eq_some_iff.1 h
    have := carA_sizes xs ys q h1
    simp only [fromA, toA] at *; omega
  | .d b :: xs, .k :: ys, o, h => by
    rw [carA] at h
    obtain ⟨q, h1, rfl⟩ := Option.map_eq_some_iff.1 h
    have := carA_sizes xs ys q h1
    simp only [fromA, toA] at *; omega
  | .k :: xs, .d b :: ys, o, h => by
    rw [carA] at h
    obtain ⟨q, h1, rfl⟩ := Option.map_eq_some_iff.1 h
    have := carA_sizes xs ys q h1
    simp only [fromA, toA] at *; omega
  | .d b :: xs, .d c :: ys, o, h => by
    rw [carA] at h
    split at h
    · have := carA_sizes xs ys o h
      simp only [fromA, toA] at *; omega
    · cases h
  | [], [], o, h => by rw [carA] at h; cases h; simp [fromA, toA]
  | [], .k :: _, o, h => by rw [carA] at h; cases h; simp [fromA, toA]
  | [], .d _ :: _, o, h => by rw [carA] at h; cases h; simp [fromA, toA]
  | .k :: _, [], o, h => by rw [carA] at h; cases h; simp [fromA, toA]
  | .d _ :: _, [], o, h => by rw [carA] at h; cases h; simp [fromA, toA]
termination_by xs ys => xs.length + ys.length
theorem car_cases (a b : List Stp) : (∃ e : Int, e ≠ 0 ∧ carP a b = .inl e) ∨ (∃ U V, carP a b = .inr (listOf U, listOf V) ∧ fromA U ≤ 65536 ∧ toA U ≤ 65536 ∧ fromA V ≤ 65536 ∧ toA V ≤ 65536) := by
  unfold carP
  cases hsa : sizesOf a with
  | none => exact .inl ⟨2, by decide, rfl⟩
  | some fa =>
    obtain ⟨fa, ta⟩ := fa
    cases hsb : sizesOf b with
    | none => exact .inl ⟨2, by decide, rfl⟩
    | some fb =>
      obtain ⟨fb, tb⟩ := fb
      simp only
      by_cases hf : fa = fb
      · rw [if_neg (by simp [hf]), carT_list]
        cases ho : carA (nfOf (gapsOf a)) (nfOf (gapsOf b)) with
        | none => exact .inl ⟨270, by decide, rfl⟩
        | some o =>
          obtain ⟨h1, h2, h3⟩ := carA_sizes _ _ _ ho
          obtain ⟨_, _, a3⟩ := nf_len hsa
          obtain ⟨_, _, b3⟩ := nf_len hsb
          obtain ⟨_, _, _, _, _, _, _, _, a4⟩ := sized hsa
          obtain ⟨_, _, _, _, _, _, _, _, b4⟩ := sized hsb
          simp only [Option.map_some]
          by_cases hn : 65536 < 0 + toA o.1
          · rw [if_pos hn]; exact .inl ⟨3, by decide, rfl⟩
          · rw [if_neg hn]; exact .inr ⟨o.1, o.2, rfl, by omega, by omega, by omega, by omega⟩
      · rw [if_pos hf]; exact .inl ⟨5, by decide, rfl⟩
/-- a change carried over a sent one -/
def overP (hand h : Int) (x c : List Stp) : Int ⊕ List Stp := if h ≤ hand then (match carP x c with | .inl e => .inl e | .inr (_, v) => .inr v) else (match carP c x with | .inl e => .inl e | .inr (u, _) => .inr u)
theorem over_cases (hand h : Int) (x c : List Stp) : (∃ e : Int, e ≠ 0 ∧ overP hand h x c = .inl e) ∨ (∃ V, overP hand h x c = .inr (listOf V) ∧ fromA V ≤ 65536 ∧ toA V ≤ 65536) := by
  unfold overP
  split
  · rcases car_cases x c with ⟨e, he, h1⟩ | ⟨U, V, h1, h2, h3, h4, h5⟩
    · rw [h1]; exact .inl ⟨e, he, rfl⟩
    · rw [h1]; exact .inr ⟨V, rfl, h4, h5⟩
  · rcases car_cases c x with ⟨e, he, h1⟩ | ⟨U, V, h1, h2, h3, h4, h5⟩
    · rw [h1]; exact .inl ⟨e, he, rfl⟩
    · rw [h1]; exact .inr ⟨U, rfl, h2, h3⟩
theorem over_le_l {hand h : Int} {x c : List Stp} {e : Int} (hl : h ≤ hand) (hc : carP x c = .inl e) : overP hand h x c = .inl e := by unfold overP; rw [if_pos hl, hc]
theorem over_le_r {hand h : Int} {x c u v : List Stp} (hl : h ≤ hand) (hc : carP x c = .inr (u, v)) : overP hand h x c = .inr v := by unfold overP; rw [if_pos hl, hc]
theorem over_gt_l {hand h : Int} {x c : List Stp} {e : Int} (hl : ¬ h ≤ hand) (hc : carP c x = .inl e) : overP hand h x c = .inl e := by unfold overP; rw [if_neg hl, hc]
theorem over_gt_r {hand h : Int} {x c u v : List Stp} (hl : ¬ h ≤ hand) (hc : carP c x = .inr (u, v)) : overP hand h x c = .inr u := by unfold overP; rw [if_neg hl, hc]
/-- a change carried over many -/
def carriedP (hand : Int) : List (Int × List Stp) → List Stp → Int ⊕ List Stp
  | [], c => .inr c
  | x :: K, c => match overP hand x.1 x.2 c with | .inl e => .inl e | .inr v => carriedP hand K v
theorem carried_l {hand : Int} {x : Int × List Stp} {K : List (Int × List Stp)} {c : List Stp} {e : Int} (h : overP hand x.1 x.2 c = .inl e) : carriedP hand (x :: K) c = .inl e := by rw [carriedP, h]
theorem carried_r {hand : Int} {x : Int × List Stp} {K : List (Int × List Stp)} {c v : List Stp} (h : overP hand x.1 x.2 c = .inr v) : carriedP hand (x :: K) c = carriedP hand K v := by rw [carriedP, h]
end Go.Eng

/-
  A walk's engine: calls of function values that bear what they have caught. No condition.
-/
set_option linter.all false
namespace Go.Eng
open Go Go.RowKit
section
variable {P : Program} {ro : Option Nat} {n : Nat} {w0 : World} {Q : Exit → Act → World → Prop} {r : Env} {ds : List Nat} {m : Mem} {H : SHeap} {ops : Array Oper} {l : List Oper} {d : Nat} {ty : TypeId} {pos : String} {after : Array Edge}
theorem WL.callV {f : FuncId} {fn : Func} {c : Code} {x : Operand} {args : List Operand} {vs cs : List Value} {ts : Array TypeId} {Post : Value → Mem → SHeap → Prop}
    (hx : r.ev x = some (.func (.func f) #[] cs.toArray)) (hf : P.funcs[f]? = some fn) (hname : (fn.name == "runtime.NumGoroutine") = false) (hb : fn.body = some c)
    (hv : r.evs args = some vs) (hd : Nat.blt d n = true) (hs : Does P f (vs ++ cs).toArray w0 m H Post) (h : ∀ v m' H', Post v m' H' → WL P ro n w0 ops Q l ((d, v) :: r) ds m' H') :
    WL P ro n w0 ops Q (⟨some d, .call ⟨.value x, args.toArray, ts⟩, ty, pos, after, none⟩ :: l) r ds m H := by
  refine .enter (fun d' e => by cases e; simpa [Nat.blt_eq] using hd) (fun _ h => by cases h) (fun tmps w ho _ => ?_) hs h
  have e1 := ho.evs (marks ds) hv
  have e2 := ho.ev (ds := marks ds) hx
  have h1 : fn.name ≠ "runtime.NumGoroutine" := by simpa using hname
  have h2 : ∀ a : Array Value, (callFunc f a).run P w = .ok (.enter f a) w := fun a => by simp [callFunc, hf, h1, hb]
  simp only [execOp, resolve, Sem.run_bind, List.map_toArray, e1]
  simp [e2, Deferred.ofValue, invoke, h2, Result.andThen]
end
end Go.Eng

/-
  The walks of a sheet's methods on any sheet: At, carried, Send. No condition.
-/
namespace Go.Eng
open Go Go.RowKit
/-- a change that a sheet keeps, and where it lies -/
structure Snt where
  h : Int
  l : List Stp
  left : Bool
  a : Option Addr
  cap : Nat
def Snt.cs (x : Snt) : List Value := sentV x.h x.a x.l.length x.cap x.left
def Snt.it (T : TypeId) (x : Snt) : Item := .row x.a x.cap T 3 (x.l.map Stp.cs)
def Snt.hl (x : Snt) : Int × List Stp := (x.h, x.l)
/-- a text, changed; none where the change does not fit -/
def applyT (s : List UInt8) (l : List Stp) : List UInt8 := match sizesOf l with
  | none => []
  | some (f, _) => if f ≠ s.length then [] else (applyA s (atomsOf l)).getD []
/-- what is wrong with it; 0: nothing -/
def applyE (s : List UInt8) (l : List Stp) : Int := match sizesOf l with
  | none => 2
  | some (f, _) => if f ≠ s.length then 5 else if (applyA s (atomsOf l)).isNone then 270 else 0
theorem applyV_TE (s : List UInt8) (l : List Stp) : applyV s l = .tuple #[str (applyT s l), .int .i64 (applyE s l)] := by
  unfold applyV applyT applyE
  cases hs : sizesOf l with
  | none => rfl
  | some ft =>
    obtain ⟨f, tt⟩ := ft
    simp only
    split
    · rfl
    · cases ha : applyA s (atomsOf l) with
      | none => rfl
      | some t => rfl
theorem applyE_ok {s : List UInt8} {l : List Stp} (h : applyE s l = 0) : ∃ tt, sizesOf l = some ((s.length : Int), tt) ∧ applyA s (atomsOf l) = some (applyT s l) := by
  unfold applyE at h
  unfold applyT
  cases hs : sizesOf l with
  | none => rw [hs] at h; cases h
  | some ft =>
    obtain ⟨f, tt⟩ := ft
    rw [hs] at h
    simp only at h ⊢
    split at h
    · cases h
    · rename_i hf
      have hf2 : f = s.length := by omega
      cases ha : applyA s (atomsOf l) with
      | none => rw [ha] at h; cases h
      | some t => rw [if_neg hf]; exact ⟨tt, by rw [hf2], rfl⟩
theorem applyT_bad {s : List UInt8} {l : List Stp} (h : applyE s l ≠ 0) : applyT s l = [] := by
  unfold applyE at h
  unfold applyT
  cases hs : sizesOf l with
  | none => rfl
  | some ft =>
    obtain ⟨f, tt⟩ := ft
    rw [hs] at h
    simp only at h ⊢
    split at h
    · rename_i hf; rw [if_pos hf]
    · rename_i hf
      cases ha : applyA s (atomsOf l) with
      | none => rw [if_neg hf]; rfl
      | some t => rw [ha] at h; exact absurd rfl h
theorem applyT_len (s : List UInt8) (l : List Stp) : (applyT s l).length ≤ 65536 := by
  by_cases h : applyE s l = 0
  · obtain ⟨tt, h1, h2⟩ := applyE_ok h
    have ht := apply_len _ _ _ h2
    obtain ⟨_, _, _, _, hto, _, _, _, hb⟩ := sized h1
    omega
  · rw [applyT_bad h]; exact Nat.zero_le _
/-- a revision's text -/
def textAt (first : List UInt8) (K : List Snt) : List UInt8 := K.foldl (fun t x => applyT t x.l) first
def atV (now first : List UInt8) (K : List Snt) (rev : Int) : Value := if rev < 0 ∨ (K.length : Int) < rev then .tuple #[str [], .int .i64 5] else if rev = K.length then okV now else okV (textAt first (K.take rev.toNat))
theorem textAt_snoc (first : List UInt8) (K : List Snt) (x : Snt) : textAt first (K ++ [x]) = applyT (textAt first K) x.l := by unfold textAt; rw [List.foldl_append]; rfl
theorem textAt_len {first : List UInt8} (h : first.length ≤ 1000000) (K : List Snt) : (textAt first K).length ≤ 1000000 := by
  rcases List.eq_nil_or_concat K with rfl | ⟨K, x, rfl⟩
  · exact h
  · rw [List.concat_eq_append, textAt_snoc]; have := applyT_len (textAt first K) x.l; omega
/-- what Send hands back -/
def sendR (first now : List UInt8) (K : List Snt) (hand rev : Int) (l : List Stp) : Int ⊕ List Stp :=
  if hand < 0 ∨ sizesOf l = none then .inl 2 else if rev < 0 ∨ (K.length : Int) < rev then .inl 5 else
  if applyE (if rev = K.length then now else textAt first (K.take rev.toNat)) l ≠ 0 then .inl (applyE (if rev = K.length then now else textAt first (K.take rev.toNat)) l) else
  if K.length = 1024 then .inl 3 else carriedP hand ((K.drop rev.toNat).map Snt.hl) (plainOf l)
theorem carried_cases (hand : Int) : ∀ (K : List (Int × List Stp)) (c : List Stp), Fit c → (∃ e : Int, e ≠ 0 ∧ carriedP hand K c = .inl e) ∨ (∃ d, carriedP hand K c = .inr d ∧ Fit d)
  | [], c, h => .inr ⟨c, rfl, h⟩
  | x :: K, c, h => by
    rcases over_cases hand x.1 x.2 c with ⟨e, he, h1⟩ | ⟨V, h1, h2, h3⟩
    · exact .inl ⟨e, he, carried_l h1⟩
    · rw [carried_r h1]; exact carried_cases hand K _ (fit_list h2 h3)
theorem subSl_zero (c : Option Addr) (cp n sz : Nat) : subSl c cp 0 n sz = .slice c n cp := by
  have : (c.map fun x => x.add 0) = c := by cases c with
    | none => rfl
    | some a => simp [Go.Addr.add]
  simp only [subSl, Nat.zero_mul, this, ite_self, Nat.sub_zero]
end Go.Eng
namespace Go.Proofs.Ytelgegefmjlimaa
open Go Go.Eng
set_option maxRecDepth 100000
set_option maxHeartbeats 4000000
set_option linter.all false
attribute [local irreducible] WL WC WQ QFun QLoop Does Q1 QRound QAssign Go.Addr.add
attribute [local irreducible] sizesOf sizesF applyV applyT applyE listOf plainOf applyA textAt carP overP carriedP
theorem at_gen {b : Nat} {now first : List UInt8} {ra : Option Addr} {cra : Nat} {K : List Snt} {rev : Int} (hl : K.length ≤ 1000000) (hf : ∀ x ∈ K, Fit x.l) (hfl : first.length ≤ 1000000) (w0 : World) (m : Mem) (H : SHeap) (hK : ∀ x ∈ K, x.it 59 ∈ H) :
    Does Try.prog 32 #[.pointer (some ⟨b, 0, none⟩), .int .i64 rev] w0 m (.blk b (.cells [str now, str first, .slice ra K.length cra].toArray 131 (0, 0)) :: .row ra cra 136 3 (K.map Snt.cs) :: H) (Gives (atV now first K rev) m (.blk b (.cells [str now, str first, .slice ra K.length cra].toArray 131 (0, 0)) :: .row ra cra 136 3 (K.map Snt.cs) :: H)) := by
  refine Does.of_body (args := [.pointer (some ⟨b, 0, none⟩), .int .i64 rev]) Try.func32 rfl Try.ntmps32 rfl ?_
  have hKl : (K.map Snt.cs).length = K.length := by simp
  unfold atV
  by_cases h0 : rev < 0
  · rw [if_pos (.inl h0)]
    (try (refine st ?_; intros))
    exact q_fin0 (H0 := .blk b (.cells [str now, str first, .slice ra K.length cra].toArray 131 (0, 0)) :: .row ra cra 136 3 (K.map Snt.cs) :: H) (Gives.mk rfl) (hd := zpk)
  · by_cases h1 : (K.length : Int) < rev
    · rw [if_pos (.inr h1)]
      (try (refine st ?_; intros))
      exact q_fin0 (H0 := .blk b (.cells [str now, str first, .slice ra K.length cra].toArray 131 (0, 0)) :: .row ra cra 136 3 (K.map Snt.cs) :: H) (Gives.mk rfl) (hd := zpk)
    · rw [if_neg (by omega)]
      by_cases h2 : rev = K.length
      · rw [if_pos h2]
        (try (refine st ?_; intros))
        exact q_fin0 (H0 := .blk b (.cells [str now, str first, .slice ra K.length cra].toArray 131 (0, 0)) :: .row ra cra 136 3 (K.map Snt.cs) :: H) (Gives.mk rfl) (hd := zpk)
      · rw [if_neg h2]
        obtain ⟨n, rfl⟩ : ∃ n : Nat, rev = (n : Int) := ⟨rev.toNat, by omega⟩
        rw [Int.toNat_natCast]
        refine WC.rowCap (a := ra) zhs fun hcap => ?_
        rw [hKl] at hcap
        (try (refine st ?_; intros))
        rw [subSl_zero]
        (try (refine st ?_; intros))
        refine WC.loopH [(48, .int .i64 ((0) : Int)), (47, .int .i64 (n : Int)), (46, .slice ra n cra), (6, str (first))] ?_ ?_ (fun j r ds m' H' => ∃ (i : Nat) (t : List UInt8), j = n - i ∧ r = [(48, .int .i64 (i : Int)), (47, .int .i64 (n : Int)), (46, .slice ra n cra), (6, str t)] ∧ ds = [] ∧ m = m' ∧ H' = .blk b (.cells [str now, str first, .slice ra K.length cra].toArray 131 (0, 0)) :: .row ra cra 136 3 (K.map Snt.cs) :: H ∧ (i ≤ n) ∧ (t = textAt first (K.take i))) (n - (0)) ⟨0, first, rfl, rfl, rfl, rfl, rfl, Nat.zero_le _, by unfold textAt; rfl⟩ ?_
        · (repeat (first | exact Env.Sub.nil | refine Env.Sub.cons rfl ?_))
        · exact zpk
        rintro j r ds m' H' ⟨i, t, rfl, rfl, rfl, rfl, rfl, hi, ht⟩
        have htl := textAt_len hfl (K.take i)
        rw [← ht] at htl
        by_cases hlt : i < n
        · obtain ⟨x, hx, hget, htk, hmem, hdr⟩ := at_idx (f := Snt.cs) (show i < K.length by omega)
          have hrx : RowR w0 m H 3 x.a (x.l.map Stp.cs) := RowR.row (hK x hmem)
          have hts := textAt_snoc first (K.take i) x
          rw [← htk, ← ht] at hts
          have hxs : x.cs = [.int .i64 x.h, .slice x.a x.l.length x.cap, .bool x.left] := rfl
          rw [hxs] at hget
          refine WC.rowSome (a := ra) (es := K.map Snt.cs) zhs (by omega) ?_
          rintro d0 rfl
          (refine st ?_; intros; rename_i bx)
          refine w_callF Try.func22 ?_ (hs := apply_any (hf x hmem) (by omega) _ _ _ hrx.more.more.more)
          rintro v m H1 ⟨rfl, rfl, rfl⟩
          rw [applyV_TE, ← hts]
          (try (refine st ?_; intros))
          refine WQ.next (n - (i + 1)) ⟨i + 1, textAt first (K.take (i + 1)), rfl, rfl, rfl, rfl, rfl, ?_, ?_⟩ (by omega) zsb zpk
          · omega
          · rfl
        · obtain rfl : i = n := by omega
          rw [ht]
          (try (refine st ?_; intros))
          exact q_fin0 (H0 := .blk b (.cells [str now, str first, .slice ra K.length cra].toArray 131 (0, 0)) :: .row ra cra 136 3 (K.map Snt.cs) :: H) (Gives.mk rfl) (hd := zpk)
theorem carried_gen {b g hb : Nat} {fn : Func} {cb : Code} {now first : List UInt8} {ra a : Option Addr} {cra cap n : Nat} {K : List Snt} {hand : Int} {c : List Stp} (hl : K.length ≤ 1000000) (hn : n ≤ K.length) (hf : ∀ x ∈ K, Fit x.l) (hc : Fit c)
    (hg : Try.prog.funcs[g]? = some fn) (hname : (fn.name == "runtime.NumGoroutine") = false) (hbd : fn.body = some cb) (w0 : World) (m : Mem) (H : SHeap)
    (hclo : ∀ (h : Int) (m : Mem) (H : SHeap), -9223372036854775808 ≤ h ∧ h ≤ 9223372036854775807 → Does Try.prog g #[.int .i64 h, .pointer (some ⟨hb, 0, none⟩)] w0 m (.blk hb (.cells [.int .i64 hand].toArray 3 (0, 0)) :: H) (Gives (.bool (dcd (h ≤ hand))) m (.blk hb (.cells [.int .i64 hand].toArray 3 (0, 0)) :: H)))
    (hh : ∀ x ∈ K, -9223372036854775808 ≤ x.h ∧ x.h ≤ 9223372036854775807) (hK : ∀ x ∈ K, x.it 59 ∈ H) :
    Does Try.prog 64 #[.pointer (some ⟨b, 0, none⟩), .slice a c.length cap, .int .i64 (n : Int), .func (.func g) #[] #[.pointer (some ⟨hb, 0, none⟩)]] w0 m (.blk b (.cells [str now, str first, .slice ra K.length cra].toArray 131 (0, 0)) :: .row ra cra 136 3 (K.map Snt.cs) :: .blk hb (.cells [.int .i64 hand].toArray 3 (0, 0)) :: .row a cap 59 3 (c.map Stp.cs) :: H)
      (fun v m' H' => m' = m ∧ match carriedP hand ((K.drop n).map Snt.hl) c with
        | .inl e => v = .tuple #[.slice none 0 0, .int .i64 e] ∧ H' = .blk b (.cells [str now, str first, .slice ra K.length cra].toArray 131 (0, 0)) :: .row ra cra 136 3 (K.map Snt.cs) :: .blk hb (.cells [.int .i64 hand].toArray 3 (0, 0)) :: H
        | .inr c' => ∃ a' cap', v = .tuple #[.slice a' c'.length cap', .int .i64 0] ∧ H' = .blk b (.cells [str now, str first, .slice ra K.length cra].toArray 131 (0, 0)) :: .row ra cra 136 3 (K.map Snt.cs) :: .blk hb (.cells [.int .i64 hand].toArray 3 (0, 0)) :: .row a' cap' 59 3 (c'.map Stp.cs) :: H) := by
  refine Does.of_body (args := [.pointer (some ⟨b, 0, none⟩), .slice a c.length cap, .int .i64 (n : Int), .func (.func g) #[] #[.pointer (some ⟨hb, 0, none⟩)]]) Try.func64 rfl Try.ntmps64 rfl ?_
  have hKl : (K.map Snt.cs).length = K.length := by simp
  refine WC.rowCap (a := ra) zhs fun hcap => ?_
  rw [hKl] at hcap
  have hsub : ∀ Hx, RowR w0 m (.blk b (.cells [str now, str first, .slice ra K.length cra].toArray 131 (0, 0)) :: .row ra cra 136 3 (K.map Snt.cs) :: Hx) 3 (if cra = n then ra else ra.map (·.add (n * 3))) ((K.drop n).map Snt.cs) := by
    intro Hx
    have h := RowR.subRow (w0 := w0) (m := m) (H := .blk b (.cells [str now, str first, .slice ra K.length cra].toArray 131 (0, 0)) :: .row ra cra 136 3 (K.map Snt.cs) :: Hx) (a := ra) (lo := n) (hi := K.length) zhs ⟨hn, by rw [hKl]; exact Nat.le_refl _⟩
    have e : ((K.map Snt.cs).take K.length).drop n = (K.drop n).map Snt.cs := by rw [List.map_drop, List.take_of_length_le (by rw [hKl]; exact Nat.le_refl _)]
    rwa [e] at h
  (try (refine st ?_; intros))
  unfold subSl
  generalize (if cra = n then ra else ra.map (·.add (n * 3))) = ra2 at *
  have hR : carriedP hand ((K.drop n).map Snt.hl) c = carriedP hand (((K.drop n).drop 0).map Snt.hl) c := by rw [List.drop_zero]
  rw [hR]
  have hDl : (K.drop n).length = K.length - n := by simp
  have hDs : ((K.drop n).map Snt.cs).length = (K.drop n).length := by simp
  have hDf : ∀ x ∈ K.drop n, Fit x.l := fun x hx => hf x (List.mem_of_mem_drop hx)
  have hDh : ∀ x ∈ K.drop n, -9223372036854775808 ≤ x.h ∧ x.h ≤ 9223372036854775807 := fun x hx => hh x (List.mem_of_mem_drop hx)
  have hDK : ∀ x ∈ K.drop n, x.it 59 ∈ H := fun x hx => hK x (List.mem_of_mem_drop hx)
  generalize K.drop n = D at *
  generalize hPo : carriedP hand ((D.drop 0).map Snt.hl) c = res
  refine WC.loopH [(20, .int .i64 ((0) : Int)), (19, .int .i64 ((K.length - n : Nat) : Int)), (18, .slice ra2 (K.length - n) (cra - n)), (1, .slice (a) (c).length (cap)), (3, .func (.func g) #[] #[.pointer (some ⟨hb, 0, none⟩)])] ?_ ?_ (fun j r ds m' H' => ∃ (i : Nat) (c : List Stp) (a : Option Addr) (cap : Nat), j = D.length - i ∧ r = [(20, .int .i64 (i : Int)), (19, .int .i64 ((K.length - n : Nat) : Int)), (18, .slice ra2 (K.length - n) (cra - n)), (1, .slice a c.length cap), (3, .func (.func g) #[] #[.pointer (some ⟨hb, 0, none⟩)])] ∧ ds = [] ∧ m = m' ∧ H' = .blk b (.cells [str now, str first, .slice ra K.length cra].toArray 131 (0, 0)) :: .row ra cra 136 3 (K.map Snt.cs) :: .blk hb (.cells [.int .i64 hand].toArray 3 (0, 0)) :: .row a cap 59 3 (c.map Stp.cs) :: H ∧ (i ≤ D.length) ∧ (Fit c) ∧ (carriedP hand ((D.drop i).map Snt.hl) c = res)) (D.length - (0)) ⟨0, c, a, cap, rfl, rfl, rfl, rfl, rfl, Nat.zero_le _, hc, hPo⟩ ?_
  · (repeat (first | exact Env.Sub.nil | refine Env.Sub.cons rfl ?_))
  · exact zpk
  rintro j r ds m' H' ⟨i, c, a, cap, rfl, rfl, rfl, rfl, rfl, hi, hc, hP⟩
  by_cases hlt : i < D.length
  · obtain ⟨x, hx, hget, htk, hmem, hdr⟩ := at_idx (f := Snt.cs) hlt
    have hrx : RowR w0 m H 3 x.a (x.l.map Stp.cs) := RowR.row (hDK x hmem)
    have hfx := hDf x hmem
    have hhx := hDh x hmem
    have hxs : x.cs = [.int .i64 x.h, .slice x.a x.l.length x.cap, .bool x.left] := rfl
    rw [hxs] at hget
    rw [hdr, List.map_cons] at hP
    have hr1 := hsub (.blk hb (.cells [.int .i64 hand].toArray 3 (0, 0)) :: .row a cap 59 3 (c.map Stp.cs) :: H)
    refine WC.rSome hr1 (by omega) ?_
    rintro d0 rfl
    (refine st ?_; intros; rename_i bx)
    refine WL.heap (H' := .blk hb (.cells [.int .i64 hand].toArray 3 (0, 0)) :: .blk bx (.cells [.int .i64 x.h, .slice x.a x.l.length x.cap, .bool x.left].toArray 136 (0, 0)) :: .blk b (.cells [str now, str first, .slice ra K.length cra].toArray 131 (0, 0)) :: .row ra cra 136 3 (K.map Snt.cs) :: .row a cap 59 3 (c.map Stp.cs) :: H) zpk ?_
    refine WL.callV rfl hg hname hbd (by exact rfl) (by exact rfl) (hclo x.h _ _ hhx) ?_
    rintro v m H1 ⟨rfl, rfl, rfl⟩
    by_cases hle : x.h ≤ hand
    · skip
      (try (refine st ?_; intros))
      refine w_callF Try.func27 ?_ (hs := carry_any hfx hc _ _ _ hrx.more.more.more.more.more (RowR.row (a := a) zhs))
      rintro v m H1 ⟨rfl, hv⟩
      rcases car_cases x.l c with ⟨e, he, h1⟩ | ⟨U, V, h1, h2, h3, h4, h5⟩
      · rw [h1] at hv
        obtain ⟨rfl, rfl⟩ := hv
        rw [carried_l (x := x.hl) (over_le_l hle h1)] at hP
        (try (refine st ?_; intros))
        rw [← hP]
        exact q_fin0 (H0 := .blk b (.cells [str now, str first, .slice ra K.length cra].toArray 131 (0, 0)) :: .row ra cra 136 3 (K.map Snt.cs) :: .blk hb (.cells [.int .i64 hand].toArray 3 (0, 0)) :: H) ⟨rfl, rfl, rfl⟩ (hd := zpk)
      · rw [h1] at hv
        obtain ⟨c2, cp2, c3, cp3, rfl, rfl⟩ := hv
        rw [carried_r (x := x.hl) (over_le_r hle h1)] at hP
        have hfV := fit_list h4 h5
        generalize listOf V = V at *
        (try (refine st ?_; intros))
        refine WQ.next (D.length - (i + 1)) ⟨i + 1, V, c3, cp3, rfl, rfl, rfl, rfl, rfl, ?_, ?_, ?_⟩ (by omega) zsb zpk
        · omega
        · exact hfV
        · exact hP
    · skip
      (try (refine st ?_; intros))
      refine w_callF Try.func27 ?_ (hs := carry_any hc hfx _ _ _ (RowR.row (a := a) zhs) hrx.more.more.more.more.more)
      rintro v m H1 ⟨rfl, hv⟩
      rcases car_cases c x.l with ⟨e, he, h1⟩ | ⟨U, V, h1, h2, h3, h4, h5⟩
      · rw [h1] at hv
        obtain ⟨rfl, rfl⟩ := hv
        rw [carried_l (x := x.hl) (over_gt_l hle h1)] at hP
        (try (refine st ?_; intros))
        rw [← hP]
        exact q_fin0 (H0 := .blk b (.cells [str now, str first, .slice ra K.length cra].toArray 131 (0, 0)) :: .row ra cra 136 3 (K.map Snt.cs) :: .blk hb (.cells [.int .i64 hand].toArray 3 (0, 0)) :: H) ⟨rfl, rfl, rfl⟩ (hd := zpk)
      · rw [h1] at hv
        obtain ⟨c2, cp2, c3, cp3, rfl, rfl⟩ := hv
        rw [carried_r (x := x.hl) (over_gt_r hle h1)] at hP
        have hfU := fit_list h2 h3
        generalize listOf U = U at *
        (try (refine st ?_; intros))
        refine WQ.next (D.length - (i + 1)) ⟨i + 1, U, c2, cp2, rfl, rfl, rfl, rfl, rfl, ?_, ?_, ?_⟩ (by omega) zsb zpk
        · omega
        · exact hfU
        · exact hP
  · obtain rfl : i = D.length := by omega
    rw [List.drop_length, List.map_nil, carriedP] at hP
    (try (refine st ?_; intros))
    rw [← hP]
    exact q_fin0 (H0 := .blk b (.cells [str now, str first, .slice ra K.length cra].toArray 131 (0, 0)) :: .row ra cra 136 3 (K.map Snt.cs) :: .blk hb (.cells [.int .i64 hand].toArray 3 (0, 0)) :: .row a cap 59 3 (c.map Stp.cs) :: H) ⟨rfl, a, cap, rfl, rfl⟩ (hd := zpk)
theorem make_gen {b : Nat} {now first : List UInt8} {ra : Option Addr} {cra : Nat} {K : List Snt} {hand : Int} {a : Option Addr} {cap : Nat} {l : List Stp} {left : Bool} (hl : K.length ≤ 1000000) (hf : Fit l) (hn : now.length ≤ 1000000) (w0 : World) (m : Mem) (H : SHeap) (hr : RowR w0 m H 3 a (l.map Stp.cs)) :
    Does Try.prog 66 #[.pointer (some ⟨b, 0, none⟩), .int .i64 hand, .slice a l.length cap, .bool left] w0 m (.blk b (.cells [str now, str first, .slice ra K.length cra].toArray 131 (0, 0)) :: .row ra cra 136 3 (K.map Snt.cs) :: H)
      (fun v m' H' => m' = m ∧ ∃ c cp ra' cra', v = .slice c l.length cp ∧ H' = .row c cp 59 3 (l.map Stp.cs) :: .blk b (.cells [str (applyT now l), str first, .slice ra' (K ++ [Snt.mk hand l left a cap]).length cra'].toArray 131 (0, 0)) :: .row ra' cra' 136 3 ((K ++ [Snt.mk hand l left a cap]).map Snt.cs) :: H) := by
  refine Does.of_body (args := [.pointer (some ⟨b, 0, none⟩), .int .i64 hand, .slice a l.length cap, .bool left]) Try.func66 rfl Try.ntmps66 rfl ?_
  have hlen := hf.len
  have hKl : (K.map Snt.cs).length = K.length := by simp
  (try (refine st ?_; intros))
  refine w_callF Try.func22 ?_ (hs := apply_any hf (by omega) _ _ _ hr.more.more)
  rintro v m H1 ⟨rfl, rfl, rfl⟩
  rw [applyV_TE]
  (refine st ?_; intros; rename_i q ra2 cra2)
  refine w_callF Try.func77 ?_ (hs := clone_any (by omega) _ _ _ hr.more.more.more)
  rintro v m H1 ⟨rfl, c3, cp3, rfl, rfl⟩
  (try (refine st ?_; intros))
  have e1 : (K ++ [Snt.mk hand l left a cap]).length = K.length + 1 := by simp
  have e2 : (K ++ [Snt.mk hand l left a cap]).map Snt.cs = K.map Snt.cs ++ [sentV hand a l.length cap left] := by rw [List.map_append]; rfl
  rw [hKl]
  exact q_fin0 (H0 := .row c3 cp3 59 3 (l.map Stp.cs) :: .blk b (.cells [str (applyT now l), str first, .slice ra2 (K.length + 1) cra2].toArray 131 (0, 0)) :: .row ra2 cra2 136 3 (K.map Snt.cs ++ [sentV hand a l.length cap left]) :: H) ⟨rfl, c3, cp3, ra2, cra2, rfl, by rw [e1, e2]⟩ (hd := zpk)
theorem first_any {hb : Nat} {hand h : Int} (w0 : World) (m : Mem) (H : SHeap) :
    Does Try.prog 65 #[.int .i64 h, .pointer (some ⟨hb, 0, none⟩)] w0 m (.blk hb (.cells [.int .i64 hand].toArray 3 (0, 0)) :: H) (Gives (.bool (dcd (h ≤ hand))) m (.blk hb (.cells [.int .i64 hand].toArray 3 (0, 0)) :: H)) := by
  refine Does.of_body (args := [.int .i64 h, .pointer (some ⟨hb, 0, none⟩)]) Try.func65 rfl Try.ntmps65 rfl ?_
  (try (refine st ?_; intros))
  exact q_fin0 (H0 := .blk hb (.cells [.int .i64 hand].toArray 3 (0, 0)) :: H) (Gives.mk rfl) (hd := zpk)
def SendG (T1 T2 T3 : TypeId) (b : Nat) (now first : List UInt8) (ra : Option Addr) (cra : Nat) (K : List Snt) (hand : Int) (m : Mem) (H : SHeap) (res : Int ⊕ List Stp) : Value → Mem → SHeap → Prop := fun v m' H' => m' = m ∧ match res with
  | .inl e => v = .tuple #[.slice none 0 0, .int .i64 e] ∧ H' = .blk b (.cells [str now, str first, .slice ra K.length cra].toArray T1 (0, 0)) :: .row ra cra T3 3 (K.map Snt.cs) :: H
  | .inr d => ∃ c cp a cap ra' cra', v = .tuple #[.slice c d.length cp, .int .i64 0] ∧ H' = .row c cp T2 3 (d.map Stp.cs) :: .blk b (.cells [str (applyT now d), str first, .slice ra' (K ++ [Snt.mk hand d true a cap]).length cra'].toArray T1 (0, 0)) :: .row ra' cra' T3 3 ((K ++ [Snt.mk hand d true a cap]).map Snt.cs) :: .row a cap T2 3 (d.map Stp.cs) :: H
theorem sq_E38_1 {G : Prop} (h : G := by (repeat (first | (refine sp ?_; (repeat intro zzc)) | (refine iF 40 rfl ?_; refine w_callG Try.func40 ?_ (hs := sizes_any (by assumption) _ _ _ (by assumption))))); exact WQ.q1 rfl) : G := h
theorem st_E38_1 {G G' : Prop} (next : G') (h : Bx G' → G := by intro zzn; (first | ((refine st ?_; (repeat intro zzc)); (try ((first | (refine iF 40 rfl ?_; refine w_callG Try.func40 ?_ (hs := sizes_any (by assumption) _ _ _ (by assumption))) | ((refine iDraw ?_; (first | refine WC.drawAll rfl (by decide +kernel) ?_ | refine WC.draw 1 rfl (by decide +kernel) ?_ | refine WC.draw 2 rfl (by decide +kernel) ?_ | refine WC.draw 3 rfl (by decide +kernel) ?_ | refine WC.draw 4 rfl (by decide +kernel) ?_ | refine WC.draw 5 rfl (by decide +kernel) ?_ | refine WC.draw 6 rfl (by decide +kernel) ?_ | refine WC.draw 7 rfl (by decide +kernel) ?_ | refine WC.draw 8 rfl (by decide +kernel) ?_ | refine WC.draw 9 rfl (by decide +kernel) ?_ | refine WC.draw 10 rfl (by decide +kernel) ?_ | refine WC.draw 11 rfl (by decide +kernel) ?_ | refine WC.draw 12 rfl (by decide +kernel) ?_ | refine WC.draw 13 rfl (by decide +kernel) ?_ | refine WC.draw 14 rfl (by decide +kernel) ?_ | refine WC.draw 15 rfl (by decide +kernel) ?_ | refine WC.draw 16 rfl (by decide +kernel) ?_ | refine WC.draw 17 rfl (by decide +kernel) ?_ | refine WC.draw 18 rfl (by decide +kernel) ?_ | refine WC.draw 19 rfl (by decide +kernel) ?_ | refine WC.draw 20 rfl (by decide +kernel) ?_ | refine WC.draw 21 rfl (by decide +kernel) ?_ | refine WC.draw 22 rfl (by decide +kernel) ?_ | refine WC.draw 23 rfl (by decide +kernel) ?_ | refine WC.draw 24 rfl (by decide +kernel) ?_)); (repeat (refine WD.cons rfl (fun c h => by cases h) sq_E38_1 ?_)); refine WD.nil ?_)); (try (refine st ?_; (repeat intro zzc)))))) | ((first | (refine iF 40 rfl ?_; refine w_callG Try.func40 ?_ (hs := sizes_any (by assumption) _ _ _ (by assumption))) | ((refine iDraw ?_; (first | refine WC.drawAll rfl (by decide +kernel) ?_ | refine WC.draw 1 rfl (by decide +kernel) ?_ | refine WC.draw 2 rfl (by decide +kernel) ?_ | refine WC.draw 3 rfl (by decide +kernel) ?_ | refine WC.draw 4 rfl (by decide +kernel) ?_ | refine WC.draw 5 rfl (by decide +kernel) ?_ | refine WC.draw 6 rfl (by decide +kernel) ?_ | refine WC.draw 7 rfl (by decide +kernel) ?_ | refine WC.draw 8 rfl (by decide +kernel) ?_ | refine WC.draw 9 rfl (by decide +kernel) ?_ | refine WC.draw 10 rfl (by decide +kernel) ?_ | refine WC.draw 11 rfl (by decide +kernel) ?_ | refine WC.draw 12 rfl (by decide +kernel) ?_ | refine WC.draw 13 rfl (by decide +kernel) ?_ | refine WC.draw 14 rfl (by decide +kernel) ?_ | refine WC.draw 15 rfl (by decide +kernel) ?_ | refine WC.draw 16 rfl (by decide +kernel) ?_ | refine WC.draw 17 rfl (by decide +kernel) ?_ | refine WC.draw 18 rfl (by decide +kernel) ?_ | refine WC.draw 19 rfl (by decide +kernel) ?_ | refine WC.draw 20 rfl (by decide +kernel) ?_ | refine WC.draw 21 rfl (by decide +kernel) ?_ | refine WC.draw 22 rfl (by decide +kernel) ?_ | refine WC.draw 23 rfl (by decide +kernel) ?_ | refine WC.draw 24 rfl (by decide +kernel) ?_)); (repeat (refine WD.cons rfl (fun c h => by cases h) sq_E38_1 ?_)); refine WD.nil ?_)); (try (refine st ?_; (repeat intro zzc))))); (repeat ((first | (refine iF 40 rfl ?_; refine w_callG Try.func40 ?_ (hs := sizes_any (by assumption) _ _ _ (by assumption))) | ((refine iDraw ?_; (first | refine WC.drawAll rfl (by decide +kernel) ?_ | refine WC.draw 1 rfl (by decide +kernel) ?_ | refine WC.draw 2 rfl (by decide +kernel) ?_ | refine WC.draw 3 rfl (by decide +kernel) ?_ | refine WC.draw 4 rfl (by decide +kernel) ?_ | refine WC.draw 5 rfl (by decide +kernel) ?_ | refine WC.draw 6 rfl (by decide +kernel) ?_ | refine WC.draw 7 rfl (by decide +kernel) ?_ | refine WC.draw 8 rfl (by decide +kernel) ?_ | refine WC.draw 9 rfl (by decide +kernel) ?_ | refine WC.draw 10 rfl (by decide +kernel) ?_ | refine WC.draw 11 rfl (by decide +kernel) ?_ | refine WC.draw 12 rfl (by decide +kernel) ?_ | refine WC.draw 13 rfl (by decide +kernel) ?_ | refine WC.draw 14 rfl (by decide +kernel) ?_ | refine WC.draw 15 rfl (by decide +kernel) ?_ | refine WC.draw 16 rfl (by decide +kernel) ?_ | refine WC.draw 17 rfl (by decide +kernel) ?_ | refine WC.draw 18 rfl (by decide +kernel) ?_ | refine WC.draw 19 rfl (by decide +kernel) ?_ | refine WC.draw 20 rfl (by decide +kernel) ?_ | refine WC.draw 21 rfl (by decide +kernel) ?_ | refine WC.draw 22 rfl (by decide +kernel) ?_ | refine WC.draw 23 rfl (by decide +kernel) ?_ | refine WC.draw 24 rfl (by decide +kernel) ?_)); (repeat (refine WD.cons rfl (fun c h => by cases h) sq_E38_1 ?_)); refine WD.nil ?_)); (try (refine st ?_; (repeat intro zzc))))); (repeat revert zzc); exact zzn.out) : G := h ⟨next⟩
theorem send_gen {b : Nat} {now first : List UInt8} {ra : Option Addr} {cra : Nat} {K : List Snt} {hand rev : Int} {pa : Option Addr} {ca : Nat} {l : List Stp} (hl : K.length ≤ 1000000) (hf : ∀ x ∈ K, Fit x.l) (hh : ∀ x ∈ K, -9223372036854775808 ≤ x.h ∧ x.h ≤ 9223372036854775807)
    (hfl : first.length ≤ 1000000) (hnl : now.length ≤ 1000000) (hfit : Fit l) (w0 : World) (m : Mem) (H : SHeap) (hK : ∀ x ∈ K, x.it 59 ∈ H) (hr0 : RowR w0 m H 3 pa (l.map Stp.cs)) :
    Does Try.prog 31 #[.pointer (some ⟨b, 0, none⟩), .int .i64 hand, .int .i64 rev, .slice pa l.length ca] w0 m (.blk b (.cells [str now, str first, .slice ra K.length cra].toArray 131 (0, 0)) :: .row ra cra 136 3 (K.map Snt.cs) :: H) (SendG 131 59 136 b now first ra cra K hand m H (sendR first now K hand rev l)) := by
  refine Does.of_body (args := [.pointer (some ⟨b, 0, none⟩), .int .i64 hand, .int .i64 rev, .slice pa l.length ca]) Try.func31 rfl Try.ntmps31 rfl ?_
  (refine st_E38_1 ?_; intros; rename_i bh)
  refine w_callF Try.func40 ?_ (hs := sizes_any hfit _ _ _ hr0.more.more.more)
  rintro v m H1 ⟨rfl, rfl, rfl⟩
  generalize hR : sendR first now K hand rev l = R
  unfold sendR at hR
  cases hs : sizesOf l with
  | none =>
    rw [if_pos (.inr hs)] at hR
    subst hR
    rw [show szP none = .tuple #[.int .i64 0, .int .i64 0, .int .i64 2] from rfl]
    by_cases hh0 : hand < 0
    · (try (refine st_E38_1 ?_; intros))
      exact q_fin0 (H0 := .blk b (.cells [str now, str first, .slice ra K.length cra].toArray 131 (0, 0)) :: .row ra cra 136 3 (K.map Snt.cs) :: H) ⟨rfl, rfl, rfl⟩ (hd := zpk)
    · (try (refine st_E38_1 ?_; intros))
      exact q_fin0 (H0 := .blk b (.cells [str now, str first, .slice ra K.length cra].toArray 131 (0, 0)) :: .row ra cra 136 3 (K.map Snt.cs) :: H) ⟨rfl, rfl, rfl⟩ (hd := zpk)
  | some ft =>
    obtain ⟨f, t⟩ := ft
    rw [show szP (some (f, t)) = .tuple #[.int .i64 f, .int .i64 t, .int .i64 0] from rfl]
    obtain ⟨hok, hal, hpl, _⟩ := sized hs
    have hfp := fit_plain hs
    by_cases hh0 : hand < 0
    · rw [if_pos (.inl hh0)] at hR
      subst hR
      (try (refine st_E38_1 ?_; intros))
      exact q_fin0 (H0 := .blk b (.cells [str now, str first, .slice ra K.length cra].toArray 131 (0, 0)) :: .row ra cra 136 3 (K.map Snt.cs) :: H) ⟨rfl, rfl, rfl⟩ (hd := zpk)
    · rw [if_neg (by rw [hs]; simp; omega)] at hR
      (try (refine st_E38_1 ?_; intros))
      refine WL.heap (H' := .blk b (.cells [str now, str first, .slice ra K.length cra].toArray 131 (0, 0)) :: .row ra cra 136 3 (K.map Snt.cs) :: .blk bh (.cells [.int .i64 hand].toArray 3 (0, 0)) :: H) zpk ?_
      refine w_callF Try.func32 ?_ (hs := at_gen hl hf hfl _ _ _ (fun x hx => List.mem_cons_of_mem _ (hK x hx)))
      rintro v m H1 ⟨rfl, rfl, rfl⟩
      unfold atV
      by_cases hrv : rev < 0 ∨ (K.length : Int) < rev
      · rw [if_pos hrv] at hR ⊢
        subst hR
        (try (refine st_E38_1 ?_; intros))
        exact q_fin0 (H0 := .blk b (.cells [str now, str first, .slice ra K.length cra].toArray 131 (0, 0)) :: .row ra cra 136 3 (K.map Snt.cs) :: H) ⟨rfl, rfl, rfl⟩ (hd := zpk)
      · rw [if_neg hrv] at hR ⊢
        obtain ⟨u, hu, hul⟩ : ∃ u : List UInt8, (if rev = K.length then now else textAt first (K.take rev.toNat)) = u ∧ u.length ≤ 1000000 := by
          refine ⟨_, rfl, ?_⟩
          split
          · exact hnl
          · exact textAt_len hfl _
        have ev : (if rev = K.length then okV now else okV (textAt first (K.take rev.toNat))) = okV u := by rw [← hu]; split <;> rfl
        rw [hu] at hR
        rw [ev, okV]
        obtain ⟨n, rfl⟩ : ∃ n : Nat, rev = (n : Int) := ⟨rev.toNat, by omega⟩
        (try (refine st_E38_1 ?_; intros))
        refine w_callF Try.func22 ?_ (hs := apply_any hfit (by omega) _ _ _ hr0.more.more.more)
        rintro v m H1 ⟨rfl, rfl, rfl⟩
        rw [applyV_TE]
        by_cases hea : applyE u l = 0
        rotate_left
        · rw [if_pos hea] at hR
          subst hR
          (try (refine st_E38_1 ?_; intros))
          exact q_fin0 (H0 := .blk b (.cells [str now, str first, .slice ra K.length cra].toArray 131 (0, 0)) :: .row ra cra 136 3 (K.map Snt.cs) :: H) ⟨rfl, rfl, rfl⟩ (hd := zpk)
        · rw [if_neg (by simp [hea])] at hR
          by_cases hm1 : K.length = 1024
          · rw [if_pos hm1] at hR
            subst hR
            (try (refine st_E38_1 ?_; intros))
            exact q_fin0 (H0 := .blk b (.cells [str now, str first, .slice ra K.length cra].toArray 131 (0, 0)) :: .row ra cra 136 3 (K.map Snt.cs) :: H) ⟨rfl, rfl, rfl⟩ (hd := zpk)
          · rw [if_neg hm1, Int.toNat_natCast] at hR
            (try (refine st_E38_1 ?_; intros))
            refine w_callF Try.func42 ?_ (hs := plain_any hok (by omega) _ _ _ hr0.more.more.more)
            rintro v m H1 ⟨rfl, c1, cp1, rfl, rfl⟩
            (try (refine st_E38_1 ?_; intros))
            refine WL.heap (H' := .blk b (.cells [str now, str first, .slice ra K.length cra].toArray 131 (0, 0)) :: .row ra cra 136 3 (K.map Snt.cs) :: .blk bh (.cells [.int .i64 hand].toArray 3 (0, 0)) :: .row c1 cp1 59 3 ((plainOf l).map Stp.cs) :: H) zpk ?_
            refine w_callF Try.func64 ?_ (hs := carried_gen hl (by omega) hf hfp Try.func65 rfl rfl _ _ _ (fun h m H _ => first_any _ m H) hh hK)
            rintro v m H1 ⟨rfl, hv⟩
            rw [hR] at hv
            rcases carried_cases hand ((K.drop n).map Snt.hl) _ hfp with ⟨e, he, h1⟩ | ⟨d, h1, hfd⟩
            · rw [h1] at hR
              subst hR
              obtain ⟨rfl, rfl⟩ := hv
              (try (refine st_E38_1 ?_; intros))
              exact q_fin0 (H0 := .blk b (.cells [str now, str first, .slice ra K.length cra].toArray 131 (0, 0)) :: .row ra cra 136 3 (K.map Snt.cs) :: H) ⟨rfl, rfl, rfl⟩ (hd := zpk)
            · rw [h1] at hR
              subst hR
              obtain ⟨a2, cap2, rfl, rfl⟩ := hv
              (try (refine st_E38_1 ?_; intros))
              refine WL.heap (H' := .blk b (.cells [str now, str first, .slice ra K.length cra].toArray 131 (0, 0)) :: .row ra cra 136 3 (K.map Snt.cs) :: .row a2 cap2 59 3 (d.map Stp.cs) :: H) zpk ?_
              refine w_callF Try.func66 ?_ (hs := make_gen hl hfd hnl _ _ _ (RowR.row (a := a2) zhs))
              rintro v m H1 ⟨rfl, c, cp, ra3, cra3, rfl, rfl⟩
              (try (refine st_E38_1 ?_; intros))
              exact q_fin0 (H0 := .row c cp 59 3 (d.map Stp.cs) :: .blk b (.cells [str (applyT now d), str first, .slice ra3 (K ++ [Snt.mk hand d true a2 cap2]).length cra3].toArray 131 (0, 0)) :: .row ra3 cra3 136 3 ((K ++ [Snt.mk hand d true a2 cap2]).map Snt.cs) :: .row a2 cap2 59 3 (d.map Stp.cs) :: H) ⟨rfl, c, cp, a2, cap2, ra3, cra3, rfl, rfl⟩ (hd := zpk)
end Go.Proofs.Ytelgegefmjlimaa

/-
  Plain facts on changes that put one text in at one place, and on what many hands put in. No condition.
-/
namespace Go.Eng
open Go
/-- a text is put in at a place -/
def insA (k : Nat) (v : List UInt8) (n : Nat) : List Atm := List.replicate k .k ++ (v.map .p ++ List.replicate (n - k) .k)
theorem ins_from {k n : Nat} (v : List UInt8) (h : k ≤ n) : fromA (insA k v n) = n ∧ toA (insA k v n) = n + v.length := by
  unfold insA
  rw [fromA_append, fromA_append, fromA_k, fromA_p, fromA_k, toA_append, toA_append, toA_k, toA_p, toA_k]; omega
def noD : List Atm → Bool
  | [] => true
  | .d _ :: _ => false
  | _ :: l => noD l
theorem noD_append : ∀ x y : List Atm, noD (x ++ y) = (noD x && noD y)
  | [], y => rfl
  | .d _ :: x, y => rfl
  | .k :: x, y => noD_append x y
  | .p _ :: x, y => noD_append x y
theorem noD_k : ∀ n : Nat, noD (List.replicate n .k) = true
  | 0 => rfl
  | n + 1 => by rw [List.replicate_succ]; exact noD_k n
theorem noD_p : ∀ v : List UInt8, noD (v.map .p) = true
  | [] => rfl
  | _ :: v => noD_p v
theorem run_noD : ∀ (L : List Atm) (g : Gs), noD L = true → g.cur.d = [] → nfOf (g.run L) = nfOf g ++ L
  | [], g, _, _ => by rw [List.append_nil]; rfl
  | .k :: L, g, h, hd => by
    have := run_noD L (g.atom .k) h rfl
    rw [show g.run (.k :: L) = (g.atom .k).run L from rfl, this]
    have e : nfOf (g.atom .k) = nfOf g ++ [.k] := by
      simp [Gs.atom, Gs.keeps, nfOf, gapA, hd]
    rw [e, List.append_assoc]; rfl
  | .p b :: L, g, h, hd => by
    have := run_noD L (g.atom (.p b)) h hd
    rw [show g.run (.p b :: L) = (g.atom (.p b)).run L from rfl, this]
    have e : nfOf (g.atom (.p b)) = nfOf g ++ [.p b] := by
      simp [Gs.atom, nfOf, gapA, hd]
    rw [e, List.append_assoc]; rfl
  | .d b :: L, g, h, hd => by cases h
theorem ins_nf (k : Nat) (v : List UInt8) (n : Nat) : nfOf (Gs.start.run (insA k v n)) = insA k v n := by
  have h : noD (insA k v n) = true := by unfold insA; rw [noD_append, noD_append, noD_k, noD_p, noD_k]; rfl
  rw [run_noD _ _ h rfl]; rfl
theorem carA_kk (X Y : List Atm) : ∀ m : Nat, carA (List.replicate m .k ++ X) (List.replicate m .k ++ Y) = (carA X Y).map fun o => (List.replicate m .k ++ o.1, List.replicate m .k ++ o.2)
  | 0 => by simp only [List.replicate_zero, List.nil_append]; cases carA X Y <;> rfl
  | m + 1 => by
    rw [List.replicate_succ, List.cons_append, List.cons_append, carA, carA_kk X Y m, Option.map_map]; rfl
theorem carA_ps (X Y : List Atm) : ∀ u : List UInt8, carA (u.map .p ++ X) Y = (carA X Y).map fun o => (u.map .p ++ o.1, List.replicate u.length .k ++ o.2)
  | [] => by simp only [List.map_nil, List.length_nil, List.replicate_zero, List.nil_append]; cases carA X Y <;> rfl
  | b :: u => by
    rw [List.map_cons, List.cons_append, carA_px, carA_ps X Y u, Option.map_map]; rfl
theorem carA_qs (X Y : List Atm) (h : notPut X = true) : ∀ u : List UInt8, carA X (u.map .p ++ Y) = (carA X Y).map fun o => (List.replicate u.length .k ++ o.1, u.map .p ++ o.2)
  | [] => by simp only [List.map_nil, List.length_nil, List.replicate_zero, List.nil_append]; cases carA X Y <;> rfl
  | b :: u => by
    rw [List.map_cons, List.cons_append, carA_py _ _ _ h, carA_qs X Y h u, Option.map_map]; rfl
theorem notPut_k (n : Nat) : notPut (List.replicate n .k) = true := by cases n <;> rfl
theorem car_rep (n : Nat) : carA (List.replicate n .k) (List.replicate n .k) = some (List.replicate n .k, List.replicate n .k) := by
  have := carA_kk [] [] n
  rw [List.append_nil, carA] at this
  rw [this]; simp
theorem rep_split {m n : Nat} (h : m ≤ n) : List.replicate n Atm.k = List.replicate m .k ++ List.replicate (n - m) .k := by rw [List.replicate_append_replicate]; congr 1; omega
theorem car_ins {i q n : Nat} (u v : List UInt8) (hi : i ≤ n) (hq : q ≤ n) : carA (insA i u n) (insA q v n) = some (if i ≤ q then (insA i u (n + v.length), insA (q + u.length) v (n + u.length)) else (insA (i + v.length) u (n + v.length), insA q v (n + u.length))) := by
  by_cases h : i ≤ q
  · rw [if_pos h]
    have e1 : insA q v n = List.replicate i .k ++ (List.replicate (q - i) .k ++ (v.map .p ++ List.replicate (n - q) .k)) := by unfold insA; rw [rep_split h, List.append_assoc]
    have e2 : List.replicate (n - i) Atm.k = List.replicate (q - i) .k ++ List.replicate (n - q) .k := by rw [rep_split (show q - i ≤ n - i by omega)]; congr 2; omega
    rw [e1, insA, carA_kk, carA_ps, e2, carA_kk, carA_qs _ _ (notPut_k _), car_rep]
    simp only [Option.map_some, insA, Option.some.injEq, Prod.mk.injEq]
    constructor
    · rw [List.replicate_append_replicate, List.replicate_append_replicate]; congr 3; omega
    · have e : List.replicate (q + u.length) Atm.k = List.replicate i .k ++ (List.replicate u.length .k ++ List.replicate (q - i) .k) := by rw [List.replicate_append_replicate, List.replicate_append_replicate]; congr 1; omega
      rw [e]; simp only [List.append_assoc]; congr 5; omega
  · rw [if_neg h]
    have e1 : insA i u n = List.replicate q .k ++ (List.replicate (i - q) .k ++ (u.map .p ++ List.replicate (n - i) .k)) := by unfold insA; rw [rep_split (show q ≤ i by omega), List.append_assoc]
    have e2 : List.replicate (n - q) Atm.k = List.replicate (i - q) .k ++ List.replicate (n - i) .k := by rw [rep_split (show i - q ≤ n - q by omega)]; congr 2; omega
    have hp : notPut (List.replicate (i - q) .k ++ (u.map .p ++ List.replicate (n - i) .k)) = true := by
      rw [show i - q = (i - q - 1) + 1 by omega, List.replicate_succ]; rfl
    rw [e1]
    conv => lhs; rw [insA]
    rw [carA_kk, carA_qs _ _ hp, e2, carA_kk, carA_ps, car_rep]
    simp only [Option.map_some, insA, Option.some.injEq, Prod.mk.injEq]
    constructor
    · have e : List.replicate (i + v.length) Atm.k = List.replicate q .k ++ (List.replicate v.length .k ++ List.replicate (i - q) .k) := by rw [List.replicate_append_replicate, List.replicate_append_replicate]; congr 1; omega
      rw [e]; simp only [List.append_assoc]; congr 5; omega
    · rw [List.replicate_append_replicate, List.replicate_append_replicate]; congr 3; omega
/-- changes of one text, carried -/
theorem carP_list {A B : List Atm} {o : List Atm × List Atm} (h1 : nfOf (Gs.start.run A) = A) (h2 : nfOf (Gs.start.run B) = B) (h3 : fromA A = fromA B) (h4 : fromA A ≤ 65536) (h5 : toA A ≤ 65536) (h6 : toA B ≤ 65536) (ho : carA A B = some o) (h7 : toA o.1 ≤ 65536) :
    carP (listOf A) (listOf B) = .inr (listOf o.1, listOf o.2) := by
  unfold carP
  rw [sizes_list A h4 h5, sizes_list B (by omega) h6]
  simp only
  rw [if_neg (by simp; omega), carT_list, list_gaps, list_gaps, h1, h2, ho]
  simp only [Option.map_some]
  rw [if_neg (by omega)]
theorem over_ins {hand h : Int} {x c n : Nat} {u v : List UInt8} (hx : x ≤ n) (hc : c ≤ n) (hl : n + u.length + v.length ≤ 65536) :
    overP hand h (listOf (insA x u n)) (listOf (insA c v n)) = .inr (listOf (insA (if (h ≤ hand ∧ x ≤ c) ∨ (¬ h ≤ hand ∧ x < c) then c + u.length else c) v (n + u.length))) := by
  obtain ⟨f1, t1⟩ := ins_from u hx
  obtain ⟨f2, t2⟩ := ins_from v hc
  by_cases hh : h ≤ hand
  · have ho := car_ins u v hx hc
    by_cases hxc : x ≤ c
    · rw [if_pos hxc] at ho
      have ht := (ins_from (n := n + v.length) u (show x ≤ n + v.length by omega)).2
      rw [over_le_r hh (carP_list (ins_nf _ _ _) (ins_nf _ _ _) (by omega) (by omega) (by omega) (by omega) ho (by simp only; omega)), if_pos (.inl ⟨hh, hxc⟩)]
    · rw [if_neg hxc] at ho
      have ht := (ins_from (n := n + v.length) u (show x + v.length ≤ n + v.length by omega)).2
      rw [over_le_r hh (carP_list (ins_nf _ _ _) (ins_nf _ _ _) (by omega) (by omega) (by omega) (by omega) ho (by simp only; omega)), if_neg (by omega)]
  · have ho := car_ins v u hc hx
    by_cases hxc : c ≤ x
    · rw [if_pos hxc] at ho
      have ht := (ins_from (n := n + u.length) v (show c ≤ n + u.length by omega)).2
      rw [over_gt_r hh (carP_list (ins_nf _ _ _) (ins_nf _ _ _) (by omega) (by omega) (by omega) (by omega) ho (by simp only; omega)), if_neg (by omega)]
    · rw [if_neg hxc] at ho
      have ht := (ins_from (n := n + u.length) v (show c + u.length ≤ n + u.length by omega)).2
      rw [over_gt_r hh (carP_list (ins_nf _ _ _) (ins_nf _ _ _) (by omega) (by omega) (by omega) (by omega) ho (by simp only; omega)), if_pos (by omega)]
theorem ins_apply (s v : List UInt8) {k : Nat} (h : k ≤ s.length) : applyA s (insA k v s.length) = some (s.take k ++ (v ++ s.drop k)) := by
  have e := applyA_ks k s (v.map .p ++ List.replicate (s.length - k) .k) h
  unfold insA
  rw [e, applyA_ps]
  have e2 := applyA_ks (s.length - k) (s.drop k) [] (by simp)
  rw [List.append_nil] at e2
  rw [e2, List.drop_drop, show k + (s.length - k) = s.length by omega, List.drop_length, applyA_nil]
  simp [List.take_of_length_le]
end Go.Eng

/-
  Plain facts on what many hands put into one text: it comes to one text, in whatever order. No condition.
-/
namespace Go.Eng
open Go
section
variable (kk : Nat → Nat) (vv : Nat → List UInt8) (text : List UInt8)
/-- whose text stands first -/
def bef (g i : Nat) : Prop := kk g < kk i ∨ (kk g = kk i ∧ g < i)
instance (g i : Nat) : Decidable (bef kk g i) := by unfold bef; exact inferInstance
/-- how many bytes of those stand ahead -/
def aheadS (R : List Nat) (i : Nat) : Nat := (R.map fun g => if bef kk g i then (vv g).length else 0).sum
def posS (R : List Nat) (i : Nat) : Nat := kk i + aheadS kk vv R i
def lenS (R : List Nat) : Nat := text.length + (R.map fun g => (vv g).length).sum
/-- what a sheet keeps; the last one first in R -/
def chR : List Nat → List (Int × List Stp)
  | [] => []
  | i :: R => chR R ++ [((i : Int), listOf (insA (posS kk vv R i) (vv i) (lenS vv text R)))]
variable {kk vv text}
theorem bef_trans {a b c : Nat} (h1 : bef kk a b) (h2 : bef kk b c) : bef kk a c := by unfold bef at *; omega
theorem bef_irr {a : Nat} : ¬ bef kk a a := by unfold bef; omega
theorem bef_or {a b : Nat} (h : a ≠ b) : bef kk a b ∨ bef kk b a := by unfold bef; omega
theorem ahead_mono {g i : Nat} (h : bef kk g i) : ∀ R : List Nat, aheadS kk vv R g ≤ aheadS kk vv R i
  | [] => Nat.le_refl _
  | a :: R => by
    have := ahead_mono h R
    unfold aheadS at *
    simp only [List.map_cons, List.sum_cons]
    by_cases h1 : bef kk a g
    · rw [if_pos h1, if_pos (bef_trans h1 h)]; omega
    · rw [if_neg h1]; omega
theorem ahead_le (i : Nat) : ∀ R : List Nat, aheadS kk vv R i ≤ (R.map fun g => (vv g).length).sum
  | [] => Nat.le_refl _
  | a :: R => by
    have := ahead_le i R
    unfold aheadS at *
    simp only [List.map_cons, List.sum_cons]
    split <;> omega
theorem pos_le {i : Nat} (hk : kk i ≤ text.length) (R : List Nat) : posS kk vv R i ≤ lenS vv text R := by
  have := ahead_le (kk := kk) (vv := vv) i R
  unfold posS lenS; omega
theorem carried_append (hand : Int) (K2 : List (Int × List Stp)) : ∀ (K : List (Int × List Stp)) (c d : List Stp), carriedP hand K c = .inr d → carriedP hand (K ++ K2) c = carriedP hand K2 d
  | [], c, d, h => by rw [carriedP] at h; cases h; rfl
  | x :: K, c, d, h => by
    rw [List.cons_append]
    rcases over_cases hand x.1 x.2 c with ⟨e, _, h1⟩ | ⟨V, h1, _⟩
    · rw [carried_l h1] at h; cases h
    · rw [carried_r h1] at h ⊢; exact carried_append hand K2 K _ d h
theorem carried_R {i : Nat} (hki : kk i ≤ text.length) : ∀ R : List Nat, i ∉ R → (∀ g ∈ R, kk g ≤ text.length) → lenS vv text R + (vv i).length ≤ 65536 →
    carriedP (i : Int) (chR kk vv text R) (listOf (insA (kk i) (vv i) text.length)) = .inr (listOf (insA (posS kk vv R i) (vv i) (lenS vv text R)))
  | [], _, _, _ => by simp [chR, carriedP, posS, aheadS, lenS]
  | g :: R, hn, hk, hl => by
    have hgi : g ≠ i := fun h => hn (by simp [h])
    have hkg := hk g (by simp)
    have hl2 : lenS vv text (g :: R) = lenS vv text R + (vv g).length := by unfold lenS; simp only [List.map_cons, List.sum_cons]; omega
    have ih := carried_R hki R (fun h => hn (by simp [h])) (fun x hx => hk x (by simp [hx])) (by omega)
    rw [chR, carried_append _ _ _ _ _ ih]
    have ho := over_ins (hand := (i : Int)) (h := (g : Int)) (u := vv g) (v := vv i) (pos_le (vv := vv) hkg R) (pos_le (vv := vv) hki R) (by omega)
    rw [carried_r (x := ((g : Int), listOf (insA (posS kk vv R g) (vv g) (lenS vv text R)))) ho, carriedP, hl2]
    have hm1 := fun h => ahead_mono (kk := kk) (vv := vv) (g := g) (i := i) h R
    have hm2 := fun h => ahead_mono (kk := kk) (vv := vv) (g := i) (i := g) h R
    have e : posS kk vv (g :: R) i = posS kk vv R i + if bef kk g i then (vv g).length else 0 := by unfold posS aheadS; simp only [List.map_cons, List.sum_cons]; omega
    have e2 : (if ((g : Int) ≤ (i : Int) ∧ posS kk vv R g ≤ posS kk vv R i) ∨ (¬ (g : Int) ≤ (i : Int) ∧ posS kk vv R g < posS kk vv R i) then posS kk vv R i + (vv g).length else posS kk vv R i) = posS kk vv (g :: R) i := by
      rw [e]
      by_cases hb : bef kk g i
      · have h1 := hm1 hb
        rw [if_pos hb, if_pos]
        unfold posS; unfold bef at hb
        omega
      · rw [if_neg hb, if_neg]
        · rfl
        · have hb2 := (bef_or hgi).resolve_left hb
          have h1 := hm2 hb2
          unfold posS; unfold bef at hb2
          omega
    rw [e2]
/-- the text that is made, what stands first first -/
def ctS (kk : Nat → Nat) (vv : Nat → List UInt8) (text : List UInt8) : List Nat → Nat → List UInt8
  | [], p => text.drop p
  | h :: L, p => (text.drop p).take (kk h - p) ++ (vv h ++ ctS kk vv text L (kk h))
theorem ct_put {i : Nat} (hki : kk i ≤ text.length) (L2 : List Nat) (h2 : ∀ g ∈ L2, bef kk i g) (hk2 : ∀ g ∈ L2, kk g ≤ text.length) : ∀ (L1 : List Nat) (p : Nat), p ≤ kk i → List.Pairwise (bef kk) L1 → (∀ g ∈ L1, bef kk g i ∧ p ≤ kk g) →
    (ctS kk vv text (L1 ++ L2) p).take (kk i - p + (L1.map fun g => (vv g).length).sum) ++ (vv i ++ (ctS kk vv text (L1 ++ L2) p).drop (kk i - p + (L1.map fun g => (vv g).length).sum)) = ctS kk vv text (L1 ++ i :: L2) p
  | [], p, hp, _, _ => by
    simp only [List.nil_append, List.map_nil, List.sum_nil, Nat.add_zero, ctS]
    have key : (ctS kk vv text L2 p).take (kk i - p) = (text.drop p).take (kk i - p) ∧ (ctS kk vv text L2 p).drop (kk i - p) = ctS kk vv text L2 (kk i) := by
      cases L2 with
      | nil => simp only [ctS, List.drop_drop]; exact ⟨trivial, by congr 1; omega⟩
      | cons h L =>
        have hb := h2 h (by simp)
        have hk := hk2 h (by simp)
        have hle : kk i ≤ kk h := by unfold bef at hb; omega
        have hl : ((text.drop p).take (kk h - p)).length = kk h - p := by rw [List.length_take, List.length_drop]; omega
        simp only [ctS]
        constructor
        · rw [List.take_append_of_le_length (by omega), List.take_take, Nat.min_eq_left (by omega)]
        · rw [List.drop_append_of_le_length (by omega), List.drop_take, List.drop_drop]
          congr 2
          · omega
          · congr 1; omega
    rw [key.1, key.2]
  | h :: L1, p, hp, hs, hb => by
    obtain ⟨b1, b2⟩ := hb h (by simp)
    obtain ⟨s1, s2⟩ := List.pairwise_cons.1 hs
    have hle : kk h ≤ kk i := by unfold bef at b1; omega
    have ih := ct_put hki L2 h2 hk2 L1 (kk h) hle s2 (fun g hg => ⟨(hb g (by simp [hg])).1, by have := s1 g hg; unfold bef at this; omega⟩)
    have hl : ((text.drop p).take (kk h - p)).length = kk h - p := by rw [List.length_take, List.length_drop]; omega
    simp only [List.cons_append, ctS, List.map_cons, List.sum_cons]
    rw [← ih]
    generalize (L1.map fun g => (vv g).length).sum = q
    rw [show kk i - p + ((vv h).length + q) = ((text.drop p).take (kk h - p)).length + ((vv h).length + (kk i - kk h + q)) by omega, List.take_length_add_append, List.drop_length_add_append, List.take_length_add_append, List.drop_length_add_append]
    simp only [List.append_assoc]
theorem split_at {i : Nat} : ∀ L : List Nat, List.Pairwise (bef kk) L → i ∉ L → ∃ L1 L2, L = L1 ++ L2 ∧ (∀ g ∈ L1, bef kk g i) ∧ (∀ g ∈ L2, bef kk i g)
  | [], _, _ => ⟨[], [], rfl, by simp, by simp⟩
  | h :: L, hs, hn => by
    obtain ⟨s1, s2⟩ := List.pairwise_cons.1 hs
    have hne : h ≠ i := fun e => hn (by simp [e])
    by_cases hb : bef kk h i
    · obtain ⟨L1, L2, e, a, b⟩ := split_at (i := i) L s2 (fun h' => hn (List.mem_cons_of_mem _ h'))
      refine ⟨h :: L1, L2, by rw [e]; rfl, fun g hg => ?_, b⟩
      rcases List.mem_cons.1 hg with rfl | hg
      · exact hb
      · exact a g hg
    · have hb2 := (bef_or hne).resolve_left hb
      refine ⟨[], h :: L, rfl, by simp, fun g hg => ?_⟩
      rcases List.mem_cons.1 hg with rfl | hg
      · exact hb2
      · exact bef_trans hb2 (s1 g hg)
theorem ct_len (hkt : ∀ g, kk g ≤ text.length) : ∀ (L : List Nat) (p : Nat), p ≤ text.length → List.Pairwise (bef kk) L → (∀ g ∈ L, p ≤ kk g) → (ctS kk vv text L p).length + p = lenS vv text L
  | [], p, hp, _, _ => by simp only [ctS, lenS, List.length_drop, List.map_nil, List.sum_nil]; omega
  | h :: L, p, hp, hs, hb => by
    obtain ⟨s1, s2⟩ := List.pairwise_cons.1 hs
    have hph := hb h (by simp)
    have hh := hkt h
    have ih := ct_len hkt L (kk h) hh s2 (fun g hg => by have := s1 g hg; unfold bef at this; omega)
    have e : lenS vv text (h :: L) = lenS vv text L + (vv h).length := by unfold lenS; simp only [List.map_cons, List.sum_cons]; omega
    simp only [ctS, List.length_append, List.length_take, List.length_drop]
    omega
theorem len_perm {L R : List Nat} (h : L.Perm R) : lenS vv text L = lenS vv text R := by
  unfold lenS; rw [(h.map _).sum_nat]
theorem ahead_split {L1 L2 R : List Nat} {i : Nat} (h : (L1 ++ L2).Perm R) (h1 : ∀ g ∈ L1, bef kk g i) (h2 : ∀ g ∈ L2, bef kk i g) : aheadS kk vv R i = (L1.map fun g => (vv g).length).sum := by
  unfold aheadS
  rw [← (h.map _).sum_nat, List.map_append, List.sum_append]
  have e1 : L1.map (fun g => if bef kk g i then (vv g).length else 0) = L1.map fun g => (vv g).length := List.map_congr_left fun g hg => if_pos (h1 g hg)
  have e2 : L2.map (fun g => if bef kk g i then (vv g).length else 0) = L2.map fun _ => 0 := List.map_congr_left fun g hg => if_neg fun hb => bef_irr (bef_trans hb (h2 g hg))
  rw [e1, e2]
  have e3 : ∀ L : List Nat, (L.map fun _ => 0).sum = 0 := fun L => by induction L with
    | nil => rfl
    | cons _ _ ih => simp only [List.map_cons, List.sum_cons]; omega
  rw [e3]; rfl
/-- one hand more -/
theorem hand_more (hkt : ∀ g, kk g ≤ text.length) {L R : List Nat} {i : Nat} (hp : L.Perm R) (hs : List.Pairwise (bef kk) L) (hi : i ∉ R) :
    ∃ L', L'.Perm (i :: R) ∧ List.Pairwise (bef kk) L' ∧ applyA (ctS kk vv text L 0) (insA (posS kk vv R i) (vv i) (lenS vv text R)) = some (ctS kk vv text L' 0) ∧ (ctS kk vv text L 0).length = lenS vv text R := by
  obtain ⟨L1, L2, rfl, h1, h2⟩ := split_at L hs (fun h => hi (hp.mem_iff.1 h))
  obtain ⟨s1, s2, s3⟩ := List.pairwise_append.1 hs
  have hlen := ct_len (vv := vv) hkt (L1 ++ L2) 0 (Nat.zero_le _) hs (fun _ _ => Nat.zero_le _)
  rw [len_perm hp, Nat.add_zero] at hlen
  refine ⟨L1 ++ i :: L2, List.perm_middle.trans (List.Perm.cons i hp), ?_, ?_, hlen⟩
  · refine List.pairwise_append.2 ⟨s1, List.pairwise_cons.2 ⟨h2, s2⟩, fun a ha b hb => ?_⟩
    rcases List.mem_cons.1 hb with rfl | hb
    · exact h1 a ha
    · exact s3 a ha b hb
  · have hput := ct_put (vv := vv) (hkt i) L2 h2 (fun g _ => hkt g) L1 0 (Nat.zero_le _) s1 (fun g hg => ⟨h1 g hg, Nat.zero_le _⟩)
    rw [Nat.sub_zero, ← ahead_split hp h1 h2] at hput
    have hpl := pos_le (vv := vv) (hkt i) R
    have := ins_apply (ctS kk vv text (L1 ++ L2) 0) (vv i) (k := posS kk vv R i) (by omega)
    rw [hlen] at this
    rw [this]
    exact congrArg some hput
theorem sorted_one {L L' : List Nat} (h1 : List.Pairwise (bef kk) L) (h2 : List.Pairwise (bef kk) L') (h : L.Perm L') : L = L' :=
  List.Perm.eq_of_pairwise (fun _ _ _ _ a b => absurd (bef_trans a b) bef_irr) h1 h2 h
end
end Go.Eng

/-
  Plain facts on the law of many hands: its changes, and its other order. No condition.
-/
namespace Go.Eng
open Go
/-- a hand's change, as the law has it -/
def chg (k : Nat) (v : List UInt8) (N : Nat) : List Stp := ((if 0 < k then [⟨(k : Int), [], []⟩] else []) ++ (if v = [] then [] else [⟨0, [], v⟩])) ++ (if k < N then [⟨((N - k : Nat) : Int), [], []⟩] else [])
theorem chg_ok (k : Nat) (v : List UInt8) (N : Nat) : ∀ x ∈ chg k v N, stpOk x := by
  intro x hx
  unfold chg at hx
  rw [List.mem_append, List.mem_append] at hx
  rcases hx with (hx | hx) | hx
  · split at hx
    · rw [List.mem_singleton] at hx; subst hx; exact .inl ⟨by simp; omega, rfl, rfl⟩
    · cases hx
  · split at hx
    · cases hx
    · rename_i hv; rw [List.mem_singleton] at hx; subst hx; exact .inr (.inr ⟨rfl, rfl, hv⟩)
  · split at hx
    · rw [List.mem_singleton] at hx; subst hx; exact .inl ⟨by simp; omega, rfl, rfl⟩
    · cases hx
theorem chg_atoms {k N : Nat} (v : List UInt8) (h : k ≤ N) : atomsOf (chg k v N) = insA k v N := by
  unfold chg insA
  rw [atoms_append, atoms_append, List.append_assoc]
  congr 1
  · split
    · rw [atoms_one]; simp [Stp.atoms]
    · rw [show k = 0 by omega]; rfl
  · congr 1
    · split
      · rename_i hv; rw [hv]; rfl
      · rw [atoms_one]; simp [Stp.atoms]
    · split
      · rw [atoms_one]; simp [Stp.atoms]
      · rw [show N - k = 0 by omega]; rfl
theorem chg_sizes {k N : Nat} (v : List UInt8) (h : k ≤ N) (hl : N + v.length ≤ 65536) : sizesOf (chg k v N) = some ((N : Int), ((N + v.length : Nat) : Int)) := by
  obtain ⟨h1, h2⟩ := ins_from v h
  rw [sizesOf_of (chg_ok k v N) (by rw [chg_atoms v h]; omega) (by rw [chg_atoms v h]; omega), chg_atoms v h, h1, h2]
theorem chg_plain {k N : Nat} (v : List UInt8) (h : k ≤ N) : plainOf (chg k v N) = listOf (insA k v N) := by
  rw [plain_list, gapsOf_run _ (chg_ok k v N), chg_atoms v h, ins_nf]
theorem chg_fit {k N : Nat} (v : List UInt8) (h : k ≤ N) (hl : N + v.length ≤ 65536) : Fit (chg k v N) := by
  have ha : ∀ x ∈ chg k v N, x.atoms.length ≤ N + v.length := fun x hx => by
    have := mem_atoms hx
    rw [chg_atoms v h] at this
    have e : (insA k v N).length = N + v.length := by unfold insA; simp; omega
    omega
  refine ⟨?_, fun x hx => ?_, fun x hx => ?_, fun x hx => ?_⟩
  · unfold chg
    simp only [List.length_append]
    split <;> split <;> split <;> simp
  all_goals
    have hb := stp_bounds (chg_ok k v N x hx)
    have := ha x hx
    omega
/-- the other order -/
def fk (n : Nat) (turn : Int) (i : Nat) : Nat := (i + (turn.tmod n + n).toNat) % n
def fb (n : Nat) (turn : Int) (i : Nat) : Nat := if turn.tmod 2 ≠ 0 then n - 1 - fk n turn i else fk n turn i
theorem tmod_bounds {n : Nat} (h : 0 < n) (turn : Int) : -(n : Int) < turn.tmod n ∧ turn.tmod n < n := by
  have h1 := Int.tmod_lt_of_pos turn (show (0 : Int) < n by omega)
  have h2 := Int.lt_tmod_of_pos turn (show (0 : Int) < n by omega)
  omega
theorem fk_int {n i : Nat} (h : 0 < n) (turn : Int) : ((i : Int) + turn.tmod n + n).tmod n = (fk n turn i : Nat) := by
  have := tmod_bounds h turn
  have e : (i : Int) + turn.tmod n + n = ((i + (turn.tmod n + n).toNat : Nat) : Int) := by omega
  rw [e, Int.tmod_eq_emod_of_nonneg (by omega)]
  unfold fk
  omega
theorem fk_eq {n i : Nat} (hi : i < n) (turn : Int) : fk n turn i = if i + (turn.tmod n + n).toNat % n < n then i + (turn.tmod n + n).toNat % n else i + (turn.tmod n + n).toNat % n - n := by
  unfold fk
  have hlt := Nat.mod_lt (turn.tmod n + n).toNat (show 0 < n by omega)
  rw [Nat.add_mod, Nat.mod_eq_of_lt hi]
  split
  · rename_i h; exact Nat.mod_eq_of_lt h
  · rename_i h; rw [Nat.mod_eq_sub_mod (by omega), Nat.mod_eq_of_lt (by omega)]
theorem fk_lt {n : Nat} (h : 0 < n) (turn : Int) (i : Nat) : fk n turn i < n := Nat.mod_lt _ h
theorem fb_lt {n i : Nat} (hi : i < n) (turn : Int) : fb n turn i < n := by
  have hlt := Nat.mod_lt (i + (turn.tmod n + n).toNat) (show 0 < n by omega)
  unfold fb fk
  split <;> omega
theorem fb_inj {n i j : Nat} (hi : i < n) (hj : j < n) (turn : Int) (h : fb n turn i = fb n turn j) : i = j := by
  have h1 := fk_eq hi turn
  have h2 := fk_eq hj turn
  have hlt := Nat.mod_lt (turn.tmod n + n).toNat (show 0 < n by omega)
  have l1 : fk n turn i < n := Nat.mod_lt _ (by omega)
  have l2 : fk n turn j < n := Nat.mod_lt _ (by omega)
  generalize (turn.tmod n + n).toNat % n = t at *
  have h3 : fk n turn i = fk n turn j := by unfold fb at h; split at h <;> omega
  split at h1 <;> split at h2 <;> omega
theorem fb_onto {n a : Nat} (ha : a < n) (turn : Int) : ∃ i, i < n ∧ fb n turn i = a := by
  have hlt := Nat.mod_lt (turn.tmod n + n).toNat (show 0 < n by omega)
  have key : ∀ b, b < n → ∃ i, i < n ∧ fk n turn i = b := by
    intro b hb
    by_cases h : (turn.tmod n + n).toNat % n ≤ b
    · refine ⟨b - (turn.tmod n + n).toNat % n, by omega, ?_⟩
      rw [fk_eq (by omega), if_pos (by omega)]; omega
    · refine ⟨b + n - (turn.tmod n + n).toNat % n, by omega, ?_⟩
      rw [fk_eq (by omega), if_neg (by omega)]; omega
  unfold fb
  by_cases ht : turn.tmod 2 ≠ 0
  · obtain ⟨i, h1, h2⟩ := key (n - 1 - a) (by omega)
    exact ⟨i, h1, by rw [if_pos ht, h2]; omega⟩
  · obtain ⟨i, h1, h2⟩ := key a ha
    exact ⟨i, h1, by rw [if_neg ht, h2]⟩
/-- who has sent, the last one first -/
def sentA (i : Nat) : List Nat := (List.range i).reverse
def sentB (n : Nat) (turn : Int) (i : Nat) : List Nat := ((List.range i).map (fb n turn)).reverse
theorem sentA_next (i : Nat) : sentA (i + 1) = i :: sentA i ∧ i ∉ sentA i ∧ ∀ g ∈ sentA i, g < i := by
  unfold sentA
  refine ⟨by rw [List.range_succ, List.reverse_append]; rfl, fun h => ?_, fun g h => ?_⟩
  · rw [List.mem_reverse, List.mem_range] at h; omega
  · rwa [List.mem_reverse, List.mem_range] at h
theorem sentB_next {n i : Nat} (hi : i < n) (turn : Int) : sentB n turn (i + 1) = fb n turn i :: sentB n turn i ∧ fb n turn i ∉ sentB n turn i ∧ ∀ g ∈ sentB n turn i, g < n := by
  unfold sentB
  refine ⟨by rw [List.range_succ, List.map_append, List.reverse_append]; rfl, fun h => ?_, fun g h => ?_⟩
  · rw [List.mem_reverse, List.mem_map] at h
    obtain ⟨a, h1, h2⟩ := h
    rw [List.mem_range] at h1
    have := fb_inj (show a < n by omega) hi turn h2
    omega
  · rw [List.mem_reverse, List.mem_map] at h
    obtain ⟨a, h1, rfl⟩ := h
    rw [List.mem_range] at h1
    exact fb_lt (by omega) turn
theorem sent_nodup {n i : Nat} (hi : i ≤ n) (turn : Int) : (sentB n turn i).Nodup := by
  unfold sentB List.Nodup
  rw [List.pairwise_reverse, List.pairwise_map]
  refine List.Pairwise.imp_of_mem ?_ List.nodup_range
  intro a b ha hb hab he
  rw [List.mem_range] at ha hb
  exact hab (fb_inj (by omega) (by omega) turn he.symm)
theorem sent_perm (n : Nat) (turn : Int) : (sentA n).Perm (sentB n turn n) := by
  unfold sentA sentB
  refine (List.reverse_perm _).trans (List.Perm.trans ?_ (List.reverse_perm _).symm)
  refine (List.perm_ext_iff_of_nodup List.nodup_range ?_).2 fun a => ?_
  · unfold List.Nodup
    rw [List.pairwise_map]
    refine List.Pairwise.imp_of_mem ?_ List.nodup_range
    intro a b ha hb hab he
    rw [List.mem_range] at ha hb
    exact hab (fb_inj ha hb turn he)
  · rw [List.mem_range, List.mem_map]
    constructor
    · intro h
      obtain ⟨i, h1, h2⟩ := fb_onto h turn
      exact ⟨i, List.mem_range.2 h1, h2⟩
    · rintro ⟨i, h1, rfl⟩
      exact fb_lt (List.mem_range.1 h1) turn
/-- how many bytes there are -/
theorem len_next (vv : Nat → List UInt8) (text : List UInt8) (R : List Nat) (i : Nat) : lenS vv text (i :: R) = lenS vv text R + (vv i).length := by unfold lenS; simp only [List.map_cons, List.sum_cons]; omega
theorem len_less {vv : Nat → List UInt8} {text : List UInt8} {R : List Nat} {n : Nat} (hn : R.Nodup) (h : ∀ g ∈ R, g < n) : lenS vv text R ≤ lenS vv text (sentA n) := by
  have key : ∀ (n : Nat) (R : List Nat), R.Nodup → (∀ g ∈ R, g < n) → (R.map fun g => (vv g).length).sum ≤ ((List.range n).map fun g => (vv g).length).sum := by
    intro n
    induction n with
    | zero =>
      intro R _ h
      cases R with
      | nil => exact Nat.le_refl _
      | cons a R => have := h a (by simp); omega
    | succ n ih =>
      intro R hn h
      rw [List.range_succ, List.map_append, List.sum_append]
      by_cases hm : n ∈ R
      · have hp := List.perm_cons_erase hm
        rw [(hp.map _).sum_nat]
        simp only [List.map_cons, List.sum_cons, List.map_nil, List.sum_nil]
        have := ih (R.erase n) (hn.erase n) (fun g hg => by
          have h1 := h g (List.mem_of_mem_erase hg)
          have h2 : g ≠ n := fun e => by subst e; exact (List.Nodup.not_mem_erase hn) hg
          omega)
        omega
      · have := ih R hn (fun g hg => by
          have h1 := h g hg
          have h2 : g ≠ n := fun e => hm (e ▸ hg)
          omega)
        omega
  have := key n R hn h
  unfold lenS sentA
  rw [((List.reverse_perm (List.range n)).map _).sum_nat]
  omega
end Go.Eng

