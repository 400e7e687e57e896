/-
  Parts of a walk, joined: ET23 ET24 ET25 E35 E36 E37 LM6. No condition.
-/
import Derived.Test.YtelgegefmjlimaaP6
import Derived.Test.YtelgegefmjlimaaP4
import Derived.Test.YtelgegefmjlimaaP5
import Derived.Test.YtelgegefmjlimaaP2
/-
  Plain facts on changes: the change that keeps whole pieces alone. No condition.
-/
namespace Go.Eng
open Go
/-- is a piece kept whole, and is it a piece where it has gone? -/
def keptB (t : List UInt8) (G : List Int) (p : Pc) : Bool :=
  (decide (0 ≤ gAt G p.at_) && (List.range p.w).all fun q => decide (gAt G (p.at_ + q) = gAt G p.at_ + q)) && (edgeB t (gAt G p.at_).toNat && decide ((readP t (gAt G p.at_).toNat).w = p.w))
theorem kept_iff {t : List UInt8} {G : List Int} {p : Pc} (hl : 0 ≤ gAt G p.at_ → gAt G p.at_ ≤ t.length) : keptB t G p = true ↔ 0 ≤ gAt G p.at_ ∧ (∀ q, q < p.w → gAt G (p.at_ + q) = gAt G p.at_ + q) ∧ Reach t (gAt G p.at_).toNat ∧ (readP t (gAt G p.at_).toNat).w = p.w := by
  unfold keptB
  rw [Bool.and_eq_true, Bool.and_eq_true, Bool.and_eq_true, decide_eq_true_eq, decide_eq_true_eq, List.all_eq_true]
  constructor
  · rintro ⟨⟨h1, h2⟩, h3, h4⟩
    exact ⟨h1, fun q hq => by have := h2 q (List.mem_range.2 hq); rwa [decide_eq_true_eq] at this, (edge_iff (by have := hl h1; omega)).1 h3, h4⟩
  · rintro ⟨h1, h2, h3, h4⟩
    exact ⟨⟨h1, fun q hq => by rw [decide_eq_true_eq]; exact h2 q (List.mem_range.1 hq)⟩, (edge_iff (by have := hl h1; omega)).2 h3, h4⟩
structure Wh where
  L : List Atm
  f : Nat
  t : Nat
def Wh.put (s t : List UInt8) (x : Wh) (a b w : Nat) : Wh := ⟨x.L ++ (((t.take b).drop x.t).map .p ++ (((s.take a).drop x.f).map .d ++ List.replicate w .k)), a + w, b + w⟩
def whStep (s t : List UInt8) (G : List Int) (x : Wh) (p : Pc) : Wh := if keptB t G p = true then x.put s t p.at_ (gAt G p.at_).toNat p.w else x
def whTo (s t : List UInt8) (G : List Int) (i : Nat) : Wh := (pieces s).foldl (fun x p => if p.at_ < i then whStep s t G x p else x) ⟨[], 0, 0⟩
theorem fold_congr {α β : Type} (f g : β → α → β) : ∀ (l : List α) (b : β), (∀ x ∈ l, ∀ b, f b x = g b x) → l.foldl f b = l.foldl g b
  | [], _, _ => rfl
  | x :: l, b, h => by
    rw [List.foldl_cons, List.foldl_cons, h x (by simp) b]
    exact fold_congr f g l _ (fun y hy b => h y (by simp [hy]) b)
theorem fold_id {α β : Type} (f : β → α → β) : ∀ (l : List α) (b : β), (∀ x ∈ l, ∀ b, f b x = b) → l.foldl f b = b
  | [], _, _ => rfl
  | x :: l, b, h => by
    rw [List.foldl_cons, h x (by simp) b]
    exact fold_id f l _ (fun y hy b => h y (by simp [hy]) b)
theorem wh_zero (s t : List UInt8) (G : List Int) : whTo s t G 0 = ⟨[], 0, 0⟩ := fold_id _ _ _ fun p _ x => if_neg (by omega)
theorem wh_skip {s t : List UInt8} {G : List Int} {i j : Nat} (hij : i ≤ j) (h : ∀ p ∈ pieces s, i ≤ p.at_ → p.at_ < j → keptB t G p = false) : whTo s t G j = whTo s t G i := by
  refine fold_congr _ _ _ _ fun p hp x => ?_
  by_cases h1 : p.at_ < i
  · rw [if_pos h1, if_pos (by omega)]
  · rw [if_neg h1]
    split
    · rename_i h2
      unfold whStep
      rw [h p hp (by omega) h2]; rfl
    · rfl
theorem wh_edge {s t : List UInt8} {G : List Int} {i : Nat} (hr : Reach s i) (hi : i < s.length) : whTo s t G (i + (readP s i).w) = whStep s t G (whTo s t G i) (readP s i) := by
  have hw := readP_w hi
  obtain ⟨pre, h1, h2, h3⟩ := reach_parts hr
  have hn := hr.step hi
  obtain ⟨_, _, _, h4⟩ := reach_parts hn
  rw [from_cons hi] at h1
  unfold whTo
  rw [h1, List.foldl_append, List.foldl_append, List.foldl_cons, List.foldl_cons, readP_at, if_pos (by omega), if_neg (by omega)]
  rw [fold_id _ (from_ s (i + (readP s i).w)) _ fun p hp x => if_neg (by have := h4 p hp; omega), fold_id _ (from_ s (i + (readP s i).w)) _ fun p hp x => if_neg (by have := h4 p hp; omega)]
  congr 1
  refine fold_congr _ _ _ _ fun p hp x => ?_
  rcases h2 p hp with h | h
  · rw [if_pos h, if_pos (by omega)]
  · omega
/-- the kept rows of a list begin and end with pieces, of both texts -/
def EdgesOk (s t : List UInt8) : Nat → Nat → List Stp → Prop
  | _, _, [] => True
  | a, b, x :: l => (0 < x.k → Reach s a ∧ Reach t b ∧ Reach s (a + x.k.toNat) ∧ Reach t (b + x.k.toNat) ∧ a + x.k.toNat ≤ s.length ∧ b + x.k.toNat ≤ t.length) ∧ EdgesOk s t (a + fromA x.atoms) (b + toA x.atoms) l
theorem edges_append {s t : List UInt8} : ∀ (l m : List Stp) (a b : Nat), EdgesOk s t a b (l ++ m) ↔ EdgesOk s t a b l ∧ EdgesOk s t (a + fromA (atomsOf l)) (b + toA (atomsOf l)) m
  | [], m, a, b => by simp [EdgesOk, atomsOf, fromA, toA]
  | x :: l, m, a, b => by
    rw [List.cons_append, EdgesOk, edges_append l m, EdgesOk, atoms_cons, fromA_append, toA_append, and_assoc, Nat.add_assoc, Nat.add_assoc]
theorem edges_opt {s t : List UInt8} {a b : Nat} {l : List Stp} {x : Stp} {c : Prop} [Decidable c] (h : EdgesOk s t a b l) (hx : ¬ 0 < x.k) : EdgesOk s t a b (l ++ if c then [] else [x]) := by
  split
  · rw [List.append_nil]; exact h
  · exact (edges_append _ _ _ _).2 ⟨h, ⟨fun h => absurd h hx, trivial⟩⟩
theorem edges_close {s t : List UInt8} {a b : Nat} {B : Bld} (h : EdgesOk s t a b B.l) : EdgesOk s t a b B.close.l := by
  unfold Bld.close
  exact edges_opt (edges_opt h (by simp)) (by simp)
theorem edges_add {s t : List UInt8} {l : List Stp} {w : Nat} (h : EdgesOk s t 0 0 l) (hok : ∀ x ∈ l, stpOk x)
    (h1 : Reach s (fromA (atomsOf l))) (h2 : Reach t (toA (atomsOf l))) (h3 : Reach s (fromA (atomsOf l) + w)) (h4 : Reach t (toA (atomsOf l) + w)) (h5 : fromA (atomsOf l) + w ≤ s.length) (h6 : toA (atomsOf l) + w ≤ t.length) : EdgesOk s t 0 0 (addKeep l (w : Int)) := by
  unfold addKeep
  have new : EdgesOk s t 0 0 (l ++ [⟨(w : Int), [], []⟩]) := (edges_append _ _ _ _).2 ⟨h, ⟨fun _ => by simp only [Nat.zero_add, Int.toNat_natCast]; exact ⟨h1, h2, h3, h4, h5, h6⟩, trivial⟩⟩
  cases hl : l.getLast? with
  | none =>
    have e : l = [] := List.getLast?_eq_none_iff.1 hl
    rw [e] at new
    exact new
  | some y =>
    obtain ⟨ys, e⟩ := List.getLast?_eq_some_iff.1 hl
    have e2 : l.dropLast = ys := by rw [e]; simp
    simp only
    split
    · rename_i hs
      obtain ⟨k1, k2⟩ := kept_shape hs (hok y (by rw [e]; simp))
      rw [e2]
      rw [e] at h
      obtain ⟨g1, g2⟩ := (edges_append _ _ _ _).1 h
      obtain ⟨g3, g4, g5, g6, g7, g8⟩ := g2.1 hs
      rw [e, atoms_append, atoms_one, fromA_append, from_step, k1] at h3 h5
      rw [e, atoms_append, atoms_one, toA_append, to_step, k2] at h4 h6
      simp only [List.length_nil, Nat.add_zero, Nat.zero_add] at *
      have ek : (y.k + (w : Int)).toNat = y.k.toNat + w := by omega
      refine (edges_append _ _ _ _).2 ⟨g1, ⟨fun _ => ?_, trivial⟩⟩
      simp only [Nat.zero_add, ek, ← Nat.add_assoc]
      exact ⟨g3, g4, h3, h4, h5, h6⟩
    · exact new
theorem run_ok (L : List Atm) : ∀ x ∈ (Bld.start.run L).l, stpOk x := by
  rw [start_run]; exact (bldGs_atoms _).2
structure EdgeB (s t : List UInt8) (B : Bld) (f g : Nat) : Prop where
  ok : EdgesOk s t 0 0 B.l
  f : fromA (atomsOf B.l) + B.d.length = f
  t : toA (atomsOf B.l) + B.p.length = g
theorem edge_keep {s t : List UInt8} {B : Bld} {f g w : Nat} (hok : ∀ x ∈ B.l, stpOk x) (h : EdgeB s t B f g) (hw : 0 < w) (h1 : Reach s f) (h2 : Reach t g) (h3 : Reach s (f + w)) (h4 : Reach t (g + w)) (h5 : f + w ≤ s.length) (h6 : g + w ≤ t.length) : EdgeB s t (B.keep (w : Int)) (f + w) (g + w) := by
  have ef : fromA (atomsOf B.close.l) = f := by rw [close_atoms, Bld.atoms, gapA, fromA_append, fromA_append, fromA_p, fromA_d, ← h.f]; simp only; omega
  have et : toA (atomsOf B.close.l) = g := by rw [close_atoms, Bld.atoms, gapA, toA_append, toA_append, toA_p, toA_d, ← h.t]; simp only; omega
  unfold Bld.keep
  rw [if_neg (by omega)]
  have hc := close_ok B hok
  have ha := (addKeep_atoms B.close.l (w : Int) (by omega) hc).1
  rw [Int.toNat_natCast] at ha
  refine ⟨edges_add (edges_close h.ok) hc (by rw [ef]; exact h1) (by rw [et]; exact h2) (by rw [ef]; exact h3) (by rw [et]; exact h4) (by omega) (by omega), ?_, ?_⟩
  · simp only [ha, fromA_append, fromA_k, ef, List.length_nil, Nat.add_zero]
  · simp only [ha, toA_append, toA_k, et, List.length_nil, Nat.add_zero]
structure WInv (s t : List UInt8) (G : List Int) (x : Wh) (i : Nat) : Prop where
  f : x.f ≤ i
  tl : x.t ≤ t.length
  nx : ∀ j, i ≤ j → 0 ≤ gAt G j → (x.t : Int) ≤ gAt G j
  frm : fromA x.L = x.f
  to : toA x.L = x.t
  app : ∀ M, applyA s (x.L ++ M) = (applyA (s.drop x.f) M).map (t.take x.t ++ ·)
  edge : EdgeB s t (Bld.start.run x.L) x.f x.t
theorem wh_put {s t : List UInt8} {G : List Int} (W : Wfit s t G) {x : Wh} {i : Nat} (h : WInv s t G x i) (hr : Reach s i) (hi : i < s.length) (hk : keptB t G (readP s i) = true) : WInv s t G (x.put s t i (gAt G i).toNat (readP s i).w) (i + (readP s i).w) := by
  have hw := readP_w hi
  have hst := hr.step hi
  obtain ⟨k1, k2, k3, k4⟩ := (kept_iff (fun h => by have := W.lt _ h; omega)).1 hk
  rw [readP_at] at k1 k2 k3 k4
  have hlt := W.lt i k1
  have hnx := h.nx i (Nat.le_refl _) k1
  have hf := h.f
  have hby : ∀ q, q < (readP s i).w → s[i + q]? = t[(gAt G i).toNat + q]? := by
    intro q hq
    have e := k2 q hq
    rw [W.byte (i + q) (by omega), e]
    congr 1; omega
  have hri := W.rise
  generalize hb : (gAt G i).toNat = b at *
  have hbl : b < t.length := by omega
  have hst2 := k3.step hbl
  rw [k4] at hst2
  have hw2 := readP_w hbl
  rw [k4] at hw2
  generalize (readP s i).w = w at *
  have eW : (s.drop i).take w = (t.drop b).take w := by
    apply List.ext_getElem?
    intro q
    rw [List.getElem?_take, List.getElem?_take, List.getElem?_drop, List.getElem?_drop]
    split
    · rename_i hq; exact hby q hq
    · rfl
  refine ⟨Nat.le_refl _, by simp only [Wh.put]; omega, ?_, ?_, ?_, ?_, ?_⟩
  · intro j hj h0
    have e := k2 (w - 1) (by omega)
    have := hri (i + (w - 1)) j (by omega) (by omega) h0
    simp only [Wh.put]; omega
  · simp only [Wh.put, fromA_append, fromA_p, fromA_d, fromA_k, h.frm, List.length_drop, List.length_take]; omega
  · simp only [Wh.put, toA_append, toA_p, toA_d, toA_k, h.to, List.length_drop, List.length_take]; omega
  · intro M
    simp only [Wh.put, List.append_assoc]
    rw [h.app, applyA_ps, applyA_ds _ _ _ (by simp only [List.length_drop, List.length_take]; omega), if_pos, applyA_ks _ _ _ (by simp only [List.length_drop, List.length_take]; omega)]
    · simp only [Option.map_map, List.drop_drop, List.length_drop, List.length_take]
      rw [show x.f + (min i s.length - x.f) = i by omega]
      congr 1
      funext u
      simp only [Function.comp]
      rw [eW, ← List.append_assoc, ← List.append_assoc]
      congr 1
      have e1 : t.take x.t ++ (t.take b).drop x.t = t.take b := by
        conv => rhs; rw [← List.take_append_drop x.t (t.take b), List.take_take, Nat.min_eq_left (by omega)]
      rw [e1, ← List.take_add]
    · simp only [List.length_drop, List.length_take]
      rw [List.drop_take]
      exact congrArg (fun n => List.take n (List.drop x.f s)) (by omega)
  · simp only [Wh.put]
    rw [run_append, run_append, run_append, run_p, run_d, run_k]
    refine edge_keep (run_ok _) ⟨h.edge.ok, ?_, ?_⟩ (by omega) hr k3 hst hst2 (by omega) (by omega)
    · have := h.edge.f
      simp only [List.length_append, List.length_drop, List.length_take]; omega
    · have := h.edge.t
      simp only [List.length_append, List.length_drop, List.length_take]; omega
theorem wh_pieces {s t : List UInt8} {G : List Int} (W : Wfit s t G) : ∀ n, n ≤ (pieces s).length → Reach s (posN s n) ∧ posN s n ≤ s.length ∧ WInv s t G (whTo s t G (posN s n)) (posN s n)
  | 0, _ => by
    have e : posN s 0 = 0 := by
      unfold posN
      split
      · rename_i h
        have h0 : 0 < s.length := by
          rcases Nat.eq_zero_or_pos s.length with g | g
          · unfold pieces at h; rw [from_nil (by omega)] at h; simp at h
          · exact g
        have : (pieces s)[0] = readP s 0 := by
          have e : pieces s = readP s 0 :: from_ s (0 + (readP s 0).w) := from_cons h0
          simp only [e, List.getElem_cons_zero]
        rw [this, readP_at]
      · rename_i h
        rcases Nat.eq_zero_or_pos s.length with g | g
        · exact g
        · unfold pieces at h; rw [from_cons g] at h; simp at h
    rw [e, wh_zero]
    exact ⟨Reach.zero s, Nat.zero_le _, Nat.le_refl _, Nat.zero_le _, fun j _ h => by simpa using h, rfl, rfl, fun M => by simp, ⟨trivial, rfl, rfl⟩⟩
  | n + 1, hn => by
    obtain ⟨h1, h2, h3⟩ := wh_pieces W n (by omega)
    obtain ⟨g1, g2⟩ := posN_next (by omega : n < (pieces s).length)
    obtain ⟨r1, r2, r3⟩ := reach_of_mem g2
    have hat := posN_at (by omega : n < (pieces s).length)
    have e : posN s (n + 1) = posN s n + (readP s (posN s n)).w := by rw [hat, ← r3, g1]
    rw [← hat] at r2
    rw [e]
    have hw := readP_w r2
    refine ⟨h1.step r2, by omega, ?_⟩
    rw [wh_edge h1 r2]
    unfold whStep
    split
    · rename_i hk
      rw [readP_at]
      exact wh_put W h3 h1 r2 hk
    · exact ⟨by have := h3.f; omega, h3.tl, fun j hj => h3.nx j (by omega), h3.frm, h3.to, h3.app, h3.edge⟩
theorem posN_reach {s : List UInt8} {k : Nat} (h : Reach s k) (hk : k ≤ s.length) : ∃ n, n ≤ (pieces s).length ∧ posN s n = k := by
  obtain ⟨pre, h1⟩ := h
  refine ⟨pre.length, by rw [h1]; simp, ?_⟩
  rcases Nat.lt_or_eq_of_le hk with g | g
  · rw [from_cons g] at h1
    have hl : pre.length < (pieces s).length := by rw [h1]; simp
    rw [posN_at hl]
    simp only [h1, List.getElem_append_right (Nat.le_refl _), Nat.sub_self, List.getElem_cons_zero, readP_at]
  · rw [from_nil (by omega), List.append_nil] at h1
    rw [← h1, posN_end, g]
theorem wh_inv {s t : List UInt8} {G : List Int} (W : Wfit s t G) {i : Nat} (hr : Reach s i) (hi : i ≤ s.length) : WInv s t G (whTo s t G i) i := by
  obtain ⟨n, h1, rfl⟩ := posN_reach hr hi
  exact (wh_pieces W n h1).2.2
/-- the change that keeps whole pieces alone -/
def wholeA (s t : List UInt8) (G : List Int) : List Atm := (whTo s t G s.length).L ++ ((t.drop (whTo s t G s.length).t).map .p ++ (s.drop (whTo s t G s.length).f).map .d)
theorem whole_facts {s t : List UInt8} {G : List Int} (W : Wfit s t G) : fromA (wholeA s t G) = s.length ∧ toA (wholeA s t G) = t.length ∧ applyA s (wholeA s t G) = some t ∧ EdgesOk s t 0 0 (listOf (wholeA s t G)) := by
  have h := wh_inv W (i := s.length) ⟨pieces s, by rw [from_nil (by omega), List.append_nil]⟩ (Nat.le_refl _)
  have h1 := h.f
  have h2 := h.tl
  refine ⟨?_, ?_, ?_, ?_⟩
  · simp only [wholeA, fromA_append, fromA_p, fromA_d, h.frm, List.length_drop]; omega
  · simp only [wholeA, toA_append, toA_p, toA_d, h.to, List.length_drop]; omega
  · have := applyA_ds (s.drop (whTo s t G s.length).f) (s.drop (whTo s t G s.length).f) [] (Nat.le_refl _)
    rw [List.append_nil] at this
    rw [wholeA, h.app, applyA_ps, this, if_pos (List.take_length ..), applyA_nil]
    simp
  · unfold listOf
    refine edges_close ?_
    rw [wholeA, run_append, run_append, run_p, run_d]
    exact h.edge.ok
end Go.Eng

/-
  Plain facts on changes: the pieces of a kept row, as the program finds them. No condition.
-/
namespace Go.Eng
open Go
/-- a kept row of a change in the one form: what a piece there must be like -/
theorem row_kept {s t : List UInt8} {pre post : List Stp} {x : Stp} (W : Wfit s t (goesA 0 (atomsOf (pre ++ x :: post)))) (hn : noKK (pre ++ x :: post)) (hok : ∀ y ∈ pre ++ x :: post, stpOk y) (hx : 0 < x.k) {q : Nat} (hq : q < x.k.toNat)
    (hi : fromA (atomsOf pre) + q < s.length) (ht : toA (atomsOf pre) + q < t.length) :
    gAt (goesA 0 (atomsOf (pre ++ x :: post))) (fromA (atomsOf pre) + q) = ((toA (atomsOf pre) + q : Nat) : Int) ∧
    keptB t (goesA 0 (atomsOf (pre ++ x :: post))) (readP s (fromA (atomsOf pre) + q)) = (edgeB t (toA (atomsOf pre) + q) && decide ((readP s (fromA (atomsOf pre) + q)).w = (readP t (toA (atomsOf pre) + q)).w) && decide ((readP s (fromA (atomsOf pre) + q)).b = (readP t (toA (atomsOf pre) + q)).b) && decide (q + (readP s (fromA (atomsOf pre) + q)).w ≤ x.k.toNat)) := by
  have hrow : ∀ u, u < x.k.toNat → gAt (goesA 0 (atomsOf (pre ++ x :: post))) (fromA (atomsOf pre) + u) = ((toA (atomsOf pre) + u : Nat) : Int) := fun u hu => goes_kept (post := post) hx (hok x (by simp)) hu
  have hnext := goes_next hx hn hok
  have h0 := hrow q hq
  refine ⟨h0, ?_⟩
  generalize goesA 0 (atomsOf (pre ++ x :: post)) = G at *
  generalize fromA (atomsOf pre) = a at *
  generalize toA (atomsOf pre) = b at *
  have hle : 0 ≤ gAt G (readP s (a + q)).at_ → gAt G (readP s (a + q)).at_ ≤ t.length := fun h => by have := W.lt _ h; omega
  have hw := readP_w hi
  have hk := kept_iff (t := t) (G := G) (p := readP s (a + q)) hle
  rw [readP_at, h0, Int.toNat_natCast] at hk
  rw [Bool.eq_iff_iff, hk, Bool.and_eq_true, Bool.and_eq_true, Bool.and_eq_true, decide_eq_true_eq, decide_eq_true_eq, decide_eq_true_eq, edge_iff (by omega)]
  constructor
  · rintro ⟨_, k2, k3, k4⟩
    have hqw : q + (readP s (a + q)).w ≤ x.k.toNat := by
      rcases Nat.lt_or_ge x.k.toNat (q + (readP s (a + q)).w) with h | h
      · exfalso
        have e := k2 (x.k.toNat - q) (by omega)
        rw [show a + q + (x.k.toNat - q) = a + x.k.toNat by omega] at e
        exact hnext (by omega) (by omega)
      · exact h
    refine ⟨⟨⟨k3, k4.symm⟩, ?_⟩, hqw⟩
    refine broken_same hi ht k4.symm ?_
    apply List.ext_getElem?
    intro u
    rw [List.getElem?_take, List.getElem?_take, List.getElem?_drop, List.getElem?_drop]
    split
    · have e := k2 u (by omega)
      rw [W.byte (a + q + u) (by omega), e]
      congr 1
    · rfl
  · rintro ⟨⟨⟨k3, k4⟩, _⟩, k6⟩
    refine ⟨by omega, fun u hu => ?_, k3, k4.symm⟩
    rw [Nat.add_assoc, hrow (q + u) (by omega)]; omega
/-- a row that is not kept: nothing there is -/
theorem row_dropped {s t : List UInt8} {pre post : List Stp} {x : Stp} (hok : ∀ y ∈ pre ++ x :: post, stpOk y) :
    whTo s t (goesA 0 (atomsOf (pre ++ x :: post))) (fromA (atomsOf pre) + x.k.toNat + x.d.length) = whTo s t (goesA 0 (atomsOf (pre ++ x :: post))) (fromA (atomsOf pre) + x.k.toNat) := by
  refine wh_skip (by omega) fun p hp h1 h2 => ?_
  rcases hok x (by simp) with ⟨a, b, c⟩ | ⟨a, b, c⟩ | ⟨a, b, c⟩
  · rw [b] at h2; simp at h2; omega
  · rw [a] at h1 h2
    have := goes_drop (pre := pre) (post := post) (x := x) a (q := p.at_ - fromA (atomsOf pre)) (by simp at h1 h2; omega)
    rw [show fromA (atomsOf pre) + (p.at_ - fromA (atomsOf pre)) = p.at_ by simp at h1; omega] at this
    unfold keptB
    rw [this]; rfl
  · rw [b] at h2; simp at h2; omega
theorem goes_pos (g : Nat) (x : Pos) : goesA g x.atoms = [if x.2.1 then -1 else ((g + x.1.length : Nat) : Int)] ∧ toA x.atoms = x.1.length + (if x.2.1 then 0 else 1) := by
  unfold Pos.atoms
  rw [goes_append, goes_ps, toA_append, toA_p]
  split
  · simp [goesA, toA]
  · simp [goesA, toA]
/-- where the bytes have gone, place by place -/
def goesTo (ps : List Pos) (p : Nat) : List Int := goesA 0 (sdA (ps.take p) [])
def goneTo (ps : List Pos) (p : Nat) : Nat := toA (sdA (ps.take p) [])
theorem goes_to {ps : List Pos} {p : Nat} (h : p < ps.length) : goesTo ps (p + 1) = goesTo ps p ++ [if (ps[p]).2.1 then -1 else ((goneTo ps p + (ps[p]).1.length : Nat) : Int)] ∧ goneTo ps (p + 1) = goneTo ps p + (ps[p]).1.length + (if (ps[p]).2.1 then 0 else 1) := by
  unfold goesTo goneTo
  have e : sdA (ps.take (p + 1)) [] = sdA (ps.take p) [] ++ (ps[p]).atoms := by
    unfold sdA
    rw [List.take_succ_eq_append_getElem h, List.flatMap_append]
    simp only [List.map_nil, List.append_nil, List.flatMap_cons, List.flatMap_nil]
  rw [e, goes_append, toA_append]
  obtain ⟨h1, h2⟩ := goes_pos (0 + toA (sdA (ps.take p) [])) ps[p]
  rw [h1, h2, Nat.zero_add]
  exact ⟨rfl, by omega⟩
theorem goes_all (ps : List Pos) (last : List UInt8) : goesTo ps ps.length = goesA 0 (sdA ps last) := by
  unfold goesTo
  rw [List.take_length]
  have e : sdA ps last = sdA ps [] ++ last.map .p := by simp [sdA]
  rw [e, goes_append, goes_ps, List.append_nil]
theorem goesTo_len {ps : List Pos} {p : Nat} (h : p ≤ ps.length) : (goesTo ps p).length = p := by
  unfold goesTo
  rw [goes_len, sd_from, List.length_take]; omega
theorem goneTo_le (ps : List Pos) (last : List UInt8) (p : Nat) : goneTo ps p ≤ toA (sdA ps last) := by
  have e : sdA ps last = sdA (ps.take p) [] ++ sdA (ps.drop p) last := by
    unfold sdA
    rw [List.map_nil, List.append_nil, ← List.append_assoc, ← List.flatMap_append, List.take_append_drop]
  rw [e, toA_append]; unfold goneTo; omega
/-- what the program finds at a place of a kept row -/
def rightB (s t : List UInt8) (i k e : Nat) : Bool := (edgeB s i && edgeB t k) && decide ((readP s i).w = (readP t k).w) && decide ((readP s i).b = (readP t k).b) && decide (i + (readP s i).w ≤ e)
theorem row_next {s t : List UInt8} {pre post : List Stp} {x : Stp} (W : Wfit s t (goesA 0 (atomsOf (pre ++ x :: post)))) (hn : noKK (pre ++ x :: post)) (hok : ∀ y ∈ pre ++ x :: post, stpOk y) {i : Nat} (h1 : fromA (atomsOf pre) ≤ i) (h2 : i < fromA (atomsOf pre) + x.k.toNat)
    (hov : ∀ p ∈ pieces s, fromA (atomsOf pre) + x.k.toNat ≤ p.at_ → p.at_ < i → False) :
    i < s.length ∧ toA (atomsOf pre) + (i - fromA (atomsOf pre)) < t.length ∧
    (rightB s t i (toA (atomsOf pre) + (i - fromA (atomsOf pre))) (fromA (atomsOf pre) + x.k.toNat) = true →
      whTo s t (goesA 0 (atomsOf (pre ++ x :: post))) (i + (readP s i).w) = (whTo s t (goesA 0 (atomsOf (pre ++ x :: post))) i).put s t i (toA (atomsOf pre) + (i - fromA (atomsOf pre))) (readP s i).w ∧
      WInv s t (goesA 0 (atomsOf (pre ++ x :: post))) (whTo s t (goesA 0 (atomsOf (pre ++ x :: post))) i) i ∧ (whTo s t (goesA 0 (atomsOf (pre ++ x :: post))) i).t ≤ toA (atomsOf pre) + (i - fromA (atomsOf pre))) ∧
    (rightB s t i (toA (atomsOf pre) + (i - fromA (atomsOf pre))) (fromA (atomsOf pre) + x.k.toNat) = false → whTo s t (goesA 0 (atomsOf (pre ++ x :: post))) (i + (readP s i).w) = whTo s t (goesA 0 (atomsOf (pre ++ x :: post))) i) ∧
    (∀ p ∈ pieces s, fromA (atomsOf pre) + x.k.toNat ≤ p.at_ → p.at_ < i + (readP s i).w → False) := by
  have hx : 0 < x.k := by omega
  have hg := goes_kept (pre := pre) (post := post) hx (hok x (by simp)) (q := i - fromA (atomsOf pre)) (by omega)
  rw [show fromA (atomsOf pre) + (i - fromA (atomsOf pre)) = i by omega] at hg
  have hg0 : 0 ≤ gAt (goesA 0 (atomsOf (pre ++ x :: post))) i := by omega
  obtain ⟨hi, _⟩ := gAt_some hg0
  rw [W.len] at hi
  have ht := W.lt i hg0
  have hkl : toA (atomsOf pre) + (i - fromA (atomsOf pre)) < t.length := by omega
  have hrk := (row_kept W hn hok hx (q := i - fromA (atomsOf pre)) (by omega) (by omega) hkl).2
  rw [show fromA (atomsOf pre) + (i - fromA (atomsOf pre)) = i by omega] at hrk
  have hw := readP_w hi
  refine ⟨hi, hkl, ?_, ?_, ?_⟩
  · intro hR
    unfold rightB at hR
    have he : edgeB s i = true := by
      cases h : edgeB s i with
      | true => rfl
      | false => rw [h] at hR; cases hR
    have hr := (edge_iff (by omega)).1 he
    have hinv := wh_inv W hr (by omega)
    have hk : keptB t (goesA 0 (atomsOf (pre ++ x :: post))) (readP s i) = true := by
      rw [hrk]
      rw [he, Bool.true_and] at hR
      simp only [Bool.and_eq_true, decide_eq_true_eq] at hR ⊢
      exact ⟨hR.1, by omega⟩
    refine ⟨?_, hinv, ?_⟩
    · rw [wh_edge hr hi, whStep, if_pos hk, readP_at, hg, Int.toNat_natCast]
    · have := hinv.nx i (Nat.le_refl _) hg0; omega
  · intro hR
    cases he : edgeB s i with
    | true =>
      have hr := (edge_iff (by omega)).1 he
      rw [wh_edge hr hi, whStep, if_neg]
      rw [hrk]
      intro hk
      unfold rightB at hR
      rw [he, Bool.true_and] at hR
      rw [Bool.eq_false_iff] at hR
      apply hR
      simp only [Bool.and_eq_true, decide_eq_true_eq] at hk ⊢
      exact ⟨hk.1, by omega⟩
    | false =>
      have hnr : ¬ Reach s i := fun h => by rw [(edge_iff (by omega)).2 h] at he; cases he
      rw [off_width hi hnr]
      refine wh_skip (by omega) fun p hp g1 g2 => ?_
      have : p.at_ = i := by omega
      exact absurd (this ▸ (reach_of_mem hp).1) hnr
  · intro p hp g1 g2
    by_cases hr : Reach s i
    · exact not_reach_within hi hr (by omega) g2 (reach_of_mem hp).1
    · rw [off_width hi hr] at g2
      omega
theorem row_end {s t : List UInt8} {pre post : List Stp} {x : Stp} (hok : ∀ y ∈ pre ++ x :: post, stpOk y) {i : Nat} (h1 : fromA (atomsOf pre) + x.k.toNat ≤ i)
    (hov : ∀ p ∈ pieces s, fromA (atomsOf pre) + x.k.toNat ≤ p.at_ → p.at_ < i → False) :
    whTo s t (goesA 0 (atomsOf (pre ++ x :: post))) (fromA (atomsOf (pre ++ [x]))) = whTo s t (goesA 0 (atomsOf (pre ++ x :: post))) i := by
  have e : fromA (atomsOf (pre ++ [x])) = fromA (atomsOf pre) + x.k.toNat + x.d.length := by rw [atoms_append, atoms_one, fromA_append, from_step, Nat.add_assoc]
  rw [e, row_dropped hok]
  exact (wh_skip h1 fun p hp g1 g2 => (hov p hp g1 g2).elim).symm
theorem wh_len {s t : List UInt8} {G : List Int} {x : Wh} {i : Nat} (h : WInv s t G x i) : BFit (4 * (i + t.length)) (Bld.start.run x.L) := by
  refine (BFit.runs _).mono ?_
  have := atoms_le x.L
  have := h.f
  have := h.tl
  have := h.frm
  have := h.to
  omega
theorem put_run (s t : List UInt8) (x : Wh) (a b w : Nat) : Bld.start.run (x.put s t a b w).L = (⟨(Bld.start.run x.L).l, (Bld.start.run x.L).p ++ (t.take b).drop x.t, (Bld.start.run x.L).d ++ (s.take a).drop x.f⟩ : Bld).keep (w : Int) := by
  simp only [Wh.put]
  rw [run_append, run_append, run_append, run_p, run_d, run_k]
theorem whole_run (s t : List UInt8) (G : List Int) : listOf (wholeA s t G) = (⟨(Bld.start.run (whTo s t G s.length).L).l, (Bld.start.run (whTo s t G s.length).L).p ++ t.drop (whTo s t G s.length).t, (Bld.start.run (whTo s t G s.length).L).d ++ s.drop (whTo s t G s.length).f⟩ : Bld).close.l := by
  unfold listOf wholeA
  rw [run_append, run_append, run_p, run_d]
end Go.Eng

/-
  Plain facts on changes: whole pieces alone, at any place; the pieces of the text that is made. No condition.
-/
namespace Go.Eng
open Go
theorem reach_end (l : List UInt8) : Reach l l.length := ⟨pieces l, by rw [from_nil (by omega), List.append_nil]⟩
theorem wh_all {s t : List UInt8} {G : List Int} (W : Wfit s t G) : ∀ (d i : Nat), s.length - i ≤ d →
    (whTo s t G i).f ≤ s.length ∧ (whTo s t G i).t ≤ t.length ∧ BFit (4 * (s.length + t.length)) (Bld.start.run (whTo s t G i).L) := by
  have fin : ∀ i, Reach s i → i ≤ s.length → (whTo s t G i).f ≤ s.length ∧ (whTo s t G i).t ≤ t.length ∧ BFit (4 * (s.length + t.length)) (Bld.start.run (whTo s t G i).L) := by
    intro i hr hi
    have h := wh_inv W hr hi
    exact ⟨by have := h.f; omega, h.tl, (wh_len h).mono (by omega)⟩
  intro d
  induction d with
  | zero =>
    intro i hi
    rw [show whTo s t G i = whTo s t G s.length from wh_skip (by omega) fun p hp h1 h2 => by have := reach_of_mem hp; omega]
    exact fin _ (reach_end s) (Nat.le_refl _)
  | succ d ih =>
    intro i hi
    by_cases h : Reach s i ∧ i ≤ s.length
    · exact fin i h.1 h.2
    · by_cases h2 : i ≤ s.length
      · rw [← wh_skip (s := s) (t := t) (G := G) (i := i) (j := i + 1) (by omega) fun p hp h3 h4 => ?_]
        · exact ih (i + 1) (by omega)
        · exfalso
          have e : p.at_ = i := by omega
          exact h ⟨e ▸ (reach_of_mem hp).1, h2⟩
      · exact ih i (by omega)
theorem posN_zero (s : List UInt8) : posN s 0 = 0 := by
  unfold posN
  split
  · rename_i h
    have h0 : 0 < s.length := by
      rcases Nat.eq_zero_or_pos s.length with g | g
      · unfold pieces at h; rw [from_nil (by omega)] at h; simp at h
      · exact g
    have : (pieces s)[0] = readP s 0 := by
      have e : pieces s = readP s 0 :: from_ s (0 + (readP s 0).w) := from_cons h0
      simp only [e, List.getElem_cons_zero]
    rw [this, readP_at]
  · rename_i h
    rcases Nat.eq_zero_or_pos s.length with g | g
    · exact g
    · unfold pieces at h; rw [from_cons g] at h; simp at h
theorem posN_lt {l : List UInt8} {i : Nat} : ∀ {j : Nat}, i < j → j ≤ (pieces l).length → posN l i < posN l j
  | 0, h, _ => by omega
  | j + 1, h, hj => by
    obtain ⟨g1, g2⟩ := posN_next (show j < (pieces l).length by omega)
    have hw := mem_w g2
    have hat := posN_at (show j < (pieces l).length by omega)
    rcases Nat.lt_or_eq_of_le (Nat.le_of_lt_succ h) with h1 | h1
    · have := posN_lt (l := l) (i := i) (j := j) h1 (by omega); omega
    · subst h1; omega
/-- a piece of the text that is made, found by going on -/
theorem piece_found {t : List UInt8} {g j w : Nat} (hg : g < t.length) (h1 : ∀ u (h : u < (pieces t).length), u < j → (pieces t)[u].at_ < g) (h2 : ∀ h : j < (pieces t).length, g ≤ (pieces t)[j].at_) :
    (edgeB t g && decide ((readP t g).w = w)) = true ↔ ∃ h : j < (pieces t).length, (pieces t)[j].at_ = g ∧ (pieces t)[j].w = w := by
  rw [Bool.and_eq_true, decide_eq_true_eq, edge_iff (by omega)]
  constructor
  · rintro ⟨hr, hw⟩
    have hm := reach_mem hr hg
    obtain ⟨u, hu, e⟩ := List.getElem_of_mem hm
    have eat : (pieces t)[u].at_ = g := by rw [e, readP_at]
    have hju : j ≤ u := by
      rcases Nat.lt_or_ge u j with h | h
      · have := h1 u hu h; omega
      · exact h
    have hj : j < (pieces t).length := by omega
    have := h2 hj
    have hjj : j = u := by
      rcases Nat.lt_or_eq_of_le hju with h | h
      · have h3 := posN_lt h (Nat.le_of_lt hu)
        rw [posN_at hj, posN_at hu] at h3
        omega
      · exact h
    subst hjj
    exact ⟨hj, eat, by rw [e]; exact hw⟩
  · rintro ⟨hj, e1, e2⟩
    have hm := List.getElem_mem hj
    obtain ⟨r1, r2, r3⟩ := reach_of_mem hm
    rw [e1] at r1 r3
    exact ⟨r1, by rw [← r3]; exact e2⟩
theorem piece_found2 {t : List UInt8} {g j w : Nat} (hg : g < t.length) (h1 : ∀ u (h : u < (pieces t).length), u < j → (pieces t)[u].at_ < g) (h2 : ∀ Q, (pieces t)[j]? = some Q → g ≤ Q.at_) :
    (edgeB t g && decide ((readP t g).w = w)) = true ↔ ∃ Q, (pieces t)[j]? = some Q ∧ Q.at_ = g ∧ Q.w = w := by
  rw [piece_found hg h1 (fun h => h2 _ (List.getElem?_eq_getElem h))]
  constructor
  · rintro ⟨h, a, b⟩; exact ⟨_, List.getElem?_eq_getElem h, a, b⟩
  · rintro ⟨Q, h, a, b⟩
    obtain ⟨h3, h4⟩ := List.getElem?_eq_some_iff.1 h
    subst h4
    exact ⟨h3, a, b⟩
end Go.Eng

/-
  The walk of the program's Whole. No condition.
-/
namespace Go.Eng
open Go
/-- what Whole hands back -/
def wholeP (s : List UInt8) (l : List Stp) : Int ⊕ List Stp := match sizesOf l with
  | none => .inl 2
  | some (f, _) => if f ≠ s.length then .inl 5 else match applyA s (atomsOf l) with
    | none => .inl 270
    | some t => .inr (listOf (wholeA s t (goesA 0 (atomsOf (plainOf l)))))
theorem whole_cases (s : List UInt8) (l : List Stp) : (∃ e : Int, e ≠ 0 ∧ applyV s l = .tuple #[str [], .int .i64 e] ∧ wholeP s l = .inl e) ∨ (∃ t tt, sizesOf l = some ((s.length : Int), tt) ∧ applyA s (atomsOf l) = some t ∧ applyV s l = okV t ∧ wholeP s l = .inr (listOf (wholeA s t (goesA 0 (atomsOf (plainOf l)))))) := by
  unfold applyV wholeP
  cases hs : sizesOf l with
  | none => exact .inl ⟨2, by decide, rfl, rfl⟩
  | some ft =>
    obtain ⟨f, tt⟩ := ft
    simp only
    by_cases hf : f = s.length
    · subst hf
      simp only [ne_eq, not_true, if_false]
      cases ha : applyA s (atomsOf l) with
      | none => exact .inl ⟨270, by decide, rfl, rfl⟩
      | some t => exact .inr ⟨t, tt, rfl, rfl, rfl, rfl⟩
    · simp only [ne_eq, hf, not_false_eq_true, if_true]
      exact .inl ⟨5, by decide, rfl, rfl⟩
theorem edges_get {s : List UInt8} {i : Nat} (h : i ≤ s.length) : ((edgesOf s).map oV)[i]? = some [.bool (edgeB s i)] := by
  rw [List.getElem?_map, edgesOf, List.getElem?_map, List.getElem?_range (by omega)]; rfl
theorem edges_len (s : List UInt8) : (edgesOf s).length = s.length + 1 := by simp [edgesOf]
/-- a kept row's place, asked one thing after the other -/
theorem right_parts (s t : List UInt8) (i k e : Nat) : (edgeB s i = false ∧ rightB s t i k e = false) ∨ (edgeB s i = true ∧ edgeB t k = false ∧ rightB s t i k e = false) ∨ (edgeB s i = true ∧ edgeB t k = true ∧ (readP s i).w ≠ (readP t k).w ∧ rightB s t i k e = false) ∨
    (edgeB s i = true ∧ edgeB t k = true ∧ (readP s i).w = (readP t k).w ∧ (readP s i).b ≠ (readP t k).b ∧ rightB s t i k e = false) ∨ (edgeB s i = true ∧ edgeB t k = true ∧ (readP s i).w = (readP t k).w ∧ (readP s i).b = (readP t k).b ∧ rightB s t i k e = decide (i + (readP s i).w ≤ e)) := by
  unfold rightB
  cases edgeB s i with
  | false => exact .inl ⟨rfl, rfl⟩
  | true =>
    cases edgeB t k with
    | false => exact .inr (.inl ⟨rfl, rfl, rfl⟩)
    | true =>
      by_cases h1 : (readP s i).w = (readP t k).w
      · by_cases h2 : (readP s i).b = (readP t k).b
        · exact .inr (.inr (.inr (.inr ⟨rfl, rfl, h1, h2, by simp [h1, h2]⟩)))
        · exact .inr (.inr (.inr (.inl ⟨rfl, rfl, h1, h2, by simp [h2]⟩)))
      · exact .inr (.inr (.inl ⟨rfl, rfl, h1, by simp [h1]⟩))
end Go.Eng
namespace Go.Proofs.Ytelgegefmjlimaa
open Go Go.Eng
set_option maxRecDepth 100000
set_option maxHeartbeats 4000000
set_option linter.all false
attribute [local irreducible] WL WC WQ QFun QLoop Does Q1 QRound QAssign Go.Addr.add
attribute [local irreducible] readP pieces dl from_ edgesTo edgesOf edgeB applyV sizesOf plainOf listOf wholeA whTo rightB goesA
theorem whole_any {a : Option Addr} {cap : Nat} {l : List Stp} {s : List UInt8} (hf : Fit l) (hsl : s.length ≤ 1000000) (w0 : World) (m : Mem) (H : SHeap) (hr : RowR w0 m H 3 a (l.map Stp.cs)) :
    Does Try.prog 62 #[str s, .slice a l.length cap] w0 m H (ListP 59 (wholeP s l) .i64 m H) := by
  refine Does.of_body (args := [str s, .slice a l.length cap]) Try.func62 rfl Try.ntmps62 rfl ?_
  (try (refine st ?_; intros))
  refine w_callF Try.func22 ?_ (hs := apply_any hf (by omega) _ _ _ hr)
  rintro v m H1 ⟨rfl, rfl, rfl⟩
  rcases whole_cases s l with ⟨e, he, h1, h2⟩ | ⟨t, tt, hs, ha, h1, h2⟩
  · rw [h1, h2]
    (try (refine st ?_; intros))
    exact q_fin0 (H0 := H1) ⟨rfl, rfl, rfl⟩ (hd := zpk)
  · rw [h1, h2, okV]
    obtain ⟨hok, hal, hpl, hfr, hto, _, _, _, _⟩ := sized hs
    have htl := apply_len _ _ _ ha
    have htm : t.length ≤ 65536 := by omega
    have hsm : s.length ≤ 65536 := by omega
    have hpa := plain_apply l hok s
    rw [ha] at hpa
    obtain ⟨_, _, _, hpf, hpt, _, _, _, _⟩ := sized (plain_sizes hs)
    have W := goes_fit hpa (by omega)
    have hpo := plain_ok l
    have hn := plain_noKK l
    have hrun := whole_run s t (goesA 0 (atomsOf (plainOf l)))
    (try (refine st ?_; intros))
    refine w_callF Try.func42 ?_ (hs := plain_any hok (by omega) _ _ _ hr)
    rintro v m H ⟨rfl, c0, p0, rfl, rfl⟩
    generalize listOf (wholeA s t (goesA 0 (atomsOf (plainOf l)))) = R at *
    generalize plainOf l = P at *
    (try (refine st ?_; intros))
    refine w_callF Try.func75 ?_ (hs := bounds_any s (by omega) _ _ _)
    rintro v m H ⟨rfl, qs, rfl, rfl⟩
    (try (refine st ?_; intros))
    refine w_callF Try.func75 ?_ (hs := bounds_any t (by omega) _ _ _)
    rintro v m H ⟨rfl, qt, rfl, rfl⟩
    (refine st ?_; intros; rename_i b)
    refine WC.newRow (T := 59) (sz := 3) ?_
    refine WC.loopH [(41, .int .i64 ((0) : Int)), (40, .int .i64 (P.length : Int)), (39, .slice c0 P.length p0), (14, .int .i64 ((0) : Int)), (13, .int .i64 ((0) : Int)), (12, .int .i64 ((0) : Int)), (11, .int .i64 ((0) : Int)), (10, .pointer (some ⟨b, 0, none⟩)), (9, .slice (some ⟨qt, 0, none⟩) (t.length + 1) (t.length + 1)), (8, .slice (some ⟨qs, 0, none⟩) (s.length + 1) (s.length + 1)), (6, str t), (0, str s)] ?_ ?_ (fun j r ds m' H' => ∃ (n : Nat) (c : Option Addr) (cp : Nat) (B : Bld) (F : Nat) (T : Nat) (A : Nat) (g : Nat), j = P.length - n ∧ r = [(41, .int .i64 (n : Int)), (40, .int .i64 (P.length : Int)), (39, .slice c0 P.length p0), (14, .int .i64 (g : Int)), (13, .int .i64 (A : Int)), (12, .int .i64 (T : Int)), (11, .int .i64 (F : Int)), (10, .pointer (some ⟨b, 0, none⟩)), (9, .slice (some ⟨qt, 0, none⟩) (t.length + 1) (t.length + 1)), (8, .slice (some ⟨qs, 0, none⟩) (s.length + 1) (s.length + 1)), (6, str t), (0, str s)] ∧ ds = [] ∧ m = m' ∧ H' = .blk b (.cells [.slice c B.l.length cp, str B.p, str B.d].toArray 98 (0, 0)) :: .row c cp 59 3 (B.l.map Stp.cs) :: .row (some ⟨qt, 0, none⟩) (t.length + 1) 4 1 ((edgesOf t).map oV) :: .row (some ⟨qs, 0, none⟩) (s.length + 1) 4 1 ((edgesOf s).map oV) :: .row c0 p0 59 3 (P.map Stp.cs) :: H1 ∧ (n ≤ P.length) ∧ (A = fromA (atomsOf (P.take n))) ∧ (g = toA (atomsOf (P.take n))) ∧ (B = Bld.start.run (whTo s t (goesA 0 (atomsOf P)) A).L) ∧ (F = (whTo s t (goesA 0 (atomsOf P)) A).f ∧ T = (whTo s t (goesA 0 (atomsOf P)) A).t)) (P.length - (0)) ⟨0, none, 0, Bld.start, 0, 0, 0, 0, rfl, rfl, rfl, rfl, rfl, Nat.zero_le _, by simp [atomsOf, fromA], by simp [atomsOf, toA], by rw [wh_zero]; rfl, by rw [wh_zero]; exact ⟨rfl, rfl⟩⟩ ?_
    · (repeat (first | exact Env.Sub.nil | refine Env.Sub.cons rfl ?_))
    · exact zpk
    rintro j r ds m' H' ⟨n, c, cp, B, F, T, A, g, rfl, rfl, rfl, rfl, rfl, hnP, hA, hg, hB, hFT⟩
    have hPl : (P.map Stp.cs).length = P.length := by simp
    have hPn := steps_le P hpo
    by_cases hlt : n < P.length
    · obtain ⟨x, hx, hget, htk, hmem, hdr⟩ := at_idx (f := Stp.cs) hlt
      have hsp : P.take n ++ x :: P.drop (n + 1) = P := by rw [← hdr, List.take_append_drop]
      have hxb := stp_bounds (hpo x hmem)
      have hxm := mem_atoms hmem
      have hrow := fun (i : Nat) h1 h2 h3 => row_next (s := s) (t := t) (pre := P.take n) (post := P.drop (n + 1)) (x := x) (i := i) (by rw [hsp]; exact W) (by rw [hsp]; exact hn) (by rw [hsp]; exact hpo) h1 h2 h3
      have hend := fun (i : Nat) h1 h3 => row_end (s := s) (t := t) (pre := P.take n) (post := P.drop (n + 1)) (x := x) (i := i) (by rw [hsp]; exact hpo) h1 h3
      simp only [hsp, ← hA, ← hg] at hrow hend
      refine WC.rowSome (a := c0) (es := P.map Stp.cs) zhs (by omega) ?_
      rintro d0 rfl
      have hA1 : fromA (atomsOf (P.take (n + 1))) = A + (x.k.toNat + x.d.length) := by rw [htk, atoms_append, atoms_one, fromA_append, from_step, ← hA]
      have hg1 : toA (atomsOf (P.take (n + 1))) = g + (x.k.toNat + x.p.length) := by rw [htk, atoms_append, atoms_one, toA_append, to_step, ← hg]
      have hA2 : fromA (atomsOf (P.take (n + 1))) ≤ s.length := by
        have e : atomsOf P = atomsOf (P.take (n + 1)) ++ atomsOf (P.drop (n + 1)) := by rw [← atoms_append, List.take_append_drop]
        have := congrArg fromA e
        rw [fromA_append] at this; omega
      have hg2 : toA (atomsOf (P.take (n + 1))) ≤ t.length := by
        have e : atomsOf P = atomsOf (P.take (n + 1)) ++ atomsOf (P.drop (n + 1)) := by rw [← atoms_append, List.take_append_drop]
        have := congrArg toA e
        rw [toA_append] at this
        have := apply_len _ _ _ hpa; omega
      rw [← htk] at hend
      rw [hA1] at hA2 hend
      rw [hg1] at hg2
      have hall := fun i => wh_all (t := t) W s.length i (by omega)
      clear hdr hsp hx hxm hPl hpl hpa hpf hpt hrun h2 hs ha hok hal hfr hto htl hf hr
      generalize goesA 0 (atomsOf P) = G at *
      (refine st ?_; intros; rename_i bx)
      refine WC.loopH [(17, .int .i64 ((A) : Int)), (16, .pointer (some ⟨bx, 0, none⟩)), (41, .int .i64 (n : Int)), (40, .int .i64 (P.length : Int)), (39, .slice (some d0) P.length p0), (14, .int .i64 (g : Int)), (13, .int .i64 (A : Int)), (12, .int .i64 ((T) : Int)), (11, .int .i64 ((F) : Int)), (10, .pointer (some ⟨b, 0, none⟩)), (9, .slice (some ⟨qt, 0, none⟩) (t.length + 1) (t.length + 1)), (8, .slice (some ⟨qs, 0, none⟩) (s.length + 1) (s.length + 1)), (6, str t), (0, str s)] ?_ ?_ (fun j r ds m' H' => ∃ (i : Nat) (c : Option Addr) (cp : Nat) (B : Bld) (F : Nat) (T : Nat), j = A + x.k.toNat - i ∧ r = [(17, .int .i64 (i : Int)), (16, .pointer (some ⟨bx, 0, none⟩)), (41, .int .i64 (n : Int)), (40, .int .i64 (P.length : Int)), (39, .slice (some d0) P.length p0), (14, .int .i64 (g : Int)), (13, .int .i64 (A : Int)), (12, .int .i64 (T : Int)), (11, .int .i64 (F : Int)), (10, .pointer (some ⟨b, 0, none⟩)), (9, .slice (some ⟨qt, 0, none⟩) (t.length + 1) (t.length + 1)), (8, .slice (some ⟨qs, 0, none⟩) (s.length + 1) (s.length + 1)), (6, str t), (0, str s)] ∧ ds = [] ∧ m = m' ∧ H' = .blk bx (.cells [.int .i64 x.k, str x.d, str x.p].toArray 59 (0, 0)) :: .blk b (.cells [.slice c B.l.length cp, str B.p, str B.d].toArray 98 (0, 0)) :: .row c cp 59 3 (B.l.map Stp.cs) :: .row (some ⟨qt, 0, none⟩) (t.length + 1) 4 1 ((edgesOf t).map oV) :: .row (some ⟨qs, 0, none⟩) (s.length + 1) 4 1 ((edgesOf s).map oV) :: .row (some d0) p0 59 3 (P.map Stp.cs) :: H1 ∧ (A ≤ i) ∧ (∀ p ∈ pieces s, A + x.k.toNat ≤ p.at_ → p.at_ < i → False) ∧ (B = Bld.start.run (whTo s t G i).L) ∧ (F = (whTo s t G i).f ∧ T = (whTo s t G i).t) ∧ (i ≤ A + x.k.toNat + 3)) (A + x.k.toNat - (A)) ⟨A, c, cp, B, F, T, rfl, rfl, rfl, rfl, rfl, Nat.le_refl _, fun p _ h1 h2 => by omega, hB, hFT, by omega⟩ ?_
      · (repeat (first | exact Env.Sub.nil | refine Env.Sub.cons rfl ?_))
      · exact zpk
      rintro j r ds m' H' ⟨i, c, cp, B, F, T, rfl, rfl, rfl, rfl, rfl, hAi, hov, hB, hFT, hi3⟩
      by_cases hik : i < A + x.k.toNat
      · obtain ⟨hi, hk, r1, r2, r3⟩ := hrow i hAi hik hov
        have hik2 : (i : Int) < (A : Int) + x.k := by omega
        obtain ⟨k, hkk⟩ : ∃ k, k = g + (i - A) := ⟨_, rfl⟩
        rw [← hkk] at hk r1 r2
        have ekk : (g : Int) + (i : Int) - (A : Int) = (k : Int) := by omega
        have hes := edges_get (s := s) (i := i) (by omega)
        have het := edges_get (s := t) (i := k) (by omega)
        have hws := readP_w hi
        have hwt := readP_w hk
        have hEs : ((edgesOf s).map oV).length = s.length + 1 := by rw [List.length_map, edges_len]
        have hEt : ((edgesOf t).map oV).length = t.length + 1 := by rw [List.length_map, edges_len]
        have hR := right_parts s t i k (A + x.k.toNat)
        have has := readP_at s i
        have hat := readP_at t k
        (try (refine st ?_; intros))
        refine w_callF Try.func76 ?_ (hs := at_in s i (by omega) hi _ _ _)
        rintro v m H ⟨rfl, rfl, rfl⟩
        generalize readP s i = p at *
        rw [show p.v = .agg #[.int .i64 (p.at_ : Int), .int .i64 (p.w : Int), .int .i32 (p.r : Int), .bool p.b] from rfl]
        (refine st ?_; intros; rename_i bp)
        rw [ekk]
        (try (refine st ?_; intros))
        refine w_callF Try.func76 ?_ (hs := at_in t k (by omega) hk _ _ _)
        rintro v m H ⟨rfl, rfl, rfl⟩
        generalize readP t k = q at *
        rw [show q.v = .agg #[.int .i64 (q.at_ : Int), .int .i64 (q.w : Int), .int .i32 (q.r : Int), .bool q.b] from rfl]
        rcases hR with ⟨e1, e5⟩ | ⟨e1, e2, e5⟩ | ⟨e1, e2, e3, e5⟩ | ⟨e1, e2, e3, e4, e5⟩ | ⟨e1, e2, e3, e4, e5⟩
        · rw [e1] at hes
          (refine st ?_; intros; rename_i bq)
          refine WQ.next (A + x.k.toNat - (i + p.w)) ⟨i + p.w, c, cp, B, F, T, rfl, rfl, rfl, rfl, rfl, ?_, ?_, ?_, ?_, ?_⟩ (by omega) zsb zpk
          · omega
          · exact r3
          · rw [r2 e5]; exact hB
          · rw [r2 e5]; exact hFT
          · omega
        · rw [e1] at hes
          rw [e2] at het
          (refine st ?_; intros; rename_i bq)
          refine WQ.next (A + x.k.toNat - (i + p.w)) ⟨i + p.w, c, cp, B, F, T, rfl, rfl, rfl, rfl, rfl, ?_, ?_, ?_, ?_, ?_⟩ (by omega) zsb zpk
          · omega
          · exact r3
          · rw [r2 e5]; exact hB
          · rw [r2 e5]; exact hFT
          · omega
        · rw [e1] at hes
          rw [e2] at het
          have e3' : ¬ (p.w : Int) = (q.w : Int) := by omega
          (refine st ?_; intros; rename_i bq)
          refine WQ.next (A + x.k.toNat - (i + p.w)) ⟨i + p.w, c, cp, B, F, T, rfl, rfl, rfl, rfl, rfl, ?_, ?_, ?_, ?_, ?_⟩ (by omega) zsb zpk
          · omega
          · exact r3
          · rw [r2 e5]; exact hB
          · rw [r2 e5]; exact hFT
          · omega
        · rw [e1] at hes
          rw [e2] at het
          have e3' : (p.w : Int) = (q.w : Int) := by omega
          have e4' : (p.b == q.b) = false := by rw [beq_eq_false_iff_ne]; exact e4
          (refine st ?_; intros; rename_i bq)
          refine WQ.next (A + x.k.toNat - (i + p.w)) ⟨i + p.w, c, cp, B, F, T, rfl, rfl, rfl, rfl, rfl, ?_, ?_, ?_, ?_, ?_⟩ (by omega) zsb zpk
          · omega
          · exact r3
          · rw [r2 e5]; exact hB
          · rw [r2 e5]; exact hFT
          · omega
        · rw [e1] at hes
          rw [e2] at het
          have e3' : (p.w : Int) = (q.w : Int) := by omega
          have e4' : (p.b == q.b) = true := by rw [beq_iff_eq]; exact e4
          by_cases hle : i + p.w ≤ A + x.k.toNat
          · rw [decide_eq_true hle] at e5
            obtain ⟨k1, k2, k3⟩ := r1 e5
            have hle2 : (i : Int) + (p.w : Int) ≤ (A : Int) + x.k := by omega
            have hFi := k2.f
            have hputr := put_run s t (whTo s t G i) i k p.w
            rw [← k1, ← hB, ← hFT.1, ← hFT.2] at hputr
            have hBf : BFit (4 * (i + t.length)) B := by rw [hB]; exact wh_len k2
            obtain ⟨hF1, hT1⟩ := hFT
            rw [← hF1] at hFi
            rw [← hT1] at k3
            have hB1 := hBf.len
            have hBp := hBf.p
            have hBd := hBf.d
            have hlp : ((t.take k).drop T).length ≤ t.length := by rw [List.length_drop, List.length_take]; omega
            have hld : ((s.take i).drop F).length ≤ s.length := by rw [List.length_drop, List.length_take]; omega
            (refine st ?_; intros; rename_i bq)
            refine WC.join (fun r' ds' m' H' => r' = [(20, .int .i64 (k : Int)), (18, .pointer (some ⟨bp, 0, none⟩)), (17, .int .i64 (i : Int)), (16, .pointer (some ⟨bx, 0, none⟩)), (41, .int .i64 (n : Int)), (40, .int .i64 (P.length : Int)), (39, .slice (some d0) P.length p0), (14, .int .i64 (g : Int)), (13, .int .i64 (A : Int)), (12, .int .i64 (T : Int)), (11, .int .i64 (F : Int)), (10, .pointer (some ⟨b, 0, none⟩)), (9, .slice (some ⟨qt, 0, none⟩) (t.length + 1) (t.length + 1)), (8, .slice (some ⟨qs, 0, none⟩) (s.length + 1) (s.length + 1)), (6, str t), (0, str s)] ∧ ds' = [] ∧ m = m' ∧ H' = .blk b (.cells [.slice c B.l.length cp, str (B.p ++ (t.take k).drop T), str (B.d ++ (s.take i).drop F)].toArray 98 (0, 0)) :: .row c cp 59 3 (B.l.map Stp.cs) :: .blk bq (.cells [.int .i64 (q.at_ : Int), .int .i64 (q.w : Int), .int .i32 (q.r : Int), .bool q.b].toArray 144 (0, 0)) :: .blk bp (.cells [.int .i64 (p.at_ : Int), .int .i64 (p.w : Int), .int .i32 (p.r : Int), .bool p.b].toArray 144 (0, 0)) :: .blk bx (.cells [.int .i64 x.k, str x.d, str x.p].toArray 59 (0, 0)) :: .row (some ⟨qt, 0, none⟩) (t.length + 1) 4 1 ((edgesOf t).map oV) :: .row (some ⟨qs, 0, none⟩) (s.length + 1) 4 1 ((edgesOf s).map oV) :: .row (some d0) p0 59 3 (P.map Stp.cs) :: H1) ?_ ?_
            · clear hrow hend hall hov hes het r1 r2 r3 hputr k1 k2 hF1 hT1 e1 e2 e3 e4 e5 e3' e4' hle hle2 ekk hEs hEt hpo hn hnP hA hg hPn hlt hget htk hmem hxb hA1 hg1 hA2 hg2 hB hAi hi3 hik hik2 hkk has hat hBf h1
              refine WC.weak (r' := [(20, .int .i64 (k : Int)), (18, .pointer (some ⟨bp, 0, none⟩)), (17, .int .i64 (i : Int)), (16, .pointer (some ⟨bx, 0, none⟩)), (41, .int .i64 (n : Int)), (40, .int .i64 (P.length : Int)), (39, .slice (some d0) P.length p0), (14, .int .i64 (g : Int)), (13, .int .i64 (A : Int)), (12, .int .i64 (T : Int)), (11, .int .i64 (F : Int)), (10, .pointer (some ⟨b, 0, none⟩)), (9, .slice (some ⟨qt, 0, none⟩) (t.length + 1) (t.length + 1)), (8, .slice (some ⟨qs, 0, none⟩) (s.length + 1) (s.length + 1)), (6, str t), (0, str s)]) (H' := .blk b (.cells [.slice c B.l.length cp, str B.p, str B.d].toArray 98 (0, 0)) :: .row c cp 59 3 (B.l.map Stp.cs) :: .blk bq (.cells [.int .i64 (q.at_ : Int), .int .i64 (q.w : Int), .int .i32 (q.r : Int), .bool q.b].toArray 144 (0, 0)) :: .blk bp (.cells [.int .i64 (p.at_ : Int), .int .i64 (p.w : Int), .int .i32 (p.r : Int), .bool p.b].toArray 144 (0, 0)) :: .blk bx (.cells [.int .i64 x.k, str x.d, str x.p].toArray 59 (0, 0)) :: .row (some ⟨qt, 0, none⟩) (t.length + 1) 4 1 ((edgesOf t).map oV) :: .row (some ⟨qs, 0, none⟩) (s.length + 1) 4 1 ((edgesOf s).map oV) :: .row (some d0) p0 59 3 (P.map Stp.cs) :: H1) zsb zpk ?_
              refine WC.drawE 18 ([]) (.blk b (.cells [.slice c B.l.length cp, str B.p, str B.d].toArray 98 (0, 0)) :: .row c cp 59 3 (B.l.map Stp.cs) :: .blk bq (.cells [.int .i64 (q.at_ : Int), .int .i64 (q.w : Int), .int .i32 (q.r : Int), .bool q.b].toArray 144 (0, 0)) :: .blk bp (.cells [.int .i64 (p.at_ : Int), .int .i64 (p.w : Int), .int .i32 (p.r : Int), .bool p.b].toArray 144 (0, 0)) :: .blk bx (.cells [.int .i64 x.k, str x.d, str x.p].toArray 59 (0, 0)) :: .row (some ⟨qt, 0, none⟩) (t.length + 1) 4 1 ((edgesOf t).map oV) :: .row (some ⟨qs, 0, none⟩) (s.length + 1) 4 1 ((edgesOf s).map oV) :: .row (some d0) p0 59 3 (P.map Stp.cs) :: H1) rfl (by decide +kernel) zpk ?_
              (refine cm0 ?_)
              refine WE.act2 1 8 (by decide +kernel) rfl rfl (fun c h => by cases h) rfl rfl (fun c h => by cases h) ?_ ?_
              · (try (refine st ?_; intros))
                refine WQ.acted (B := []) (U := .blk b (.cells [.slice c B.l.length cp, str B.p, str B.d].toArray 98 (0, 0)) :: .row c cp 59 3 (B.l.map Stp.cs) :: .blk bq (.cells [.int .i64 (q.at_ : Int), .int .i64 (q.w : Int), .int .i32 (q.r : Int), .bool q.b].toArray 144 (0, 0)) :: .blk bp (.cells [.int .i64 (p.at_ : Int), .int .i64 (p.w : Int), .int .i32 (p.r : Int), .bool p.b].toArray 144 (0, 0)) :: .blk bx (.cells [.int .i64 x.k, str x.d, str x.p].toArray 59 (0, 0)) :: .row (some ⟨qt, 0, none⟩) (t.length + 1) 4 1 ((edgesOf t).map oV) :: .row (some ⟨qs, 0, none⟩) (s.length + 1) 4 1 ((edgesOf s).map oV) :: .row (some d0) p0 59 3 (P.map Stp.cs) :: H1) rfl (Mem.le.refl _) zpk ?_
                (refine cm0 ?_)
                refine WE.act1 8 (by decide +kernel) rfl rfl (fun c h => by cases h) ?_
                (try (refine st ?_; intros))
                refine WQ.acted (B := []) (U := .blk b (.cells [.slice c B.l.length cp, str B.p, str B.d].toArray 98 (0, 0)) :: .row c cp 59 3 (B.l.map Stp.cs) :: .blk bq (.cells [.int .i64 (q.at_ : Int), .int .i64 (q.w : Int), .int .i32 (q.r : Int), .bool q.b].toArray 144 (0, 0)) :: .blk bp (.cells [.int .i64 (p.at_ : Int), .int .i64 (p.w : Int), .int .i32 (p.r : Int), .bool p.b].toArray 144 (0, 0)) :: .blk bx (.cells [.int .i64 x.k, str x.d, str x.p].toArray 59 (0, 0)) :: .row (some ⟨qt, 0, none⟩) (t.length + 1) 4 1 ((edgesOf t).map oV) :: .row (some ⟨qs, 0, none⟩) (s.length + 1) 4 1 ((edgesOf s).map oV) :: .row (some d0) p0 59 3 (P.map Stp.cs) :: H1) rfl (Mem.le.refl _) zpk ?_
                (refine cm0 ?_)
                refine WE.act0 15 (by decide +kernel) rfl rfl (fun c h => by cases h) ?_
                (try (refine st ?_; intros))
                refine WQ.stored (B := []) (U := .blk b (.cells [.slice c B.l.length cp, str (B.p ++ (t.take k).drop T), str B.d].toArray 98 (0, 0)) :: .row c cp 59 3 (B.l.map Stp.cs) :: .blk bq (.cells [.int .i64 (q.at_ : Int), .int .i64 (q.w : Int), .int .i32 (q.r : Int), .bool q.b].toArray 144 (0, 0)) :: .blk bp (.cells [.int .i64 (p.at_ : Int), .int .i64 (p.w : Int), .int .i32 (p.r : Int), .bool p.b].toArray 144 (0, 0)) :: .blk bx (.cells [.int .i64 x.k, str x.d, str x.p].toArray 59 (0, 0)) :: .row (some ⟨qt, 0, none⟩) (t.length + 1) 4 1 ((edgesOf t).map oV) :: .row (some ⟨qs, 0, none⟩) (s.length + 1) 4 1 ((edgesOf s).map oV) :: .row (some d0) p0 59 3 (P.map Stp.cs) :: H1) (Mem.le.refl _) zpk ?_
                (refine cm0 ?_)
                refine WE.act0 17 (by decide +kernel) rfl rfl (fun c h => by cases h) ?_
                (try (refine st ?_; intros))
                refine WQ.stored (B := []) (U := .blk b (.cells [.slice c B.l.length cp, str (B.p ++ (t.take k).drop T), str (B.d ++ (s.take i).drop F)].toArray 98 (0, 0)) :: .row c cp 59 3 (B.l.map Stp.cs) :: .blk bq (.cells [.int .i64 (q.at_ : Int), .int .i64 (q.w : Int), .int .i32 (q.r : Int), .bool q.b].toArray 144 (0, 0)) :: .blk bp (.cells [.int .i64 (p.at_ : Int), .int .i64 (p.w : Int), .int .i32 (p.r : Int), .bool p.b].toArray 144 (0, 0)) :: .blk bx (.cells [.int .i64 x.k, str x.d, str x.p].toArray 59 (0, 0)) :: .row (some ⟨qt, 0, none⟩) (t.length + 1) 4 1 ((edgesOf t).map oV) :: .row (some ⟨qs, 0, none⟩) (s.length + 1) 4 1 ((edgesOf s).map oV) :: .row (some d0) p0 59 3 (P.map Stp.cs) :: H1) (Mem.le.refl _) zpk ?_
                refine WE.done (by decide +kernel) ?_
                (try (refine st ?_; intros))
                exact WQ.join ⟨rfl, rfl, rfl, rfl⟩ zsb zpk
              · (try (refine st ?_; intros))
                refine WQ.acted (B := []) (U := .blk b (.cells [.slice c B.l.length cp, str B.p, str B.d].toArray 98 (0, 0)) :: .row c cp 59 3 (B.l.map Stp.cs) :: .blk bq (.cells [.int .i64 (q.at_ : Int), .int .i64 (q.w : Int), .int .i32 (q.r : Int), .bool q.b].toArray 144 (0, 0)) :: .blk bp (.cells [.int .i64 (p.at_ : Int), .int .i64 (p.w : Int), .int .i32 (p.r : Int), .bool p.b].toArray 144 (0, 0)) :: .blk bx (.cells [.int .i64 x.k, str x.d, str x.p].toArray 59 (0, 0)) :: .row (some ⟨qt, 0, none⟩) (t.length + 1) 4 1 ((edgesOf t).map oV) :: .row (some ⟨qs, 0, none⟩) (s.length + 1) 4 1 ((edgesOf s).map oV) :: .row (some d0) p0 59 3 (P.map Stp.cs) :: H1) rfl (Mem.le.refl _) zpk ?_
                (refine cm0 ?_)
                refine WE.act1 1 (by decide +kernel) rfl rfl (fun c h => by cases h) ?_
                (try (refine st ?_; intros))
                refine WQ.acted (B := []) (U := .blk b (.cells [.slice c B.l.length cp, str B.p, str B.d].toArray 98 (0, 0)) :: .row c cp 59 3 (B.l.map Stp.cs) :: .blk bq (.cells [.int .i64 (q.at_ : Int), .int .i64 (q.w : Int), .int .i32 (q.r : Int), .bool q.b].toArray 144 (0, 0)) :: .blk bp (.cells [.int .i64 (p.at_ : Int), .int .i64 (p.w : Int), .int .i32 (p.r : Int), .bool p.b].toArray 144 (0, 0)) :: .blk bx (.cells [.int .i64 x.k, str x.d, str x.p].toArray 59 (0, 0)) :: .row (some ⟨qt, 0, none⟩) (t.length + 1) 4 1 ((edgesOf t).map oV) :: .row (some ⟨qs, 0, none⟩) (s.length + 1) 4 1 ((edgesOf s).map oV) :: .row (some d0) p0 59 3 (P.map Stp.cs) :: H1) rfl (Mem.le.refl _) zpk ?_
                (refine cm0 ?_)
                refine WE.act0 15 (by decide +kernel) rfl rfl (fun c h => by cases h) ?_
                (try (refine st ?_; intros))
                refine WQ.stored (B := []) (U := .blk b (.cells [.slice c B.l.length cp, str (B.p ++ (t.take k).drop T), str B.d].toArray 98 (0, 0)) :: .row c cp 59 3 (B.l.map Stp.cs) :: .blk bq (.cells [.int .i64 (q.at_ : Int), .int .i64 (q.w : Int), .int .i32 (q.r : Int), .bool q.b].toArray 144 (0, 0)) :: .blk bp (.cells [.int .i64 (p.at_ : Int), .int .i64 (p.w : Int), .int .i32 (p.r : Int), .bool p.b].toArray 144 (0, 0)) :: .blk bx (.cells [.int .i64 x.k, str x.d, str x.p].toArray 59 (0, 0)) :: .row (some ⟨qt, 0, none⟩) (t.length + 1) 4 1 ((edgesOf t).map oV) :: .row (some ⟨qs, 0, none⟩) (s.length + 1) 4 1 ((edgesOf s).map oV) :: .row (some d0) p0 59 3 (P.map Stp.cs) :: H1) (Mem.le.refl _) zpk ?_
                (refine cm0 ?_)
                refine WE.act0 17 (by decide +kernel) rfl rfl (fun c h => by cases h) ?_
                (try (refine st ?_; intros))
                refine WQ.stored (B := []) (U := .blk b (.cells [.slice c B.l.length cp, str (B.p ++ (t.take k).drop T), str (B.d ++ (s.take i).drop F)].toArray 98 (0, 0)) :: .row c cp 59 3 (B.l.map Stp.cs) :: .blk bq (.cells [.int .i64 (q.at_ : Int), .int .i64 (q.w : Int), .int .i32 (q.r : Int), .bool q.b].toArray 144 (0, 0)) :: .blk bp (.cells [.int .i64 (p.at_ : Int), .int .i64 (p.w : Int), .int .i32 (p.r : Int), .bool p.b].toArray 144 (0, 0)) :: .blk bx (.cells [.int .i64 x.k, str x.d, str x.p].toArray 59 (0, 0)) :: .row (some ⟨qt, 0, none⟩) (t.length + 1) 4 1 ((edgesOf t).map oV) :: .row (some ⟨qs, 0, none⟩) (s.length + 1) 4 1 ((edgesOf s).map oV) :: .row (some d0) p0 59 3 (P.map Stp.cs) :: H1) (Mem.le.refl _) zpk ?_
                refine WE.done (by decide +kernel) ?_
                (try (refine st ?_; intros))
                exact WQ.join ⟨rfl, rfl, rfl, rfl⟩ zsb zpk
            rintro _ _ _ _ ⟨rfl, rfl, rfl, rfl⟩
            have hBk : BFit (4 * (i + t.length) + t.length + s.length) (⟨B.l, B.p ++ (t.take k).drop T, B.d ++ (s.take i).drop F⟩ : Bld) := ⟨by simp only; omega, fun y hy => by have := hBf.k y hy; omega, by simp only [List.length_append]; omega, by simp only [List.length_append]; omega⟩
            (try (refine st ?_; intros))
            refine WL.heap (H' := .blk b (.cells [.slice c (⟨B.l, B.p ++ (t.take k).drop T, B.d ++ (s.take i).drop F⟩ : Bld).l.length cp, str (⟨B.l, B.p ++ (t.take k).drop T, B.d ++ (s.take i).drop F⟩ : Bld).p, str (⟨B.l, B.p ++ (t.take k).drop T, B.d ++ (s.take i).drop F⟩ : Bld).d].toArray 98 (0, 0)) :: .row c cp 59 3 ((⟨B.l, B.p ++ (t.take k).drop T, B.d ++ (s.take i).drop F⟩ : Bld).l.map Stp.cs) :: .blk bq (.cells [.int .i64 (q.at_ : Int), .int .i64 (q.w : Int), .int .i32 (q.r : Int), .bool q.b].toArray 144 (0, 0)) :: .blk bp (.cells [.int .i64 (p.at_ : Int), .int .i64 (p.w : Int), .int .i32 (p.r : Int), .bool p.b].toArray 144 (0, 0)) :: .blk bx (.cells [.int .i64 x.k, str x.d, str x.p].toArray 59 (0, 0)) :: .row (some ⟨qt, 0, none⟩) (t.length + 1) 4 1 ((edgesOf t).map oV) :: .row (some ⟨qs, 0, none⟩) (s.length + 1) 4 1 ((edgesOf s).map oV) :: .row (some d0) p0 59 3 (P.map Stp.cs) :: H1) zpk ?_
            refine w_callF Try.func55 ?_ (hs := keep_any ⟨B.l, B.p ++ (t.take k).drop T, B.d ++ (s.take i).drop F⟩ p.w (by omega) (hBk.mono (by omega)) _ _ _)
            rintro v m H2 ⟨rfl, rfl, c3, cp3, rfl⟩
            rw [← hputr]
            have hf2 := congrArg Wh.f k1
            have ht2 := congrArg Wh.t k1
            simp only [Wh.put] at hf2 ht2
            (try (refine st ?_; intros))
            refine WQ.next (A + x.k.toNat - (i + p.w)) ⟨i + p.w, c3, cp3, Bld.start.run (whTo s t G (i + p.w)).L, i + p.w, k + p.w, rfl, rfl, rfl, rfl, rfl, ?_, ?_, ?_, ?_, ?_⟩ (by omega) zsb zpk
            · omega
            · exact r3
            · rfl
            · exact ⟨hf2.symm, ht2.symm⟩
            · omega
          · rw [decide_eq_false hle] at e5
            have hle2 : ¬ (i : Int) + (p.w : Int) ≤ (A : Int) + x.k := by omega
            (refine st ?_; intros; rename_i bq)
            refine WQ.next (A + x.k.toNat - (i + p.w)) ⟨i + p.w, c, cp, B, F, T, rfl, rfl, rfl, rfl, rfl, ?_, ?_, ?_, ?_, ?_⟩ (by omega) zsb zpk
            · omega
            · exact r3
            · rw [r2 e5]; exact hB
            · rw [r2 e5]; exact hFT
            · omega
      · have e := hend i (by omega) hov
        have hik2 : ¬ (i : Int) < (A : Int) + x.k := by omega
        have eA : (A : Int) + (x.k + (x.d.length : Int)) = ((A + (x.k.toNat + x.d.length) : Nat) : Int) := by omega
        have eg : (g : Int) + (x.k + (x.p.length : Int)) = ((g + (x.k.toNat + x.p.length) : Nat) : Int) := by omega
        (try (refine st ?_; intros))
        rw [eA, eg]
        refine WQ.next (P.length - (n + 1)) ⟨n + 1, c, cp, B, F, T, A + (x.k.toNat + x.d.length), g + (x.k.toNat + x.p.length), rfl, rfl, rfl, rfl, rfl, ?_, ?_, ?_, ?_, ?_⟩ (by omega) zsb zpk
        · omega
        · rw [hA1]
        · rw [hg1]
        · rw [e]; exact hB
        · rw [e]; exact hFT
    · obtain rfl : n = P.length := by omega
      rw [List.take_length] at hA hg
      have eA : A = s.length := by omega
      obtain ⟨f1, f2, f3⟩ := wh_all (t := t) W s.length s.length (by omega)
      rw [eA] at hB hFT
      rw [← hB, ← hFT.1, ← hFT.2] at hrun
      rw [← hFT.1] at f1
      rw [← hFT.2] at f2
      rw [← hB] at f3
      have hBl := f3.len
      have hBp := f3.p
      have hBd := f3.d
      have hlp : (t.drop T).length ≤ t.length := by rw [List.length_drop]; omega
      have hld : (s.drop F).length ≤ s.length := by rw [List.length_drop]; omega
      clear hB hFT f3 hf hs ha h1 hok hal hfr hto hpl hpa hpf hpt W hpo hn hA hg eA hPl hPn hlt hnP hr h2
      (try (refine st ?_; intros))
      refine WC.join (fun r' ds' m' H' => r' = [(10, .pointer (some ⟨b, 0, none⟩))] ∧ ds' = [] ∧ m = m' ∧ H' = .blk b (.cells [.slice c B.l.length cp, str (B.p ++ t.drop T), str (B.d ++ s.drop F)].toArray 98 (0, 0)) :: .row c cp 59 3 (B.l.map Stp.cs) :: H1) ?_ ?_
      · refine WC.drawE 16 ([]) (.blk b (.cells [.slice c B.l.length cp, str B.p, str B.d].toArray 98 (0, 0)) :: .row c cp 59 3 (B.l.map Stp.cs) :: H1) rfl (by decide +kernel) zpk ?_
        (refine cm0 ?_)
        refine WE.act2 1 7 (by decide +kernel) rfl rfl (fun c h => by cases h) rfl rfl (fun c h => by cases h) ?_ ?_
        · (try (refine st ?_; intros))
          refine WQ.acted (B := []) (U := .blk b (.cells [.slice c B.l.length cp, str B.p, str B.d].toArray 98 (0, 0)) :: .row c cp 59 3 (B.l.map Stp.cs) :: H1) rfl (Mem.le.refl _) zpk ?_
          (refine cm0 ?_)
          refine WE.act1 7 (by decide +kernel) rfl rfl (fun c h => by cases h) ?_
          (try (refine st ?_; intros))
          refine WQ.acted (B := []) (U := .blk b (.cells [.slice c B.l.length cp, str B.p, str B.d].toArray 98 (0, 0)) :: .row c cp 59 3 (B.l.map Stp.cs) :: H1) rfl (Mem.le.refl _) zpk ?_
          (refine cm0 ?_)
          refine WE.act0 13 (by decide +kernel) rfl rfl (fun c h => by cases h) ?_
          (try (refine st ?_; intros))
          refine WQ.stored (B := []) (U := .blk b (.cells [.slice c B.l.length cp, str (B.p ++ t.drop T), str B.d].toArray 98 (0, 0)) :: .row c cp 59 3 (B.l.map Stp.cs) :: H1) (Mem.le.refl _) zpk ?_
          (refine cm0 ?_)
          refine WE.act0 15 (by decide +kernel) rfl rfl (fun c h => by cases h) ?_
          (try (refine st ?_; intros))
          refine WQ.stored (B := []) (U := .blk b (.cells [.slice c B.l.length cp, str (B.p ++ t.drop T), str (B.d ++ s.drop F)].toArray 98 (0, 0)) :: .row c cp 59 3 (B.l.map Stp.cs) :: H1) (Mem.le.refl _) zpk ?_
          refine WE.done (by decide +kernel) ?_
          (try (refine st ?_; intros))
          exact WQ.join ⟨rfl, rfl, rfl, rfl⟩ zsb zpk
        · (try (refine st ?_; intros))
          refine WQ.acted (B := []) (U := .blk b (.cells [.slice c B.l.length cp, str B.p, str B.d].toArray 98 (0, 0)) :: .row c cp 59 3 (B.l.map Stp.cs) :: H1) rfl (Mem.le.refl _) zpk ?_
          (refine cm0 ?_)
          refine WE.act1 1 (by decide +kernel) rfl rfl (fun c h => by cases h) ?_
          (try (refine st ?_; intros))
          refine WQ.acted (B := []) (U := .blk b (.cells [.slice c B.l.length cp, str B.p, str B.d].toArray 98 (0, 0)) :: .row c cp 59 3 (B.l.map Stp.cs) :: H1) rfl (Mem.le.refl _) zpk ?_
          (refine cm0 ?_)
          refine WE.act0 13 (by decide +kernel) rfl rfl (fun c h => by cases h) ?_
          (try (refine st ?_; intros))
          refine WQ.stored (B := []) (U := .blk b (.cells [.slice c B.l.length cp, str (B.p ++ t.drop T), str B.d].toArray 98 (0, 0)) :: .row c cp 59 3 (B.l.map Stp.cs) :: H1) (Mem.le.refl _) zpk ?_
          (refine cm0 ?_)
          refine WE.act0 15 (by decide +kernel) rfl rfl (fun c h => by cases h) ?_
          (try (refine st ?_; intros))
          refine WQ.stored (B := []) (U := .blk b (.cells [.slice c B.l.length cp, str (B.p ++ t.drop T), str (B.d ++ s.drop F)].toArray 98 (0, 0)) :: .row c cp 59 3 (B.l.map Stp.cs) :: H1) (Mem.le.refl _) zpk ?_
          refine WE.done (by decide +kernel) ?_
          (try (refine st ?_; intros))
          exact WQ.join ⟨rfl, rfl, rfl, rfl⟩ zsb zpk
      rintro _ _ _ _ ⟨rfl, rfl, rfl, rfl⟩
      (try (refine st ?_; intros))
      refine WL.heap (H' := .blk b (.cells [.slice c (⟨B.l, B.p ++ t.drop T, B.d ++ s.drop F⟩ : Bld).l.length cp, str (⟨B.l, B.p ++ t.drop T, B.d ++ s.drop F⟩ : Bld).p, str (⟨B.l, B.p ++ t.drop T, B.d ++ s.drop F⟩ : Bld).d].toArray 98 (0, 0)) :: .row c cp 59 3 ((⟨B.l, B.p ++ t.drop T, B.d ++ s.drop F⟩ : Bld).l.map Stp.cs) :: H1) zpk ?_
      refine w_callF Try.func48 ?_ (hs := done_any ⟨B.l, B.p ++ t.drop T, B.d ++ s.drop F⟩ (by simp only; omega) _ _ _)
      rintro v m H2 ⟨rfl, c3, cp3, rfl, rfl⟩
      rw [← hrun]
      (try (refine st ?_; intros))
      exact q_fin0 (H0 := .row c3 cp3 59 3 (R.map Stp.cs) :: H1) ⟨rfl, c3, cp3, rfl, rfl⟩ (hd := zpk)
end Go.Proofs.Ytelgegefmjlimaa

/-
  The walk of the reference's Whole. No condition.
-/
namespace Go.Eng
open Go
def zV (k : Int) : List Value := [.int .i64 k]
theorem set_mid {α : Type} (f : Int → α) {L R : List Int} {p : Nat} (u v : Int) (h : L.length = p) : ((L ++ u :: R).map f).set p (f v) = ((L ++ [v]) ++ R).map f := by
  subst h
  simp [List.map_append, List.set_append]
/-- is what has been looked at of a piece kept in a row? -/
def rowOk (G : List Int) (p q : Nat) : Bool := decide (0 ≤ gAt G p) && (List.range q).all fun u => decide (gAt G (p + u) = gAt G p + u)
theorem rowOk_one (G : List Int) (p : Nat) : rowOk G p 1 = decide (0 ≤ gAt G p) := by simp [rowOk]
theorem rowOk_next (G : List Int) (p q : Nat) : rowOk G p (q + 1) = (rowOk G p q && decide (gAt G (p + q) = gAt G p + q)) := by
  unfold rowOk; rw [List.range_succ, List.all_append, List.all_cons, List.all_nil, Bool.and_true, Bool.and_assoc]
theorem rowOk_pos {G : List Int} {p q : Nat} (h : rowOk G p q = true) : 0 ≤ gAt G p := by
  unfold rowOk at h
  rw [Bool.and_eq_true, decide_eq_true_eq] at h
  exact h.1
theorem kept_row (t : List UInt8) (G : List Int) (p : Pc) : keptB t G p = (rowOk G p.at_ p.w && (edgeB t (gAt G p.at_).toNat && decide ((readP t (gAt G p.at_).toNat).w = p.w))) := rfl
theorem goes_bounds {s t : List UInt8} {G : List Int} (W : Wfit s t G) (hge : ∀ v ∈ G, v = -1 ∨ 0 ≤ v) (i : Nat) : -1 ≤ gAt G i ∧ gAt G i < t.length + 1 := by
  have h1 := W.lt i
  rcases Nat.lt_or_ge i G.length with h | h
  · rcases hge _ (List.mem_of_getElem? (gAt_get h)) with g | g <;> omega
  · have : gAt G i = -1 := by unfold gAt; rw [List.getD_eq_getElem?_getD, List.getElem?_eq_none h]; rfl
    omega
end Go.Eng
namespace Go.Proofs.Ytelgegefmjlimaa
open Go Go.Eng
set_option maxRecDepth 100000
set_option maxHeartbeats 4000000
set_option linter.all false
attribute [local irreducible] WL WC WQ QFun QLoop Does Q1 QRound QAssign Go.Addr.add
attribute [local irreducible] readP pieces dl from_ edgeB applyV sizesOf plainOf listOf wholeA whTo goesA goesTo goneTo gAt rowOk keptB putsOf dropsOf bytesOf gapsOf applyA sizesF
theorem rWhole_any {a : Option Addr} {cap : Nat} {l : List Stp} {s t : List UInt8} {tt : Int} (hf : Fit l) (hs : sizesOf l = some ((s.length : Int), tt)) (ha : applyA s (atomsOf l) = some t) (hsl : s.length ≤ 1000000) (w0 : World) (m : Mem) (H : SHeap) (hr : RowR w0 m H 3 a (l.map Stp.cs)) :
    Does Try.prog 63 #[str s, .slice a l.length cap] w0 m H (fun v m' H' => m' = m ∧ ∃ c cp, v = .slice c (listOf (wholeA s t (goesA 0 (atomsOf (plainOf l))))).length cp ∧ H' = .row c cp 84 3 ((listOf (wholeA s t (goesA 0 (atomsOf (plainOf l))))).map Stp.cs) :: H) := by
  refine Does.of_body (args := [str s, .slice a l.length cap]) Try.func63 rfl Try.ntmps63 rfl ?_
  obtain ⟨hok, hal, hpl, hfr, hto, _, _, _, _⟩ := sized hs
  have htl := apply_len _ _ _ ha
  have htm : t.length ≤ 65536 := by omega
  have hsm : s.length ≤ 65536 := by omega
  have hpa := plain_apply l hok s
  rw [ha] at hpa
  obtain ⟨_, _, _, hpf, hpt, _, _, _, _⟩ := sized (plain_sizes hs)
  have W := goes_fit hpa (by omega)
  have hge : ∀ v ∈ goesA 0 (atomsOf (plainOf l)), v = -1 ∨ 0 ≤ v := fun v hv => by have := goes_ge _ 0 v hv; omega
  have hGb := goes_bounds W hge
  have hrun := whole_run s t (goesA 0 (atomsOf (plainOf l)))
  have hG : goesA 0 (atomsOf (plainOf l)) = goesTo (posOf (gapsOf l)) (posOf (gapsOf l)).length := by rw [goes_all _ (lastOf (gapsOf l)), sd_atoms, plain_atoms]
  have hgn := fun p => goneTo_le (posOf (gapsOf l)) (lastOf (gapsOf l)) p
  rw [sd_atoms] at hgn
  have hnl := nf_len hs
  have hga := apply_cases s l
  have hda := drops_from l hok
  obtain ⟨la1, la2⟩ := said_len (gapsOf l)
  have hap : applyV s l = okV t := by
    rcases hga with ⟨e, h1, h2⟩ | ⟨t', tt', h1, h2, h3⟩
    · exfalso
      unfold applyV at h2
      rw [hs] at h2
      simp only at h2
      rw [if_neg (by simp), ha] at h2
      simp only [okV, Value.tuple.injEq] at h2
      simp at h2
      omega
    · rw [ha] at h2; cases h2; exact h3
  generalize listOf (wholeA s t (goesA 0 (atomsOf (plainOf l)))) = R at *
  generalize goesA 0 (atomsOf (plainOf l)) = G at *
  (try (refine st ?_; intros))
  refine w_callF Try.func58 ?_ (hs := rApply_any hf hs (by omega) _ _ _ hr)
  rintro v m H1 ⟨rfl, rfl, rfl⟩
  rw [hap, okV]
  (try (refine st ?_; intros))
  refine w_callF Try.func43 ?_ (hs := say_any hf hs _ _ _ hr)
  rintro _ m _ ⟨rfl, q2, q4, q6, rfl, rfl⟩
  have hpa : posOf (gapsOf l) = (putsOf (gapsOf l)).zip ((dropsOf (gapsOf l)).zip (bytesOf (gapsOf l))) := rfl
  rw [hpa] at hG hgn
  generalize putsOf (gapsOf l) = PX at *
  generalize dropsOf (gapsOf l) = DX at *
  generalize bytesOf (gapsOf l) = BX at *
  have hPl : (PX.map sV).length = PX.length := by simp
  have hDl : (DX.map oV).length = DX.length := by simp
  have hBl : (BX.map uV).length = BX.length := by simp
  have hDs : DX.length = s.length := by omega
  (refine st ?_; intros; rename_i x)
  refine w_callF Try.func56 ?_ (hs := p3_any s (by omega) _ _ _)
  rintro v m H1 ⟨rfl, c1, p1, rfl, rfl⟩
  (try (refine st ?_; intros))
  refine w_callF Try.func56 ?_ (hs := p3_any t (by omega) _ _ _)
  rintro v m H1 ⟨rfl, c2, p2, rfl, rfl⟩
  have hgn2 : ∀ p, goneTo (PX.zip (DX.zip BX)) p ≤ 65536 := fun p => by have := hgn p; omega
  have hzl : (PX.zip (DX.zip BX)).length = s.length := by simp only [List.length_zip]; omega
  clear hgn hnl hga hap hpf hpt hpa hfr hto hpl hal hok htl ha hf hr hda hs
  have ez : List.replicate s.length [Value.int .i64 0] = (([] : List Int) ++ List.replicate (s.length - 0) 0).map zV := by simp [zV]
  (refine st ?_; intros; rename_i qg)
  rw [ez]
  refine WC.loopH [(12, .int .i64 ((0) : Int)), (11, .int .i64 ((0) : Int)), (10, .slice (some ⟨qg, 0, none⟩) s.length s.length), (9, .slice c2 (pieces t).length p2), (8, .slice c1 (pieces s).length p1), (7, .pointer (some ⟨x, 0, none⟩)), (5, str t), (0, str s)] ?_ ?_ (fun j r ds m' H' => ∃ (p : Nat) (A : Nat) (V : List Int), j = s.length - p ∧ r = [(12, .int .i64 (p : Int)), (11, .int .i64 (A : Int)), (10, .slice (some ⟨qg, 0, none⟩) s.length s.length), (9, .slice c2 (pieces t).length p2), (8, .slice c1 (pieces s).length p1), (7, .pointer (some ⟨x, 0, none⟩)), (5, str t), (0, str s)] ∧ ds = [] ∧ m = m' ∧ H' = .row (some ⟨qg, 0, none⟩) s.length 3 1 ((V ++ List.replicate (s.length - p) 0).map zV) :: .row c2 p2 118 4 ((pieces t).map Pc.cs) :: .row c1 p1 118 4 ((pieces s).map Pc.cs) :: .blk x (.cells [.slice (some ⟨q2, 0, none⟩) PX.length PX.length, .slice (some ⟨q4, 0, none⟩) DX.length DX.length, .slice (some ⟨q6, 0, none⟩) BX.length BX.length].toArray 92 (0, 0)) :: .row (some ⟨q2, 0, none⟩) PX.length 9 1 (PX.map sV) :: .row (some ⟨q4, 0, none⟩) DX.length 4 1 (DX.map oV) :: .row (some ⟨q6, 0, none⟩) BX.length 5 1 (BX.map uV) :: H1 ∧ (p ≤ s.length) ∧ (A = goneTo (PX.zip (DX.zip BX)) p) ∧ (V = goesTo (PX.zip (DX.zip BX)) p)) (s.length - (0)) ⟨0, 0, ([] : List Int), rfl, rfl, rfl, rfl, rfl, Nat.zero_le _, by unfold goneTo; simp [sdA, toA], by unfold goesTo; simp [sdA, goesA]⟩ ?_
  · (repeat (first | exact Env.Sub.nil | refine Env.Sub.cons rfl ?_))
  · exact zpk
  rintro j r ds m' H' ⟨p, A, V, rfl, rfl, rfl, rfl, rfl, hp, hA, hV⟩
  have hVl : V.length = p := by rw [hV]; exact goesTo_len (by omega)
  have hVR : ((V ++ List.replicate (s.length - p) 0).map zV).length = s.length := by simp only [List.length_map, List.length_append, List.length_replicate]; omega
  by_cases hlt : p < s.length
  · have hst := goes_to (ps := PX.zip (DX.zip BX)) (p := p) (by omega)
    simp only [List.getElem_zip] at hst
    rw [← hA, ← hV] at hst
    have hpx : p < PX.length := by omega
    have hpd : p < DX.length := by omega
    have hgx : (PX.map sV)[p]? = some [str PX[p]] := by rw [List.getElem?_map, List.getElem?_eq_getElem hpx]; rfl
    have gxd : (DX.map oV)[p]? = some [.bool DX[p]] := by rw [List.getElem?_map, List.getElem?_eq_getElem hpd]; rfl
    have hgn3 := hgn2 (p + 1)
    have er : List.replicate (s.length - p) (0 : Int) = 0 :: List.replicate (s.length - (p + 1)) 0 := by rw [show s.length - p = s.length - (p + 1) + 1 by omega, List.replicate_succ]
    have e1 : ((V ++ List.replicate (s.length - p) 0).map zV).set p [.int .i64 (-1)] = ((V ++ [-1]) ++ List.replicate (s.length - (p + 1)) 0).map zV := by rw [er]; exact set_mid zV 0 (-1) hVl
    have e2 : ∀ v : Int, (((V ++ [-1]) ++ List.replicate (s.length - (p + 1)) 0).map zV).set p [.int .i64 v] = ((V ++ [v]) ++ List.replicate (s.length - (p + 1)) 0).map zV := fun v => by rw [List.append_assoc]; exact set_mid zV (-1) v hVl
    have hVR2 : (((V ++ List.replicate (s.length - p) 0).map zV).set p [.int .i64 (-1)]).length = s.length := by rw [List.length_set]; exact hVR
    cases hdx : DX[p] with
    | true =>
      rw [hdx] at gxd hst
      simp only [if_true] at hst
      (try (refine st ?_; intros))
      rw [e1]
      refine WQ.next (s.length - (p + 1)) ⟨p + 1, A + PX[p].length, V ++ [-1], rfl, rfl, rfl, rfl, rfl, ?_, ?_, ?_⟩ (by omega) zsb zpk
      · omega
      · rw [hst.2]; rfl
      · rw [hst.1]
    | false =>
      rw [hdx] at gxd hst
      simp only [Bool.false_eq_true, if_false] at hst
      (try (refine st ?_; intros))
      have e2' := e2 ((A + PX[p].length : Nat) : Int)
      rw [e1]
      rw [Int.natCast_add] at e2'
      rw [e2']
      refine WQ.next (s.length - (p + 1)) ⟨p + 1, A + PX[p].length + 1, V ++ [((A + PX[p].length : Nat) : Int)], rfl, rfl, rfl, rfl, rfl, ?_, ?_, ?_⟩ (by omega) zsb zpk
      · omega
      · rw [hst.2]
      · rw [hst.1]
  · obtain rfl : p = s.length := by omega
    have eV : V = G := by rw [hV, hG, hzl]
    subst eV
    clear hA hV hG ez hgn2 hVR hp hlt hzl
    rw [Nat.sub_self, List.replicate_zero, List.append_nil]
    have hVR : (V.map zV).length = s.length := by rw [List.length_map]; exact hVl
    have hSl : ((pieces s).map Pc.cs).length = (pieces s).length := by simp
    have hTl : ((pieces t).map Pc.cs).length = (pieces t).length := by simp
    have hpsl : (pieces s).length ≤ s.length := by unfold pieces; exact pieces_count s _ 0 (Nat.le_refl _)
    have hptl : (pieces t).length ≤ t.length := by unfold pieces; exact pieces_count t _ 0 (Nat.le_refl _)
    clear hPl hDl hBl hDs la1 la2 hge
    (refine st ?_; intros; rename_i b)
    refine WC.newRow (T := 84) (sz := 3) ?_
    refine WC.loopH [(17, .int .i64 ((0) : Int)), (16, .int .i64 ((0) : Int)), (15, .int .i64 ((0) : Int)), (14, .int .i64 ((0) : Int)), (13, .pointer (some ⟨b, 0, none⟩)), (10, .slice (some ⟨qg, 0, none⟩) s.length s.length), (9, .slice c2 (pieces t).length p2), (8, .slice c1 (pieces s).length p1), (5, str t), (0, str s)] ?_ ?_ (fun j r ds m' H' => ∃ (i : Nat) (q : Nat) (c : Option Addr) (cp : Nat) (B : Bld) (F : Nat) (T : Nat), j = (pieces s).length - i ∧ r = [(17, .int .i64 (i : Int)), (16, .int .i64 (q : Int)), (15, .int .i64 (T : Int)), (14, .int .i64 (F : Int)), (13, .pointer (some ⟨b, 0, none⟩)), (10, .slice (some ⟨qg, 0, none⟩) s.length s.length), (9, .slice c2 (pieces t).length p2), (8, .slice c1 (pieces s).length p1), (5, str t), (0, str s)] ∧ ds = [] ∧ m = m' ∧ H' = .blk b (.cells [.slice c B.l.length cp, str B.p, str B.d].toArray 109 (0, 0)) :: .row c cp 84 3 (B.l.map Stp.cs) :: .row (some ⟨qg, 0, none⟩) s.length 3 1 (V.map zV) :: .row c2 p2 118 4 ((pieces t).map Pc.cs) :: .row c1 p1 118 4 ((pieces s).map Pc.cs) :: H1 ∧ (i ≤ (pieces s).length) ∧ (q ≤ (pieces t).length) ∧ (∀ u (h : u < (pieces t).length), u < q → ∀ p, posN s i ≤ p → 0 ≤ gAt V p → ((pieces t)[u].at_ : Int) < gAt V p) ∧ (B = Bld.start.run (whTo s t V (posN s i)).L) ∧ (F = (whTo s t V (posN s i)).f ∧ T = (whTo s t V (posN s i)).t)) ((pieces s).length - (0)) ⟨0, 0, none, 0, Bld.start, 0, 0, rfl, rfl, rfl, rfl, rfl, Nat.zero_le _, Nat.zero_le _, fun u h hu => by omega, by rw [posN_zero, wh_zero]; rfl, by rw [posN_zero, wh_zero]; exact ⟨rfl, rfl⟩⟩ ?_
    · (repeat (first | exact Env.Sub.nil | refine Env.Sub.cons rfl ?_))
    · exact zpk
    rintro j r ds m' H' ⟨i, q, c, cp, B, F, T, rfl, rfl, rfl, rfl, rfl, hi, hq, hqb, hB, hFT⟩
    by_cases hlt : i < (pieces s).length
    · obtain ⟨g1, g2⟩ := posN_next hlt
      obtain ⟨r1, r2, r3⟩ := reach_of_mem g2
      have hat := posN_at hlt
      have hmw := mem_w g2
      have hgs : ((pieces s).map Pc.cs)[i]? = some ((pieces s)[i]).cs := by rw [List.getElem?_map, List.getElem?_eq_getElem hlt]; rfl
      have hwe := wh_edge (t := t) (G := V) r1 r2
      rw [← r3] at hwe
      have hinv := wh_inv W r1 (by omega)
      have hkr := kept_row t V (pieces s)[i]
      generalize (pieces s)[i] = P at *
      rw [hat] at hB hFT hqb
      refine WC.rowSome (a := c1) (es := (pieces s).map Pc.cs) zhs (by omega) ?_
      rintro d1 rfl
      have hgp : (V.map zV)[P.at_]? = some [.int .i64 (gAt V P.at_)] := by rw [List.getElem?_map, gAt_get (by omega)]; rfl
      have hGp := hGb P.at_
      (try (refine st ?_; intros))
      refine WC.loopH [(20, .int .i64 ((1) : Int)), (19, .bool (dcd (0 ≤ gAt V P.at_))), (18, .int .i64 (P.at_ : Int)), (17, .int .i64 (i : Int)), (16, .int .i64 (q : Int)), (15, .int .i64 (T : Int)), (14, .int .i64 (F : Int)), (9, .slice c2 (pieces t).length p2), (13, .pointer (some ⟨b, 0, none⟩)), (10, .slice (some ⟨qg, 0, none⟩) s.length s.length), (8, .slice (some d1) (pieces s).length p1), (5, str t), (0, str s)] ?_ ?_ (fun j r ds m' H' => ∃ (u : Nat) (rt : Bool), j = P.w - u ∧ r = [(20, .int .i64 (u : Int)), (19, .bool rt), (18, .int .i64 (P.at_ : Int)), (17, .int .i64 (i : Int)), (16, .int .i64 (q : Int)), (15, .int .i64 (T : Int)), (14, .int .i64 (F : Int)), (9, .slice c2 (pieces t).length p2), (13, .pointer (some ⟨b, 0, none⟩)), (10, .slice (some ⟨qg, 0, none⟩) s.length s.length), (8, .slice (some d1) (pieces s).length p1), (5, str t), (0, str s)] ∧ ds = [] ∧ m = m' ∧ H' = .blk b (.cells [.slice c B.l.length cp, str B.p, str B.d].toArray 109 (0, 0)) :: .row c cp 84 3 (B.l.map Stp.cs) :: .row (some ⟨qg, 0, none⟩) s.length 3 1 (V.map zV) :: .row c2 p2 118 4 ((pieces t).map Pc.cs) :: .row (some d1) p1 118 4 ((pieces s).map Pc.cs) :: H1 ∧ (1 ≤ u ∧ u ≤ P.w) ∧ (rt = rowOk V P.at_ u)) (P.w - (1)) ⟨1, dcd (0 ≤ gAt V P.at_), rfl, rfl, rfl, rfl, rfl, ⟨Nat.le_refl _, hmw.2.1⟩, by rw [rowOk_one, dcd_eq]⟩ ?_
      · (repeat (first | exact Env.Sub.nil | refine Env.Sub.cons rfl ?_))
      · exact zpk
      rintro j r ds m' H' ⟨u, rt, rfl, rfl, rfl, rfl, rfl, hu, hrt⟩
      by_cases huw : u < P.w
      · have hgu : (V.map zV)[P.at_ + u]? = some [.int .i64 (gAt V (P.at_ + u))] := by rw [List.getElem?_map, gAt_get (by omega)]; rfl
        have hGu := hGb (P.at_ + u)
        have hnx := rowOk_next V P.at_ u
        rw [← hrt] at hnx
        cases rt with
        | true =>
          rw [Bool.true_and] at hnx
          (try (refine st ?_; intros))
          refine WQ.next (P.w - (u + 1)) ⟨u + 1, dcd (gAt V (P.at_ + u) = gAt V P.at_ + (u : Int)), rfl, rfl, rfl, rfl, rfl, ?_, ?_⟩ (by omega) zsb zpk
          · omega
          · rw [hnx, dcd_eq]
        | false =>
          rw [Bool.false_and] at hnx
          (try (refine st ?_; intros))
          refine WQ.next (P.w - (u + 1)) ⟨u + 1, false, rfl, rfl, rfl, rfl, rfl, ?_, ?_⟩ (by omega) zsb zpk
          · omega
          · rw [hnx]
      · obtain rfl : u = P.w := by omega
        rw [← hrt] at hkr
        cases rt with
        | false =>
          rw [Bool.false_and] at hkr
          have hsame : whTo s t V (P.at_ + P.w) = whTo s t V P.at_ := by rw [hwe, whStep, if_neg (by rw [hkr]; simp)]
          (try (refine st ?_; intros))
          refine WQ.next ((pieces s).length - (i + 1)) ⟨i + 1, q, c, cp, B, F, T, rfl, rfl, rfl, rfl, rfl, ?_, ?_, ?_, ?_, ?_⟩ (by omega) zsb zpk
          · omega
          · omega
          · exact fun u h hu p hp => hqb u h hu p (by omega)
          · rw [← g1, hsame]; exact hB
          · rw [← g1, hsame]; exact hFT
        | true =>
          rw [Bool.true_and] at hkr
          have hg0 := rowOk_pos hrt.symm
          obtain ⟨g, hg⟩ : ∃ g : Nat, gAt V P.at_ = (g : Int) := ⟨_, (Int.toNat_of_nonneg hg0).symm⟩
          have hgt := W.lt _ hg0
          rw [hg] at hgp hkr hgt
          rw [Int.toNat_natCast] at hkr
          have hrise : ∀ p, P.at_ ≤ p → 0 ≤ gAt V p → (g : Int) ≤ gAt V p := by
            intro p hp h0
            rcases Nat.lt_or_eq_of_le hp with h | h
            · have := W.rise _ _ h hg0 h0; omega
            · rw [← h, hg]; exact Int.le_refl _
          have hputs : keptB t V P = true → whTo s t V (P.at_ + P.w) = (whTo s t V P.at_).put s t P.at_ g P.w := fun h => by rw [hwe, whStep, if_pos h, hg, Int.toNat_natCast]
          have hskip : keptB t V P = false → whTo s t V (P.at_ + P.w) = whTo s t V P.at_ := fun h => by rw [hwe, whStep, if_neg (by rw [h]; simp)]
          have hTg := hinv.nx _ (Nat.le_refl _) hg0
          have hFi := hinv.f
          have hBf := wh_len hinv
          rw [← hB] at hBf
          rw [hg, ← hFT.2] at hTg
          rw [← hFT.1] at hFi
          clear hrt hGb hg0 hinv hwe
          (try (refine st ?_; intros))
          refine WC.loopH [(18, .int .i64 (P.at_ : Int)), (17, .int .i64 (i : Int)), (16, .int .i64 ((q) : Int)), (15, .int .i64 (T : Int)), (14, .int .i64 (F : Int)), (9, .slice c2 (pieces t).length p2), (13, .pointer (some ⟨b, 0, none⟩)), (10, .slice (some ⟨qg, 0, none⟩) s.length s.length), (8, .slice (some d1) (pieces s).length p1), (5, str t), (0, str s)] ?_ ?_ (fun j r ds m' H' => ∃ (q : Nat), j = (pieces t).length - q ∧ r = [(18, .int .i64 (P.at_ : Int)), (17, .int .i64 (i : Int)), (16, .int .i64 (q : Int)), (15, .int .i64 (T : Int)), (14, .int .i64 (F : Int)), (9, .slice c2 (pieces t).length p2), (13, .pointer (some ⟨b, 0, none⟩)), (10, .slice (some ⟨qg, 0, none⟩) s.length s.length), (8, .slice (some d1) (pieces s).length p1), (5, str t), (0, str s)] ∧ ds = [] ∧ m = m' ∧ H' = .blk b (.cells [.slice c B.l.length cp, str B.p, str B.d].toArray 109 (0, 0)) :: .row c cp 84 3 (B.l.map Stp.cs) :: .row (some ⟨qg, 0, none⟩) s.length 3 1 (V.map zV) :: .row c2 p2 118 4 ((pieces t).map Pc.cs) :: .row (some d1) p1 118 4 ((pieces s).map Pc.cs) :: H1 ∧ (q ≤ (pieces t).length) ∧ (∀ u (h : u < (pieces t).length), u < q → ∀ p, P.at_ ≤ p → 0 ≤ gAt V p → ((pieces t)[u].at_ : Int) < gAt V p)) ((pieces t).length - (q)) ⟨q, rfl, rfl, rfl, rfl, rfl, hq, hqb⟩ ?_
          · (repeat (first | exact Env.Sub.nil | refine Env.Sub.cons rfl ?_))
          · exact zpk
          rintro j r ds m' H' ⟨q, rfl, rfl, rfl, rfl, rfl, hq, hqb⟩
          have hgq : ∀ u (h : u < (pieces t).length), u < q → (pieces t)[u].at_ < g := fun u h hu => by have := hqb u h hu P.at_ (Nat.le_refl _) (by omega); omega
          by_cases hql : q < (pieces t).length
          · have hgt2 : ((pieces t).map Pc.cs)[q]? = some ((pieces t)[q]).cs := by rw [List.getElem?_map, List.getElem?_eq_getElem hql]; rfl
            have hpf := fun h2 => piece_found2 (t := t) (g := g) (j := q) (w := P.w) (by omega) hgq h2
            have hQs : (pieces t)[q]? = some ((pieces t)[q]) := List.getElem?_eq_getElem hql
            have hnq : ((pieces t)[q]).at_ < g → ∀ u (h : u < (pieces t).length), u < q + 1 → ∀ p, P.at_ ≤ p → 0 ≤ gAt V p → ((pieces t)[u].at_ : Int) < gAt V p := by
              intro h1 u h hu p hp h0
              rcases Nat.lt_or_eq_of_le (Nat.le_of_lt_succ hu) with h2 | h2
              · exact hqb u h h2 p hp h0
              · subst h2; have := hrise p hp h0; omega
            have hmq := mem_w (List.getElem_mem hql)
            generalize hQ : (pieces t)[q] = Q at *
            refine WC.rowSome (a := c2) (es := (pieces t).map Pc.cs) zhs (by omega) ?_
            rintro d2 rfl
            by_cases hlg : Q.at_ < g
            · (try (refine st ?_; intros))
              refine WQ.next ((pieces t).length - (q + 1)) ⟨q + 1, rfl, rfl, rfl, rfl, rfl, ?_, ?_⟩ (by omega) zsb zpk
              · omega
              · exact hnq hlg
            · have hpf2 := hpf (fun Q' h => by rw [hQs] at h; cases h; omega)
              rw [hQs] at hpf2
              by_cases hqe : Q.at_ = g
              · by_cases hwq : Q.w = P.w
                · have hkt : keptB t V P = true := by rw [hkr]; exact hpf2.2 ⟨Q, rfl, hqe, hwq⟩
                  have k1 := hputs hkt
                  have hputr := put_run s t (whTo s t V P.at_) P.at_ g P.w
                  rw [← k1, ← hB, ← hFT.1, ← hFT.2, g1] at hputr
                  have hf2 := congrArg Wh.f k1
                  have ht2 := congrArg Wh.t k1
                  rw [g1] at hf2 ht2
                  simp only [Wh.put] at hf2 ht2
                  have hB1 := hBf.len
                  have hBp := hBf.p
                  have hBd := hBf.d
                  have hlp : ((t.take g).drop T).length ≤ t.length := by rw [List.length_drop, List.length_take]; omega
                  have hld : ((s.take P.at_).drop F).length ≤ s.length := by rw [List.length_drop, List.length_take]; omega
                  have hnq2 : ∀ u (h : u < (pieces t).length), u < q → ∀ p, posN s (i + 1) ≤ p → 0 ≤ gAt V p → ((pieces t)[u].at_ : Int) < gAt V p := fun u h hu p hp => hqb u h hu p (by omega)
                  clear hpf hpf2 hQs hnq hgq hqb hkt hskip hputs hrise hkr W
                  (try (refine st ?_; intros))
                  refine WC.join (fun r' ds' m' H' => r' = [(18, .int .i64 (P.at_ : Int)), (17, .int .i64 (i : Int)), (16, .int .i64 (q : Int)), (15, .int .i64 (T : Int)), (14, .int .i64 (F : Int)), (9, .slice (some d2) (pieces t).length p2), (13, .pointer (some ⟨b, 0, none⟩)), (10, .slice (some ⟨qg, 0, none⟩) s.length s.length), (8, .slice (some d1) (pieces s).length p1), (5, str t), (0, str s)] ∧ ds' = [] ∧ m = m' ∧ H' = .blk b (.cells [.slice c B.l.length cp, str (B.p ++ (t.take g).drop T), str (B.d ++ (s.take P.at_).drop F)].toArray 109 (0, 0)) :: .row c cp 84 3 (B.l.map Stp.cs) :: .row (some ⟨qg, 0, none⟩) s.length 3 1 (V.map zV) :: .row (some d2) p2 118 4 ((pieces t).map Pc.cs) :: .row (some d1) p1 118 4 ((pieces s).map Pc.cs) :: H1) ?_ ?_
                  · clear hputr hf2 ht2 k1 hnq2 hB hFT hrun hgt2 hgs hBf hat g1 g2 r1 r3 hqe hwq hlg hQ hql hmq huw hu hi hlt hpsl hptl hpa
                    refine WC.weak (r' := [(18, .int .i64 (P.at_ : Int)), (17, .int .i64 (i : Int)), (16, .int .i64 (q : Int)), (15, .int .i64 (T : Int)), (14, .int .i64 (F : Int)), (9, .slice (some d2) (pieces t).length p2), (13, .pointer (some ⟨b, 0, none⟩)), (10, .slice (some ⟨qg, 0, none⟩) s.length s.length), (8, .slice (some d1) (pieces s).length p1), (5, str t), (0, str s)]) (H' := .blk b (.cells [.slice c B.l.length cp, str B.p, str B.d].toArray 109 (0, 0)) :: .row c cp 84 3 (B.l.map Stp.cs) :: .row (some ⟨qg, 0, none⟩) s.length 3 1 (V.map zV) :: .row (some d2) p2 118 4 ((pieces t).map Pc.cs) :: .row (some d1) p1 118 4 ((pieces s).map Pc.cs) :: H1) zsb zpk ?_
                    refine WC.drawE 21 ([.row (some ⟨qg, 0, none⟩) s.length 3 1 (V.map zV)]) (.blk b (.cells [.slice c B.l.length cp, str B.p, str B.d].toArray 109 (0, 0)) :: .row c cp 84 3 (B.l.map Stp.cs) :: .row (some d2) p2 118 4 ((pieces t).map Pc.cs) :: .row (some d1) p1 118 4 ((pieces s).map Pc.cs) :: H1) rfl (by decide +kernel) zpk ?_
                    (refine cm0 ?_)
                    refine WE.act2 1 11 (by decide +kernel) rfl rfl (fun c h => by cases h) rfl rfl (fun c h => by cases h) ?_ ?_
                    · (try (refine st ?_; intros))
                      refine WQ.acted (B := []) (U := .blk b (.cells [.slice c B.l.length cp, str B.p, str B.d].toArray 109 (0, 0)) :: .row c cp 84 3 (B.l.map Stp.cs) :: .row (some d2) p2 118 4 ((pieces t).map Pc.cs) :: .row (some d1) p1 118 4 ((pieces s).map Pc.cs) :: H1) rfl (Mem.le.refl _) zpk ?_
                      (refine cm0 ?_)
                      refine WE.act1 11 (by decide +kernel) rfl rfl (fun c h => by cases h) ?_
                      (try (refine st ?_; intros))
                      refine WQ.acted (B := []) (U := .blk b (.cells [.slice c B.l.length cp, str B.p, str B.d].toArray 109 (0, 0)) :: .row c cp 84 3 (B.l.map Stp.cs) :: .row (some d2) p2 118 4 ((pieces t).map Pc.cs) :: .row (some d1) p1 118 4 ((pieces s).map Pc.cs) :: H1) rfl (Mem.le.refl _) zpk ?_
                      (refine cm0 ?_)
                      refine WE.act0 18 (by decide +kernel) rfl rfl (fun c h => by cases h) ?_
                      (try (refine st ?_; intros))
                      refine WQ.stored (B := []) (U := .blk b (.cells [.slice c B.l.length cp, str (B.p ++ (t.take g).drop T), str B.d].toArray 109 (0, 0)) :: .row c cp 84 3 (B.l.map Stp.cs) :: .row (some d2) p2 118 4 ((pieces t).map Pc.cs) :: .row (some d1) p1 118 4 ((pieces s).map Pc.cs) :: H1) (Mem.le.refl _) zpk ?_
                      (refine cm0 ?_)
                      refine WE.act0 20 (by decide +kernel) rfl rfl (fun c h => by cases h) ?_
                      (try (refine st ?_; intros))
                      refine WQ.stored (B := []) (U := .blk b (.cells [.slice c B.l.length cp, str (B.p ++ (t.take g).drop T), str (B.d ++ (s.take P.at_).drop F)].toArray 109 (0, 0)) :: .row c cp 84 3 (B.l.map Stp.cs) :: .row (some d2) p2 118 4 ((pieces t).map Pc.cs) :: .row (some d1) p1 118 4 ((pieces s).map Pc.cs) :: H1) (Mem.le.refl _) zpk ?_
                      refine WE.done (by decide +kernel) ?_
                      (try (refine st ?_; intros))
                      exact WQ.join ⟨rfl, rfl, rfl, rfl⟩ zsb zpk
                    · (try (refine st ?_; intros))
                      refine WQ.acted (B := []) (U := .blk b (.cells [.slice c B.l.length cp, str B.p, str B.d].toArray 109 (0, 0)) :: .row c cp 84 3 (B.l.map Stp.cs) :: .row (some d2) p2 118 4 ((pieces t).map Pc.cs) :: .row (some d1) p1 118 4 ((pieces s).map Pc.cs) :: H1) rfl (Mem.le.refl _) zpk ?_
                      (refine cm0 ?_)
                      refine WE.act1 1 (by decide +kernel) rfl rfl (fun c h => by cases h) ?_
                      (try (refine st ?_; intros))
                      refine WQ.acted (B := []) (U := .blk b (.cells [.slice c B.l.length cp, str B.p, str B.d].toArray 109 (0, 0)) :: .row c cp 84 3 (B.l.map Stp.cs) :: .row (some d2) p2 118 4 ((pieces t).map Pc.cs) :: .row (some d1) p1 118 4 ((pieces s).map Pc.cs) :: H1) rfl (Mem.le.refl _) zpk ?_
                      (refine cm0 ?_)
                      refine WE.act0 18 (by decide +kernel) rfl rfl (fun c h => by cases h) ?_
                      (try (refine st ?_; intros))
                      refine WQ.stored (B := []) (U := .blk b (.cells [.slice c B.l.length cp, str (B.p ++ (t.take g).drop T), str B.d].toArray 109 (0, 0)) :: .row c cp 84 3 (B.l.map Stp.cs) :: .row (some d2) p2 118 4 ((pieces t).map Pc.cs) :: .row (some d1) p1 118 4 ((pieces s).map Pc.cs) :: H1) (Mem.le.refl _) zpk ?_
                      (refine cm0 ?_)
                      refine WE.act0 20 (by decide +kernel) rfl rfl (fun c h => by cases h) ?_
                      (try (refine st ?_; intros))
                      refine WQ.stored (B := []) (U := .blk b (.cells [.slice c B.l.length cp, str (B.p ++ (t.take g).drop T), str (B.d ++ (s.take P.at_).drop F)].toArray 109 (0, 0)) :: .row c cp 84 3 (B.l.map Stp.cs) :: .row (some d2) p2 118 4 ((pieces t).map Pc.cs) :: .row (some d1) p1 118 4 ((pieces s).map Pc.cs) :: H1) (Mem.le.refl _) zpk ?_
                      refine WE.done (by decide +kernel) ?_
                      (try (refine st ?_; intros))
                      exact WQ.join ⟨rfl, rfl, rfl, rfl⟩ zsb zpk
                  rintro _ _ _ _ ⟨rfl, rfl, rfl, rfl⟩
                  have hBk : BFit (4 * (P.at_ + t.length) + t.length + s.length) (⟨B.l, B.p ++ (t.take g).drop T, B.d ++ (s.take P.at_).drop F⟩ : Bld) := ⟨by simp only; omega, fun y hy => by have := hBf.k y hy; omega, by simp only [List.length_append]; omega, by simp only [List.length_append]; omega⟩
                  (try (refine st ?_; intros))
                  refine WL.heap (H' := .blk b (.cells [.slice c (⟨B.l, B.p ++ (t.take g).drop T, B.d ++ (s.take P.at_).drop F⟩ : Bld).l.length cp, str (⟨B.l, B.p ++ (t.take g).drop T, B.d ++ (s.take P.at_).drop F⟩ : Bld).p, str (⟨B.l, B.p ++ (t.take g).drop T, B.d ++ (s.take P.at_).drop F⟩ : Bld).d].toArray 109 (0, 0)) :: .row c cp 84 3 ((⟨B.l, B.p ++ (t.take g).drop T, B.d ++ (s.take P.at_).drop F⟩ : Bld).l.map Stp.cs) :: .row (some ⟨qg, 0, none⟩) s.length 3 1 (V.map zV) :: .row (some d2) p2 118 4 ((pieces t).map Pc.cs) :: .row (some d1) p1 118 4 ((pieces s).map Pc.cs) :: H1) zpk ?_
                  refine w_callF Try.func50 ?_ (hs := mkeep_any ⟨B.l, B.p ++ (t.take g).drop T, B.d ++ (s.take P.at_).drop F⟩ P.w (by omega) (hBk.mono (by omega)) _ _ _)
                  rintro v m H2 ⟨rfl, rfl, c3, cp3, rfl⟩
                  rw [← hputr]
                  (try (refine st ?_; intros))
                  refine WQ.next ((pieces s).length - (i + 1)) ⟨i + 1, q, c3, cp3, Bld.start.run (whTo s t V (posN s (i + 1))).L, P.at_ + P.w, g + P.w, rfl, rfl, rfl, rfl, rfl, ?_, ?_, ?_, ?_, ?_⟩ (by omega) zsb zpk
                  · omega
                  · omega
                  · exact hnq2
                  · rfl
                  · exact ⟨hf2.symm, ht2.symm⟩
                · have hkf : keptB t V P = false := by
                    rw [hkr, Bool.eq_false_iff]
                    intro h
                    obtain ⟨Q', h1, _, h3⟩ := hpf2.1 h
                    cases h1; exact hwq h3
                  have hsame := hskip hkf
                  (try (refine st ?_; intros))
                  refine WQ.next ((pieces s).length - (i + 1)) ⟨i + 1, q, c, cp, B, F, T, rfl, rfl, rfl, rfl, rfl, ?_, ?_, ?_, ?_, ?_⟩ (by omega) zsb zpk
                  · omega
                  · omega
                  · exact fun u h hu p hp => hqb u h hu p (by omega)
                  · rw [← g1, hsame]; exact hB
                  · rw [← g1, hsame]; exact hFT
              · have hkf : keptB t V P = false := by
                  rw [hkr, Bool.eq_false_iff]
                  intro h
                  obtain ⟨Q', h1, h3, _⟩ := hpf2.1 h
                  cases h1; exact hqe h3
                have hsame := hskip hkf
                (try (refine st ?_; intros))
                refine WQ.next ((pieces s).length - (i + 1)) ⟨i + 1, q, c, cp, B, F, T, rfl, rfl, rfl, rfl, rfl, ?_, ?_, ?_, ?_, ?_⟩ (by omega) zsb zpk
                · omega
                · omega
                · exact fun u h hu p hp => hqb u h hu p (by omega)
                · rw [← g1, hsame]; exact hB
                · rw [← g1, hsame]; exact hFT
          · have hpf2 := piece_found2 (t := t) (g := g) (j := q) (w := P.w) (by omega) hgq (fun Q h => by rw [List.getElem?_eq_none (by omega)] at h; cases h)
            have hkf : keptB t V P = false := by
              rw [hkr, Bool.eq_false_iff]
              intro h
              obtain ⟨Q, h3, _⟩ := hpf2.1 h
              rw [List.getElem?_eq_none (by omega)] at h3; cases h3
            have hsame := hskip hkf
            (try (refine st ?_; intros))
            refine WQ.next ((pieces s).length - (i + 1)) ⟨i + 1, q, c, cp, B, F, T, rfl, rfl, rfl, rfl, rfl, ?_, ?_, ?_, ?_, ?_⟩ (by omega) zsb zpk
            · omega
            · omega
            · exact fun u h hu p hp => hqb u h hu p (by omega)
            · rw [← g1, hsame]; exact hB
            · rw [← g1, hsame]; exact hFT
    · obtain rfl : i = (pieces s).length := by omega
      rw [posN_end] at hB hFT
      obtain ⟨f1, f2, f3⟩ := wh_all (t := t) W s.length s.length (by omega)
      rw [← hB, ← hFT.1, ← hFT.2] at hrun
      rw [← hFT.1] at f1
      rw [← hFT.2] at f2
      rw [← hB] at f3
      have hBl := f3.len
      have hBp := f3.p
      have hBd := f3.d
      have hlp : (t.drop T).length ≤ t.length := by rw [List.length_drop]; omega
      have hld : (s.drop F).length ≤ s.length := by rw [List.length_drop]; omega
      clear hB hFT f3 W hqb hGb hpa hVR
      (try (refine st ?_; intros))
      refine WC.join (fun r' ds' m' H' => r' = [(13, .pointer (some ⟨b, 0, none⟩))] ∧ ds' = [] ∧ m = m' ∧ H' = .blk b (.cells [.slice c B.l.length cp, str (B.p ++ t.drop T), str (B.d ++ s.drop F)].toArray 109 (0, 0)) :: .row c cp 84 3 (B.l.map Stp.cs) :: H1) ?_ ?_
      · refine WC.drawE 16 ([]) (.blk b (.cells [.slice c B.l.length cp, str B.p, str B.d].toArray 109 (0, 0)) :: .row c cp 84 3 (B.l.map Stp.cs) :: H1) rfl (by decide +kernel) zpk ?_
        (refine cm0 ?_)
        refine WE.act2 1 7 (by decide +kernel) rfl rfl (fun c h => by cases h) rfl rfl (fun c h => by cases h) ?_ ?_
        · (try (refine st ?_; intros))
          refine WQ.acted (B := []) (U := .blk b (.cells [.slice c B.l.length cp, str B.p, str B.d].toArray 109 (0, 0)) :: .row c cp 84 3 (B.l.map Stp.cs) :: H1) rfl (Mem.le.refl _) zpk ?_
          (refine cm0 ?_)
          refine WE.act1 7 (by decide +kernel) rfl rfl (fun c h => by cases h) ?_
          (try (refine st ?_; intros))
          refine WQ.acted (B := []) (U := .blk b (.cells [.slice c B.l.length cp, str B.p, str B.d].toArray 109 (0, 0)) :: .row c cp 84 3 (B.l.map Stp.cs) :: H1) rfl (Mem.le.refl _) zpk ?_
          (refine cm0 ?_)
          refine WE.act0 13 (by decide +kernel) rfl rfl (fun c h => by cases h) ?_
          (try (refine st ?_; intros))
          refine WQ.stored (B := []) (U := .blk b (.cells [.slice c B.l.length cp, str (B.p ++ t.drop T), str B.d].toArray 109 (0, 0)) :: .row c cp 84 3 (B.l.map Stp.cs) :: H1) (Mem.le.refl _) zpk ?_
          (refine cm0 ?_)
          refine WE.act0 15 (by decide +kernel) rfl rfl (fun c h => by cases h) ?_
          (try (refine st ?_; intros))
          refine WQ.stored (B := []) (U := .blk b (.cells [.slice c B.l.length cp, str (B.p ++ t.drop T), str (B.d ++ s.drop F)].toArray 109 (0, 0)) :: .row c cp 84 3 (B.l.map Stp.cs) :: H1) (Mem.le.refl _) zpk ?_
          refine WE.done (by decide +kernel) ?_
          (try (refine st ?_; intros))
          exact WQ.join ⟨rfl, rfl, rfl, rfl⟩ zsb zpk
        · (try (refine st ?_; intros))
          refine WQ.acted (B := []) (U := .blk b (.cells [.slice c B.l.length cp, str B.p, str B.d].toArray 109 (0, 0)) :: .row c cp 84 3 (B.l.map Stp.cs) :: H1) rfl (Mem.le.refl _) zpk ?_
          (refine cm0 ?_)
          refine WE.act1 1 (by decide +kernel) rfl rfl (fun c h => by cases h) ?_
          (try (refine st ?_; intros))
          refine WQ.acted (B := []) (U := .blk b (.cells [.slice c B.l.length cp, str B.p, str B.d].toArray 109 (0, 0)) :: .row c cp 84 3 (B.l.map Stp.cs) :: H1) rfl (Mem.le.refl _) zpk ?_
          (refine cm0 ?_)
          refine WE.act0 13 (by decide +kernel) rfl rfl (fun c h => by cases h) ?_
          (try (refine st ?_; intros))
          refine WQ.stored (B := []) (U := .blk b (.cells [.slice c B.l.length cp, str (B.p ++ t.drop T), str B.d].toArray 109 (0, 0)) :: .row c cp 84 3 (B.l.map Stp.cs) :: H1) (Mem.le.refl _) zpk ?_
          (refine cm0 ?_)
          refine WE.act0 15 (by decide +kernel) rfl rfl (fun c h => by cases h) ?_
          (try (refine st ?_; intros))
          refine WQ.stored (B := []) (U := .blk b (.cells [.slice c B.l.length cp, str (B.p ++ t.drop T), str (B.d ++ s.drop F)].toArray 109 (0, 0)) :: .row c cp 84 3 (B.l.map Stp.cs) :: H1) (Mem.le.refl _) zpk ?_
          refine WE.done (by decide +kernel) ?_
          (try (refine st ?_; intros))
          exact WQ.join ⟨rfl, rfl, rfl, rfl⟩ zsb zpk
      rintro _ _ _ _ ⟨rfl, rfl, rfl, rfl⟩
      (try (refine st ?_; intros))
      refine WL.heap (H' := .blk b (.cells [.slice c (⟨B.l, B.p ++ t.drop T, B.d ++ s.drop F⟩ : Bld).l.length cp, str (⟨B.l, B.p ++ t.drop T, B.d ++ s.drop F⟩ : Bld).p, str (⟨B.l, B.p ++ t.drop T, B.d ++ s.drop F⟩ : Bld).d].toArray 109 (0, 0)) :: .row c cp 84 3 ((⟨B.l, B.p ++ t.drop T, B.d ++ s.drop F⟩ : Bld).l.map Stp.cs) :: H1) zpk ?_
      refine w_callF Try.func51 ?_ (hs := end_any ⟨B.l, B.p ++ t.drop T, B.d ++ s.drop F⟩ (by simp only; omega) _ _ _)
      rintro v m H2 ⟨rfl, rfl, c3, cp3, rfl⟩
      rw [← hrun]
      (try (refine st ?_; intros))
      exact q_fin0 (H0 := .row c3 cp3 84 3 (R.map Stp.cs) :: H1) ⟨rfl, c3, cp3, rfl, rfl⟩ (hd := zpk)
end Go.Proofs.Ytelgegefmjlimaa

/-
  The walks of the law's whole and of the law EditApplies. No condition.
-/
namespace Go.Eng
open Go
theorem whole_all {l : List Stp} {s t : List UInt8} {tt : Int} (hs : sizesOf l = some ((s.length : Int), tt)) (ha : applyA s (atomsOf l) = some t) :
    Fit (listOf (wholeA s t (goesA 0 (atomsOf (plainOf l))))) ∧ applyV s (listOf (wholeA s t (goesA 0 (atomsOf (plainOf l))))) = okV t ∧ (∀ x ∈ listOf (wholeA s t (goesA 0 (atomsOf (plainOf l)))), stpOk x) ∧
    EdgesOk s t 0 0 (listOf (wholeA s t (goesA 0 (atomsOf (plainOf l))))) ∧ fromA (atomsOf (listOf (wholeA s t (goesA 0 (atomsOf (plainOf l)))))) = s.length ∧ toA (atomsOf (listOf (wholeA s t (goesA 0 (atomsOf (plainOf l)))))) = t.length := by
  obtain ⟨hok, _, _, hfr, hto, _, _, _, _⟩ := sized hs
  have hpa := plain_apply l hok s
  rw [ha] at hpa
  have htl := apply_len _ _ _ ha
  obtain ⟨_, _, _, hpf, hpt, _, _, _, _⟩ := sized (plain_sizes hs)
  have W := goes_fit hpa (by omega)
  obtain ⟨h1, h2, h3, h4⟩ := whole_facts W
  obtain ⟨e1, e2⟩ := list_sizes (wholeA s t (goesA 0 (atomsOf (plainOf l))))
  exact ⟨fit_list (by omega) (by omega), apply_listV h1 h3 (by omega) (by omega), (list_ok _).1, h4, by omega, by omega⟩
theorem edges_at {s t : List UInt8} {R : List Stp} {i : Nat} {x : Stp} (h : EdgesOk s t 0 0 R) (hdr : R.drop i = x :: R.drop (i + 1)) (hx : 0 < x.k) :
    Reach s (fromA (atomsOf (R.take i))) ∧ Reach t (toA (atomsOf (R.take i))) ∧ Reach s (fromA (atomsOf (R.take i)) + x.k.toNat) ∧ Reach t (toA (atomsOf (R.take i)) + x.k.toNat) ∧ fromA (atomsOf (R.take i)) + x.k.toNat ≤ s.length ∧ toA (atomsOf (R.take i)) + x.k.toNat ≤ t.length := by
  have e : R = R.take i ++ x :: R.drop (i + 1) := by rw [← hdr, List.take_append_drop]
  rw [e] at h
  have h2 := ((edges_append _ _ _ _).1 h).2.1 hx
  rw [Nat.zero_add, Nat.zero_add] at h2
  exact h2
end Go.Eng
namespace Go.Proofs.Ytelgegefmjlimaa
open Go Go.Eng
set_option maxRecDepth 100000
set_option maxHeartbeats 4000000
set_option linter.all false
attribute [local irreducible] WL WC WQ QFun QLoop Does Q1 QRound QAssign Go.Addr.add
theorem sq_E37_1 {G : Prop} (h : G := by (repeat (first | (refine sp ?_; (repeat intro zzc)) | (refine iF 12 rfl ?_; refine w_callG Try.func12 ?_ (hs := live_any _ _ _)))); exact WQ.q1 rfl) : G := h
theorem st_E37_1 {G G' : Prop} (next : G') (h : Bx G' → G := by intro zzn; (first | ((refine st ?_; (repeat intro zzc)); (try ((first | (refine iF 12 rfl ?_; refine w_callG Try.func12 ?_ (hs := live_any _ _ _)) | ((refine iDraw ?_; (first | refine WC.drawAll rfl (by decide +kernel) ?_ | refine WC.draw 1 rfl (by decide +kernel) ?_ | refine WC.draw 2 rfl (by decide +kernel) ?_ | refine WC.draw 3 rfl (by decide +kernel) ?_ | refine WC.draw 4 rfl (by decide +kernel) ?_ | refine WC.draw 5 rfl (by decide +kernel) ?_ | refine WC.draw 6 rfl (by decide +kernel) ?_ | refine WC.draw 7 rfl (by decide +kernel) ?_ | refine WC.draw 8 rfl (by decide +kernel) ?_ | refine WC.draw 9 rfl (by decide +kernel) ?_ | refine WC.draw 10 rfl (by decide +kernel) ?_ | refine WC.draw 11 rfl (by decide +kernel) ?_ | refine WC.draw 12 rfl (by decide +kernel) ?_ | refine WC.draw 13 rfl (by decide +kernel) ?_ | refine WC.draw 14 rfl (by decide +kernel) ?_ | refine WC.draw 15 rfl (by decide +kernel) ?_ | refine WC.draw 16 rfl (by decide +kernel) ?_ | refine WC.draw 17 rfl (by decide +kernel) ?_ | refine WC.draw 18 rfl (by decide +kernel) ?_ | refine WC.draw 19 rfl (by decide +kernel) ?_ | refine WC.draw 20 rfl (by decide +kernel) ?_ | refine WC.draw 21 rfl (by decide +kernel) ?_ | refine WC.draw 22 rfl (by decide +kernel) ?_ | refine WC.draw 23 rfl (by decide +kernel) ?_ | refine WC.draw 24 rfl (by decide +kernel) ?_)); (repeat (refine WD.cons rfl (fun c h => by cases h) sq_E37_1 ?_)); refine WD.nil ?_)); (try (refine st ?_; (repeat intro zzc)))))) | ((first | (refine iF 12 rfl ?_; refine w_callG Try.func12 ?_ (hs := live_any _ _ _)) | ((refine iDraw ?_; (first | refine WC.drawAll rfl (by decide +kernel) ?_ | refine WC.draw 1 rfl (by decide +kernel) ?_ | refine WC.draw 2 rfl (by decide +kernel) ?_ | refine WC.draw 3 rfl (by decide +kernel) ?_ | refine WC.draw 4 rfl (by decide +kernel) ?_ | refine WC.draw 5 rfl (by decide +kernel) ?_ | refine WC.draw 6 rfl (by decide +kernel) ?_ | refine WC.draw 7 rfl (by decide +kernel) ?_ | refine WC.draw 8 rfl (by decide +kernel) ?_ | refine WC.draw 9 rfl (by decide +kernel) ?_ | refine WC.draw 10 rfl (by decide +kernel) ?_ | refine WC.draw 11 rfl (by decide +kernel) ?_ | refine WC.draw 12 rfl (by decide +kernel) ?_ | refine WC.draw 13 rfl (by decide +kernel) ?_ | refine WC.draw 14 rfl (by decide +kernel) ?_ | refine WC.draw 15 rfl (by decide +kernel) ?_ | refine WC.draw 16 rfl (by decide +kernel) ?_ | refine WC.draw 17 rfl (by decide +kernel) ?_ | refine WC.draw 18 rfl (by decide +kernel) ?_ | refine WC.draw 19 rfl (by decide +kernel) ?_ | refine WC.draw 20 rfl (by decide +kernel) ?_ | refine WC.draw 21 rfl (by decide +kernel) ?_ | refine WC.draw 22 rfl (by decide +kernel) ?_ | refine WC.draw 23 rfl (by decide +kernel) ?_ | refine WC.draw 24 rfl (by decide +kernel) ?_)); (repeat (refine WD.cons rfl (fun c h => by cases h) sq_E37_1 ?_)); refine WD.nil ?_)); (try (refine st ?_; (repeat intro zzc))))); (repeat ((first | (refine iF 12 rfl ?_; refine w_callG Try.func12 ?_ (hs := live_any _ _ _)) | ((refine iDraw ?_; (first | refine WC.drawAll rfl (by decide +kernel) ?_ | refine WC.draw 1 rfl (by decide +kernel) ?_ | refine WC.draw 2 rfl (by decide +kernel) ?_ | refine WC.draw 3 rfl (by decide +kernel) ?_ | refine WC.draw 4 rfl (by decide +kernel) ?_ | refine WC.draw 5 rfl (by decide +kernel) ?_ | refine WC.draw 6 rfl (by decide +kernel) ?_ | refine WC.draw 7 rfl (by decide +kernel) ?_ | refine WC.draw 8 rfl (by decide +kernel) ?_ | refine WC.draw 9 rfl (by decide +kernel) ?_ | refine WC.draw 10 rfl (by decide +kernel) ?_ | refine WC.draw 11 rfl (by decide +kernel) ?_ | refine WC.draw 12 rfl (by decide +kernel) ?_ | refine WC.draw 13 rfl (by decide +kernel) ?_ | refine WC.draw 14 rfl (by decide +kernel) ?_ | refine WC.draw 15 rfl (by decide +kernel) ?_ | refine WC.draw 16 rfl (by decide +kernel) ?_ | refine WC.draw 17 rfl (by decide +kernel) ?_ | refine WC.draw 18 rfl (by decide +kernel) ?_ | refine WC.draw 19 rfl (by decide +kernel) ?_ | refine WC.draw 20 rfl (by decide +kernel) ?_ | refine WC.draw 21 rfl (by decide +kernel) ?_ | refine WC.draw 22 rfl (by decide +kernel) ?_ | refine WC.draw 23 rfl (by decide +kernel) ?_ | refine WC.draw 24 rfl (by decide +kernel) ?_)); (repeat (refine WD.cons rfl (fun c h => by cases h) sq_E37_1 ?_)); refine WD.nil ?_)); (try (refine st ?_; (repeat intro zzc))))); (repeat revert zzc); exact zzn.out) : G := h ⟨next⟩
attribute [local irreducible] sizesOf applyV listOf plainOf wholeA goesA applyA wholeP
theorem whole2_any {pa : Option Addr} {ca : Nat} {a : List Stp} {s : List UInt8} (hsl : s.length ≤ 1048576) (hfa : Fit a) (w0 : World) (m : Mem) (H : SHeap) (hra : ∀ Hp, RowR w0 m Hp 3 pa (a.map Stp.cs)) :
    Does Try.prog 26 #[str s, .slice pa a.length ca] w0 m H (Gives (.bool true) m H) := by
  refine Does.of_body (args := [str s, .slice pa a.length ca]) Try.func26 rfl Try.ntmps26 rfl ?_
  have hla := hfa.len
  (try (refine st_E37_1 ?_; intros))
  refine w_callF Try.func13 ?_ (hs := ref_any hfa _ _ _ hra)
  rintro v m H2 ⟨rfl, (⟨hsm, c1, p1, rfl, rfl⟩ | ⟨hsm, rfl, rfl⟩)⟩
  · by_cases hsl2 : s.length ≤ 5000
    · (try (refine st_E37_1 ?_; intros))
      refine w_callF Try.func14 ?_ (hs := refSizes_any hfa _ _ _ (RowR.row (a := c1) zhs))
      rintro v m H1 ⟨rfl, rfl, rfl⟩
      have hwp := whole_any (a := pa) (cap := ca) (s := s) hfa (by omega)
      rcases whole_cases s a with ⟨e, he, h1, h2⟩ | ⟨t, tt, hs, ha, h1, h2⟩
      · rw [h2] at hwp
        cases hsa : sizesOf a with
        | none =>
          have e2 : e = 2 := by
            have : wholeP s a = .inl 2 := by unfold wholeP; rw [hsa]
            rw [this] at h2; cases h2; rfl
          subst e2
          rw [show szR none = .tuple #[.int .i64 0, .int .i64 0, .bool false] from rfl]
          (try (refine st_E37_1 ?_; intros))
          refine w_callF Try.func62 ?_ (hs := hwp _ _ _ (hra _))
          rintro v m H1 ⟨rfl, rfl, rfl⟩
          (try (refine st_E37_1 ?_; intros))
          exact q_fin0 (H0 := H) (Gives.mk rfl) (hd := zpk)
        | some ft =>
          obtain ⟨fa, ta⟩ := ft
          rw [show szR (some (fa, ta)) = .tuple #[.int .i64 fa, .int .i64 ta, .bool true] from rfl]
          (try (refine st_E37_1 ?_; intros))
          refine w_callF Try.func62 ?_ (hs := hwp _ _ _ (hra _))
          rintro v m H1 ⟨rfl, rfl, rfl⟩
          (try (refine st_E37_1 ?_; intros))
          refine w_callF Try.func58 ?_ (hs := rApply_any hfa hsa (by omega) _ _ _ (RowR.row (a := c1) zhs))
          rintro v m H1 ⟨rfl, rfl, rfl⟩
          rw [h1]
          have hee : e = e := rfl
          (try (refine st_E37_1 ?_; intros))
          exact q_fin0 (H0 := H) (Gives.mk rfl) (hd := zpk)
      · rw [h2] at hwp
        have hrw := rWhole_any (a := c1) (cap := p1) hfa hs ha (by omega)
        obtain ⟨hfr, hap, hok, hed, hA, hT⟩ := whole_all hs ha
        obtain ⟨_, _, _, _, _, _, _, hta0, htt⟩ := sized hs
        have htl := apply_len _ _ _ ha
        obtain ⟨_, _, _, _, hto, _, _, _, _⟩ := sized hs
        have hrl := hfr.len
        generalize listOf (wholeA s t (goesA 0 (atomsOf (plainOf a)))) = R at *
        rw [hs, show szR (some ((s.length : Int), tt)) = .tuple #[.int .i64 (s.length : Int), .int .i64 tt, .bool true] from rfl]
        (try (refine st_E37_1 ?_; intros))
        refine w_callF Try.func62 ?_ (hs := hwp _ _ _ (hra _))
        rintro v m H1 ⟨rfl, c2, p2, rfl, rfl⟩
        (try (refine st_E37_1 ?_; intros))
        refine w_callF Try.func58 ?_ (hs := rApply_any hfa hs (by omega) _ _ _ (RowR.row (a := c1) zhs))
        rintro v m H1 ⟨rfl, rfl, rfl⟩
        rw [h1, okV]
        (try (refine st_E37_1 ?_; intros))
        refine w_callF Try.func63 ?_ (hs := hrw _ _ _ (RowR.row (a := c1) zhs))
        rintro v m H1 ⟨rfl, c3, p3, rfl, rfl⟩
        (try (refine st_E37_1 ?_; intros))
        refine w_callF Try.func19 ?_ (hs := same_any (l := R) (by omega) _ _ _ (RowR.row (a := c2) zhs) (RowR.row (a := c3) zhs))
        rintro v m H1 ⟨rfl, rfl, rfl⟩
        (try (refine st_E37_1 ?_; intros))
        refine w_callF Try.func22 ?_ (hs := apply_any hfr (by omega) _ _ _ (RowR.row (a := c2) zhs))
        rintro v m H1 ⟨rfl, rfl, rfl⟩
        rw [hap, okV]
        (try (refine st_E37_1 ?_; intros))
        clear hwp hrw h1 h2 hs ha hsm hap hra hfa hla
        refine WC.loopH [(17, .int .i64 ((0) : Int)), (16, .int .i64 ((0) : Int)), (15, .int .i64 ((0) : Int)), (14, str t), (12, str t), (11, .int .i64 0), (10, .slice c2 R.length p2), (0, str s)] ?_ ?_ (fun j r ds m' H' => ∃ (i : Nat) (A : Nat) (g : Nat), j = R.length - i ∧ r = [(17, .int .i64 (i : Int)), (16, .int .i64 (g : Int)), (15, .int .i64 (A : Int)), (14, str t), (12, str t), (11, .int .i64 0), (10, .slice c2 R.length p2), (0, str s)] ∧ ds = [] ∧ m = m' ∧ H' = .row c2 p2 59 3 (R.map Stp.cs) :: H ∧ (i ≤ R.length) ∧ (A = fromA (atomsOf (R.take i))) ∧ (g = toA (atomsOf (R.take i)))) (R.length - (0)) ⟨0, 0, 0, rfl, rfl, rfl, rfl, rfl, Nat.zero_le _, by simp [atomsOf, fromA], by simp [atomsOf, toA]⟩ ?_
        · (repeat (first | exact Env.Sub.nil | refine Env.Sub.cons rfl ?_))
        · exact zpk
        rintro j r ds m' H' ⟨i, A, g, rfl, rfl, rfl, rfl, rfl, hi, hAi, hgi⟩
        have hRl : (R.map Stp.cs).length = R.length := by simp
        by_cases hlt : i < R.length
        · obtain ⟨x, hx, hget, htk, hmem, hdr⟩ := at_idx (f := Stp.cs) hlt
          have hxb := stp_bounds (hok x hmem)
          have hA1 : fromA (atomsOf (R.take (i + 1))) = A + (x.k.toNat + x.d.length) := by rw [htk, atoms_append, atoms_one, fromA_append, from_step, ← hAi]
          have hg1 : toA (atomsOf (R.take (i + 1))) = g + (x.k.toNat + x.p.length) := by rw [htk, atoms_append, atoms_one, toA_append, to_step, ← hgi]
          have hA2 : fromA (atomsOf (R.take (i + 1))) ≤ s.length := by
            have e : atomsOf R = atomsOf (R.take (i + 1)) ++ atomsOf (R.drop (i + 1)) := by rw [← atoms_append, List.take_append_drop]
            have := congrArg fromA e
            rw [fromA_append] at this; omega
          have hg2 : toA (atomsOf (R.take (i + 1))) ≤ t.length := by
            have e : atomsOf R = atomsOf (R.take (i + 1)) ++ atomsOf (R.drop (i + 1)) := by rw [← atoms_append, List.take_append_drop]
            have := congrArg toA e
            rw [toA_append] at this; omega
          rw [hA1] at hA2
          rw [hg1] at hg2
          have hea := fun h => edges_at hed hdr h
          rw [← hAi, ← hgi] at hea
          have eA : (A : Int) + (x.k + (x.d.length : Int)) = ((A + (x.k.toNat + x.d.length) : Nat) : Int) := by omega
          have eg : (g : Int) + (x.k + (x.p.length : Int)) = ((g + (x.k.toNat + x.p.length) : Nat) : Int) := by omega
          refine WC.rowSome (a := c2) (es := R.map Stp.cs) zhs (by omega) ?_
          rintro d2 rfl
          by_cases hk : 0 < x.k
          · obtain ⟨r1, r2, r3, r4, r5, r6⟩ := hea hk
            have ek1 : (A : Int) + x.k = ((A + x.k.toNat : Nat) : Int) := by omega
            have ek2 : (g : Int) + x.k = ((g + x.k.toNat : Nat) : Int) := by omega
            (try (refine st_E37_1 ?_; intros))
            refine w_callF Try.func57 ?_ (hs := edge_any s A (by omega) r1 (by omega) _ _ _)
            rintro v m H1 ⟨rfl, rfl, rfl⟩
            (try (refine st_E37_1 ?_; intros))
            refine w_callF Try.func57 ?_ (hs := edge_any t g (by omega) r2 (by omega) _ _ _)
            rintro v m H1 ⟨rfl, rfl, rfl⟩
            (try (refine st_E37_1 ?_; intros))
            rw [ek1]
            refine w_callF Try.func57 ?_ (hs := edge_any s (A + x.k.toNat) (by omega) r3 (by omega) _ _ _)
            rintro v m H1 ⟨rfl, rfl, rfl⟩
            (try (refine st_E37_1 ?_; intros))
            rw [ek2]
            refine w_callF Try.func57 ?_ (hs := edge_any t (g + x.k.toNat) (by omega) r4 (by omega) _ _ _)
            rintro v m H1 ⟨rfl, rfl, rfl⟩
            (try (refine st_E37_1 ?_; intros))
            rw [eA, eg]
            refine WQ.next (R.length - (i + 1)) ⟨i + 1, A + (x.k.toNat + x.d.length), g + (x.k.toNat + x.p.length), rfl, rfl, rfl, rfl, rfl, ?_, ?_, ?_⟩ (by omega) zsb zpk
            · omega
            · rw [hA1]
            · rw [hg1]
          · (try (refine st_E37_1 ?_; intros))
            rw [eA, eg]
            refine WQ.next (R.length - (i + 1)) ⟨i + 1, A + (x.k.toNat + x.d.length), g + (x.k.toNat + x.p.length), rfl, rfl, rfl, rfl, rfl, ?_, ?_, ?_⟩ (by omega) zsb zpk
            · omega
            · rw [hA1]
            · rw [hg1]
        · have htq : t = t := rfl
          (try (refine st_E37_1 ?_; intros))
          exact q_fin0 (H0 := H) (Gives.mk (show Value.bool (dcd ((0 : Int) = 0)) = Value.bool true from congrArg Value.bool (dcd_true rfl))) (hd := zpk)
    · (try (refine st_E37_1 ?_; intros))
      exact q_fin0 (H0 := H) (Gives.mk rfl) (hd := zpk)
  · (try (refine st_E37_1 ?_; intros))
    exact q_fin0 (H0 := H2) (Gives.mk rfl) (hd := zpk)
theorem editApplies_any {pa : Option Addr} {ca : Nat} {a : List Stp} {s : List UInt8} (hsl : s.length ≤ 1048576) (hfa : Fit a) (w0 : World) (m : Mem) (H : SHeap) (hra : ∀ Hp, RowR w0 m Hp 3 pa (a.map Stp.cs)) :
    Does Try.prog 6 #[str s, .slice pa a.length ca] w0 m H (fun v m' _ => v = .bool true ∧ m.le m') := by
  refine Does.of_body (args := [str s, .slice pa a.length ca]) Try.func6 rfl Try.ntmps6 rfl ?_
  (try (refine st_E37_1 ?_; intros))
  refine w_callF Try.func24 ?_ (hs := applies_any hsl hfa _ _ _ hra)
  rintro v m H1 ⟨rfl, rfl, rfl⟩
  (try (refine st_E37_1 ?_; intros))
  refine w_callF Try.func25 ?_ (hs := inverts_any hsl hfa _ _ _ hra)
  rintro v m H1 ⟨rfl, rfl, rfl⟩
  (try (refine st_E37_1 ?_; intros))
  refine w_callF Try.func26 ?_ (hs := whole2_any hsl hfa _ _ _ hra)
  rintro v m H1 ⟨rfl, rfl, rfl⟩
  (try (refine st_E37_1 ?_; intros))
  (refine q_fin0 ?_)
  exact ⟨rfl, Mem.le.refl _⟩
end Go.Proofs.Ytelgegefmjlimaa

/-
  What the law EditApplies stands on, in one text. No condition.
-/

