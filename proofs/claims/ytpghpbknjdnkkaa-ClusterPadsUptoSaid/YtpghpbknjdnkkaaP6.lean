/-
  Parts of a walk, joined: CT8 CT9 CT11 C24 EngQ EngQS. No condition.
-/
import Derived.Test.YtpghpbknjdnkkaaP5
import Derived.Lib.IndexLaws
import Derived.Test.YtpghpbknjdnkkaaP2
import Derived.ChangeMaps5
import Derived.ReadAgain
import Derived.ChangeBook
import Derived.Deep.Slices
import Derived.WalkKit
import Derived.ProofKit
import Derived.OpenShut
import Derived.JoinedCond
import Derived.Test.YtpghpbknjdnkkaaP4
set_option linter.all false
/-
  Plain facts: a text parted where a cluster begins. No condition.
-/
namespace Go.Eng
open Go
theorem run_take {h : Nat} : ∀ {q : Pc} {rest : List Pc} {P : List Pc}, P <+: rest.drop (runC h q rest) → runC h q (rest.take (runC h q rest) ++ P) = runC h q rest
  | q, [], P, hp => by
    have : P = [] := by simpa [runC] using hp
    subst this; rfl
  | q, x :: xs, P, hp => by
    by_cases hg : Glue h q x
    · rw [run_step hg] at hp ⊢
      rw [List.drop_succ_cons] at hp
      rw [List.take_succ_cons, List.cons_append, run_step hg, run_take hp]
    · rw [run_stop hg] at hp ⊢
      rw [List.drop_zero] at hp
      rw [List.take_zero, List.nil_append]
      cases P with
      | nil => rfl
      | cons y ys =>
        obtain ⟨t, ht⟩ := hp
        have : y = x := by simp at ht; exact ht.1
        subst this
        exact run_stop hg
/-- pieces whose clusters come in two parts -/
theorem go_part : ∀ {A B : List Cl} {ps : List Pc}, clGo none ps = A ++ B → ∃ P Q, ps = P ++ Q ∧ clGo none P = A ∧ clGo none Q = B
  | [], B, ps, h => ⟨[], ps, rfl, rfl, h⟩
  | a :: A, B, [], h => by cases h
  | a :: A, B, p :: rest, h => by
    rw [clGo_cons, List.cons_append, List.cons.injEq] at h
    obtain ⟨h1, h2⟩ := h
    obtain ⟨P, Q, h3, h4, h5⟩ := go_part h2
    refine ⟨p :: (rest.take (runC (kindP p) p rest) ++ P), Q, ?_, ?_, h5⟩
    · rw [List.cons_append, List.append_assoc, ← h3, List.take_append_drop]
    · have hr : runC (kindP p) p (rest.take (runC (kindP p) p rest) ++ P) = runC (kindP p) p rest := run_take ⟨Q, h3.symm⟩
      have hle := runC_le (kindP p) p rest
      have hl : (rest.take (runC (kindP p) p rest)).length = runC (kindP p) p rest := by rw [List.length_take]; omega
      rw [clGo_cons, hr, List.take_append_of_le_length (by omega), List.take_take, Nat.min_self, h1, List.drop_append_of_le_length (by omega), List.drop_of_length_le (by omega), List.nil_append, h4]
def Cl.sub (n : Nat) (c : Cl) : Cl := ⟨c.a - n, c.z - n, c.c⟩
theorem glue_sub {h n : Nat} {q p : Pc} : Glue h (q.sub n) (p.sub n) ↔ Glue h q p := Iff.rfl
theorem go_sub (n : Nat) : ∀ (ps : List Pc) (s : Option (Cl × Nat × Pc)), (∀ p ∈ ps, n ≤ p.at_) → clGo (s.map fun x => (x.1.sub n, x.2.1, x.2.2.sub n)) (ps.map fun p => p.sub n) = (clGo s ps).map (Cl.sub n)
  | [], none, _ => rfl
  | [], some s, _ => rfl
  | p :: ps, none, hp => by
    have h1 := hp p List.mem_cons_self
    have ih := go_sub n ps (some (headC p, kindP p, p)) (fun q hq => hp q (List.mem_cons_of_mem _ hq))
    rw [clGo_none, ← ih]
    have e : headC (p.sub n) = (headC p).sub n := by
      show (⟨p.at_ - n, p.at_ - n + p.w, colP p⟩ : Cl) = ⟨p.at_ - n, p.at_ + p.w - n, colP p⟩
      rw [show p.at_ - n + p.w = p.at_ + p.w - n by omega]
    show clGo (some (headC (p.sub n), kindP p, p.sub n)) _ = _
    rw [e]; rfl
  | p :: ps, some (c, h, q), hp => by
    have h1 := hp p List.mem_cons_self
    have hps : ∀ q ∈ ps, n ≤ q.at_ := fun q hq => hp q (List.mem_cons_of_mem _ hq)
    by_cases hg : Glue h q p
    · have ih := go_sub n ps (some (c.ext p, h, p)) hps
      rw [clGo_glue hg, ← ih]
      show clGo (some (c.sub n, h, q.sub n)) (p.sub n :: _) = _
      rw [clGo_glue (glue_sub.2 hg)]
      have e : (c.sub n).ext (p.sub n) = (c.ext p).sub n := by
        show (⟨c.a - n, p.at_ - n + p.w, max c.c (colP p)⟩ : Cl) = ⟨c.a - n, p.at_ + p.w - n, max c.c (colP p)⟩
        rw [show p.at_ - n + p.w = p.at_ + p.w - n by omega]
      rw [e]; rfl
    · have ih := go_sub n ps (some (headC p, kindP p, p)) hps
      rw [clGo_free hg]
      show clGo (some (c.sub n, h, q.sub n)) (p.sub n :: _) = c.sub n :: (clGo (some (headC p, kindP p, p)) ps).map (Cl.sub n)
      rw [← ih]
      rw [clGo_free (fun g => hg (glue_sub.1 g))]
      have e : headC (p.sub n) = (headC p).sub n := by
        show (⟨p.at_ - n, p.at_ - n + p.w, colP p⟩ : Cl) = ⟨p.at_ - n, p.at_ + p.w - n, colP p⟩
        rw [show p.at_ - n + p.w = p.at_ + p.w - n by omega]
      rw [e]; rfl
/-- where a text is parted -/
def startOf (l : List UInt8) : List Cl → Nat
  | [] => l.length
  | b :: _ => b.a
theorem from_ge (l : List UInt8) : ∀ (d k : Nat), l.length - k ≤ d → ∀ p ∈ from_ l k, k ≤ p.at_
  | 0, k, h, p, hp => by rw [from_nil (by omega)] at hp; cases hp
  | d + 1, k, h, p, hp => by
    by_cases hk : k < l.length
    · have hw := readP_w hk
      rw [from_cons hk] at hp
      rcases List.mem_cons.1 hp with rfl | hp
      · rw [readP_at]; omega
      · have := from_ge l d _ (by omega) p hp; omega
    · rw [from_nil hk] at hp; cases hp
theorem cl_part {l : List UInt8} {A B : List Cl} (h : clusters l = A ++ B) : startOf l B ≤ l.length ∧ clusters (l.take (startOf l B)) = A ∧ clusters (l.drop (startOf l B)) = B.map (Cl.sub (startOf l B)) := by
  obtain ⟨P, Q, h1, h2, h3⟩ := go_part h
  have hQ : startOf l B ≤ l.length ∧ Q = from_ l (startOf l B) := by
    cases Q with
    | nil =>
      have : B = [] := h3.symm
      subst this
      exact ⟨Nat.le_refl _, by rw [show startOf l [] = l.length from rfl, from_nil (by omega)]⟩
    | cons q qs =>
      have hsp := pieces_split h1
      rw [clGo_cons] at h3
      subst h3
      have e : startOf l ((qs.take (runC (kindP q) q qs)).foldl Cl.ext (headC q) :: clGo none (qs.drop (runC (kindP q) q qs))) = q.at_ := (ext_fold _ _).1
      rw [e]
      exact ⟨by omega, hsp.2.2.1⟩
  obtain ⟨hle, hQ⟩ := hQ
  rw [hQ] at h1
  refine ⟨hle, ?_, ?_⟩
  · unfold clusters; rw [pieces_take hle h1]; exact h2
  · unfold clusters
    rw [pieces_drop, ← hQ]
    have := go_sub (startOf l B) Q none (by rw [hQ]; exact from_ge l _ _ (Nat.le_refl _))
    rw [h3] at this
    exact this
/-- what is cut off, as a part of the clusters -/
theorem cut_part {k : Int} : ∀ {s0 n0 : Nat} {L : List Cl}, Ch s0 L n0 → ∀ (s : Nat), (s : Int) ≤ k → ∃ A B, L = A ++ B ∧ (cutC L s s0 k).1 = s + sumC A ∧ Ch s0 A (cutC L s s0 k).2 ∧ Ch (cutC L s s0 k).2 B n0 ∧ (∀ c cs, B = c :: cs → k < ((s + sumC A + c.c : Nat) : Int))
  | s0, n0, [], h, s, hs => ⟨[], [], rfl, rfl, rfl, h, fun c cs e => by cases e⟩
  | s0, n0, c :: cs, h, s, hs => by
    have h' := h
    obtain ⟨h1, h2, h3, h4⟩ := h
    by_cases hc : k < ((s + c.c : Nat) : Int)
    · have e : cutC (c :: cs) s s0 k = (s, s0) := if_pos hc
      rw [e]
      exact ⟨[], c :: cs, rfl, rfl, rfl, h', fun x xs e => by cases e; exact hc⟩
    · have e : cutC (c :: cs) s s0 k = cutC cs (s + c.c) c.z k := if_neg hc
      rw [e]
      obtain ⟨A, B, g1, g2, g3, g4, g5⟩ := cut_part (k := k) h4 (s + c.c) (by omega)
      refine ⟨c :: A, B, by rw [g1]; rfl, by rw [g2, sumC_cons]; omega, ⟨h1, h2, h3, g3⟩, g4, fun x xs e => ?_⟩
      have := g5 x xs e
      rw [sumC_cons]; omega
theorem start_ch {l : List UInt8} {B : List Cl} {q : Nat} (h : Ch q B l.length) : startOf l B = q := by
  cases B with
  | nil => exact (show q = l.length from h).symm
  | cons b bs => exact h.1
theorem cut_all (l : List UInt8) (k : Int) : ∃ A B, clusters l = A ++ B ∧ (cutL l k).1 = sumC A ∧ clusters (l.take (cutL l k).2) = A ∧ clusters (l.drop (cutL l k).2) = B.map (Cl.sub (cutL l k).2) ∧ Ch (cutL l k).2 B l.length ∧ (∀ c cs, B = c :: cs → max k 0 < ((sumC A + c.c : Nat) : Int)) := by
  obtain ⟨A, B, h1, h2, h3, h4, h5⟩ := cut_part (k := max k 0) (ch_all l) 0 (by omega)
  obtain ⟨g1, g2, g3⟩ := cl_part h1
  have e : startOf l B = (cutL l k).2 := start_ch h4
  rw [e] at g2 g3
  rw [Nat.zero_add] at h2
  exact ⟨A, B, h1, h2, g2, g3, h4, fun c cs e => by have := h5 c cs e; omega⟩
theorem cut_head_sum (l : List UInt8) (k : Int) : sumC (clusters (l.take (cutL l k).2)) = (cutL l k).1 := by
  obtain ⟨A, B, h1, h2, h3, _⟩ := cut_all l k
  rw [h3, h2]
end Go.Eng

/-
  Plain facts: what each part of a text is, as clusters; the clusters of a cluster's own text. No condition.
-/
namespace Go.Eng
open Go
def endOf (A : List Cl) : Nat := ((A.getLast?).map Cl.z).getD 0
end Go.Eng

/-
  Plain facts: blanks ahead of a text and behind it add their own columns alone. No condition.
-/
namespace Go.Eng
open Go
def Bl (p : Pc) : Prop := p.r = 32 ∧ p.b = false
theorem kind_blank : kindN 32 = 5 := by decide
theorem wide_blank : ¬ Wide 32 := by decide
theorem bl_kind {p : Pc} (h : Bl p) : kindP p = 5 := by rw [kindP_r h.2, h.1, kind_blank]
theorem bl_col {p : Pc} (h : Bl p) : colP p = 1 := by
  unfold colP
  rw [bl_kind h, if_neg (by decide), if_neg (by decide), h.1, if_neg wide_blank]
theorem bl_free {h : Nat} {q p : Pc} (hp : Bl p) : ¬ Glue h q p := by
  have hk := bl_kind hp
  have hr := hp.1
  rintro (g | ⟨_, _, g⟩)
  · omega
  · omega
def sumG (ps : List Pc) : Nat := sumC (clGo none ps)
theorem go_cut : ∀ (ps : List Pc) (s : Option (Cl × Nat × Pc)) {p : Pc} {qs : List Pc}, (∀ h q, ¬ Glue h q p) → clGo s (ps ++ p :: qs) = clGo s ps ++ clGo none (p :: qs)
  | [], none, p, qs, h => rfl
  | [], some (c, h', q), p, qs, h => by
    rw [List.nil_append, clGo_free (h h' q)]; rfl
  | x :: ps, none, p, qs, h => by
    rw [List.cons_append, clGo_none, clGo_none]; exact go_cut ps _ h
  | x :: ps, some (c, h', q), p, qs, h => by
    by_cases hg : Glue h' q x
    · rw [List.cons_append, clGo_glue hg, clGo_glue hg]; exact go_cut ps _ h
    · rw [List.cons_append, clGo_free hg, clGo_free hg, go_cut ps _ h]; rfl
theorem sum_blanks : ∀ {bl : List Pc}, (∀ p ∈ bl, Bl p) → sumG bl = bl.length
  | [], _ => rfl
  | [p], h => by
    have hp := h p List.mem_cons_self
    show colP p + 0 = 1
    rw [bl_col hp]
  | p :: x :: bl, h => by
    have hx := h x (by simp)
    have ih := sum_blanks (bl := x :: bl) (fun q hq => h q (List.mem_cons_of_mem _ hq))
    have e : clGo none (p :: x :: bl) = clGo none [p] ++ clGo none (x :: bl) := go_cut [p] none (fun _ _ => bl_free hx)
    unfold sumG at ih ⊢
    rw [e, sumC_app, ih]
    show colP p + 0 + _ = _
    rw [bl_col (h p List.mem_cons_self), List.length_cons, List.length_cons, List.length_cons]; omega
theorem sum_behind {ps bl : List Pc} (h : ∀ p ∈ bl, Bl p) : sumG (ps ++ bl) = sumG ps + bl.length := by
  cases bl with
  | nil => simp
  | cons p bl =>
    have e : clGo none (ps ++ p :: bl) = clGo none ps ++ clGo none (p :: bl) := go_cut ps none (fun _ _ => bl_free (h p List.mem_cons_self))
    have hb := sum_blanks h
    unfold sumG at hb ⊢
    rw [e, sumC_app, hb]
/-- what is taken without columns -/
theorem taken_col {h : Nat} {q p : Pc} (hq : q.r ≠ 13) (hh : h ≠ 10) (hg : Glue h q p) : colP p = 0 ∧ p.r ≠ 13 ∧ (kindP p = 2 ∨ kindP p = 9) := by
  have h13 := glue_not13 hq hg
  rcases hg with g | ⟨_, hb, g⟩
  · exact absurd g.1 hq
  · have hk : kindP p = 2 ∨ kindP p = 9 := by
      rcases g with g | g | g
      · exact .inl g
      · right; rw [kindP_r hb, g, kind_zwj]
      · exact absurd g.1 hh
    refine ⟨?_, h13, hk⟩
    unfold colP
    rw [if_neg (by omega), if_pos (by omega)]
theorem sum_mark : ∀ (ps : List Pc) (c : Cl) (h : Nat) (q : Pc), c.c = 0 → (h = 2 ∨ h = 9) → q.r ≠ 13 → sumC (clGo (some (c, h, q)) ps) = sumG ps
  | [], c, h, q, hc, _, _ => by show c.c + 0 = 0; rw [hc]
  | p :: ps, c, h, q, hc, hh, hq => by
    by_cases hg : Glue h q p
    · obtain ⟨h1, h2, h3⟩ := taken_col hq (by omega) hg
      rw [clGo_glue hg, sum_mark ps (c.ext p) h p (by show max c.c (colP p) = 0; omega) hh h2]
      exact (sum_mark ps (headC p) (kindP p) p h1 h3 h2).symm
    · rw [clGo_free hg, sumC_cons, hc, Nat.zero_add]; rfl
theorem sum_front : ∀ (ps : List Pc) (c : Cl) (q : Pc), c.c = 1 → q.r ≠ 13 → sumC (clGo (some (c, 5, q)) ps) = 1 + sumG ps
  | [], c, q, hc, _ => by show c.c + 0 = 1 + 0; rw [hc]
  | p :: ps, c, q, hc, hq => by
    by_cases hg : Glue 5 q p
    · obtain ⟨h1, h2, h3⟩ := taken_col hq (by omega) hg
      rw [clGo_glue hg, sum_front ps (c.ext p) p (by show max c.c (colP p) = 1; omega) h2]
      congr 1
      exact (sum_mark ps (headC p) (kindP p) p h1 h3 h2).symm
    · rw [clGo_free hg, sumC_cons, hc]; rfl
theorem sum_ahead : ∀ {bl ps : List Pc}, (∀ p ∈ bl, Bl p) → sumG (bl ++ ps) = bl.length + sumG ps
  | [], ps, _ => by simp
  | [p], ps, h => by
    have hp := h p List.mem_cons_self
    show sumC (clGo (some (headC p, kindP p, p)) ps) = _
    rw [bl_kind hp, sum_front ps _ p (bl_col hp) (by rw [hp.1]; decide)]; rfl
  | p :: x :: bl, ps, h => by
    have hx := h x (by simp)
    have ih := sum_ahead (bl := x :: bl) (ps := ps) (fun q hq => h q (List.mem_cons_of_mem _ hq))
    have e : clGo none (p :: x :: bl ++ ps) = clGo none [p] ++ clGo none (x :: bl ++ ps) := go_cut [p] none (fun _ _ => bl_free hx)
    unfold sumG at ih ⊢
    rw [e, sumC_app, ih]
    show colP p + 0 + _ = _
    rw [bl_col (h p List.mem_cons_self)]
    simp only [List.length_cons]; omega
/-- blanks in a text -/
theorem from_blanks (L : List UInt8) (e : Nat) (he : e ≤ L.length) : ∀ (d j : Nat), e - j ≤ d → j ≤ e → (∀ i, j ≤ i → i < e → gb L i = 32) → ∃ bl, bl.length = e - j ∧ (∀ p ∈ bl, Bl p) ∧ from_ L j = bl ++ from_ L e
  | 0, j, hd, hj, h => by
    obtain rfl : j = e := by omega
    exact ⟨[], by simp, by simp, rfl⟩
  | d + 1, j, hd, hj, h => by
    rcases Nat.lt_or_eq_of_le hj with hlt | rfl
    · have hjl : j < L.length := by omega
      have hr : (readP L j).r = 32 := (first_byte hjl (by omega)).1 (h j (Nat.le_refl _) hlt)
      have hbw : (readP L j).b = false ∧ (readP L j).w = 1 := by
        unfold readP at hr ⊢
        split
        · rename_i hx; rw [if_pos hx] at hr; cases hr
        · rename_i hx
          rw [if_neg hx] at hr
          refine ⟨rfl, ?_⟩
          rcases dl_cases (L.drop j) (by simp; omega) with ⟨_, h2, _⟩ | ⟨h2, _⟩
          · simp only at hr ⊢; rw [h2, hr]; decide
          · exact absurd h2 hx
      obtain ⟨bl, b1, b2, b3⟩ := from_blanks L e he d (j + 1) (by omega) (by omega) (fun i h1 h2 => h i (by omega) h2)
      refine ⟨readP L j :: bl, by rw [List.length_cons, b1]; omega, ?_, ?_⟩
      · intro p hp
        rcases List.mem_cons.1 hp with rfl | hp
        · exact ⟨hr, hbw.1⟩
        · exact b2 p hp
      · rw [from_cons hjl, hbw.2, b3]; rfl
    · exact ⟨[], by simp, by simp, rfl⟩
theorem sum_from (L : List UInt8) (n : Nat) : sumG (from_ L n) = sumC (clusters (L.drop n)) := by
  have h := go_sub n (from_ L n) none (from_ge L _ _ (Nat.le_refl _))
  unfold clusters sumG
  rw [pieces_drop]
  rw [show clGo none ((from_ L n).map fun p => p.sub n) = (clGo none (from_ L n)).map (Cl.sub n) from h]
  unfold sumC
  rw [List.map_map]; rfl
theorem gb_app_left {A B : List UInt8} {i : Nat} (h : i < A.length) : gb (A ++ B) i = gb A i := by
  simp [gb, nb, List.getD_eq_getElem?_getD, List.getElem?_append_left h]
theorem gb_app_right {A B : List UInt8} {i : Nat} (h : A.length ≤ i) : gb (A ++ B) i = gb B (i - A.length) := by
  simp [gb, nb, List.getD_eq_getElem?_getD, List.getElem?_append_right h]
theorem gb_blank {k i : Nat} (h : i < k) : gb (blanks k) i = 32 := by
  simp [gb, nb, blanks, List.getD_eq_getElem?_getD, h]
theorem pad_front (k : Nat) (Y : List UInt8) : sumC (clusters (blanks k ++ Y)) = k + sumC (clusters Y) := by
  have hl := blanks_length k
  obtain ⟨bl, b1, b2, b3⟩ := from_blanks (blanks k ++ Y) k (by rw [List.length_append, hl]; omega) k 0 (by omega) (by omega) (fun i _ h2 => by rw [gb_app_left (by omega), gb_blank h2])
  have h1 := sum_ahead (ps := from_ (blanks k ++ Y) k) b2
  have h2 := sum_from (blanks k ++ Y) k
  rw [List.drop_append_of_le_length (by omega), List.drop_of_length_le (by omega), List.nil_append] at h2
  rw [← b3, h2, b1, Nat.sub_zero] at h1
  exact h1
theorem pad_behind (X : List UInt8) (k : Nat) : sumC (clusters (X ++ blanks k)) = sumC (clusters X) + k := by
  have hl := blanks_length k
  have hL : (X ++ blanks k).length = X.length + k := by rw [List.length_append, hl]
  rcases Nat.eq_zero_or_pos k with rfl | hk
  · have : blanks 0 = [] := rfl
    rw [this, List.append_nil]; rfl
  · have hr : Reach (X ++ blanks k) X.length := reach_lead (by omega) (.inl (by rw [gb_app_right (Nat.le_refl _), Nat.sub_self, gb_blank hk]; decide)) X.length 0 (by omega) (Nat.zero_le _) (Reach.zero _)
    obtain ⟨pre, hpre⟩ := hr
    have ht := pieces_take (by omega) hpre
    rw [List.take_append_of_le_length (Nat.le_refl _), List.take_length] at ht
    obtain ⟨bl, b1, b2, b3⟩ := from_blanks (X ++ blanks k) (X.length + k) (by omega) k X.length (by omega) (by omega) (fun i h1 h2 => by rw [gb_app_right h1, gb_blank (by omega)])
    rw [from_nil (l := X ++ blanks k) (k := X.length + k) (by omega), List.append_nil] at b3
    have h1 := sum_behind (ps := pre) b2
    unfold clusters
    rw [hpre, b3, ht]
    have e : sumG (pre ++ bl) = sumC (clGo none (pre ++ bl)) := rfl
    rw [← e, h1, b1]; unfold sumG; omega
theorem pad_sum (A B : Nat) (T : List UInt8) : sumC (clusters (blanks A ++ T ++ blanks B)) = A + sumC (clusters T) + B := by
  rw [pad_behind, pad_front]
theorem index_in (A T B : List UInt8) : 0 ≤ Lib.index (A ++ T ++ B) T := by
  have hocc : Lib.occAt (A ++ T ++ B) T A.length = true := by
    unfold Lib.occAt
    rw [List.append_assoc, List.drop_append_of_le_length (Nat.le_refl _), List.drop_length, List.nil_append]
    simp
  have hmin : ∃ i, i ≤ A.length ∧ Lib.occAt (A ++ T ++ B) T i = true ∧ ∀ j, j < i → Lib.occAt (A ++ T ++ B) T j = false := by
    have : ∀ n, Lib.occAt (A ++ T ++ B) T n = true → ∃ i, i ≤ n ∧ Lib.occAt (A ++ T ++ B) T i = true ∧ ∀ j, j < i → Lib.occAt (A ++ T ++ B) T j = false := by
      intro n
      induction n using Nat.strongRecOn with
      | ind n ih =>
        intro hn
        by_cases h : ∃ j, j < n ∧ Lib.occAt (A ++ T ++ B) T j = true
        · obtain ⟨j, h1, h2⟩ := h
          obtain ⟨i, i1, i2, i3⟩ := ih j h1 h2
          exact ⟨i, by omega, i2, i3⟩
        · refine ⟨n, Nat.le_refl _, hn, fun j hj => ?_⟩
          cases hh : Lib.occAt (A ++ T ++ B) T j with
          | false => rfl
          | true => exact absurd ⟨j, hj, hh⟩ h
    exact this _ hocc
  obtain ⟨i, h1, h2, h3⟩ := hmin
  rw [Lib.index_first (by simp; omega) h2 h3]
  exact Int.natCast_nonneg _
end Go.Eng

/-
  The walk of the law ClusterPads. No condition.
-/
namespace Go.Eng
open Go
/-- what is padded, told as the law asks it -/
theorem pads_all (l : List UInt8) (k side : Int) (h : ¬ (side < 1 ∨ 3 < side ∨ k < 0)) : ((sumC (clusters (padT l k side)) : Nat) : Int) = k ∧ ((padT l k side).length : Int) = ((l.take (cutL l k).2).length : Int) + k - ((cutL l k).1 : Int) ∧
    (side = 1 → Lib.hasPrefix (padT l k side) (l.take (cutL l k).2) = true) ∧ (side = 2 → Lib.hasSuffix (padT l k side) (l.take (cutL l k).2) = true) ∧ 0 ≤ Lib.index (padT l k side) (l.take (cutL l k).2) := by
  have hcl := cutL_le l k
  have hs := cut_head_sum l k
  obtain ⟨lack, hlack⟩ : ∃ lack : Nat, (k - ((cutL l k).1 : Int)) = (lack : Int) := ⟨(k - ((cutL l k).1 : Int)).toNat, by omega⟩
  unfold padT
  rw [hlack]
  generalize l.take (cutL l k).2 = T at *
  generalize (cutL l k).1 = n at *
  have hah : aheadOf side lack ≤ lack := by unfold aheadOf; split <;> (try split) <;> omega
  refine ⟨?_, ?_, ?_, ?_, index_in _ _ _⟩
  · rw [pad_sum, hs, Int.toNat_natCast]; omega
  · simp only [List.length_append, blanks_length, Int.toNat_natCast]; omega
  · rintro rfl
    have e : aheadOf 1 lack = 0 := by unfold aheadOf; rw [if_neg (by omega), if_neg (by omega)]
    rw [e]
    unfold Lib.hasPrefix
    rw [show blanks 0 ++ T = T from rfl]
    simp
  · rintro rfl
    have e : aheadOf 2 lack = lack := by unfold aheadOf; rw [if_pos rfl]; omega
    rw [e, Int.toNat_natCast, Nat.sub_self]
    unfold Lib.hasSuffix
    rw [show blanks 0 = [] from rfl, List.append_nil]
    simp
end Go.Eng
namespace Go.Proofs.Ytpghpbknjdnkkaa
open Go Go.Eng
set_option maxRecDepth 100000
set_option maxHeartbeats 4000000
set_option linter.all false
attribute [local irreducible] WL WC WQ QFun QLoop Does Q1 QRound QAssign Go.Addr.add
attribute [local irreducible] clusters cutL padV padT Lib.index Lib.hasPrefix Lib.hasSuffix
theorem clusterPads_any (l : List UInt8) (k side : Int) (hl : l.length ≤ 1048576) (w0 : World) (m : Mem) (H : SHeap) (hg : GInt 0 m) :
    Does Try.prog 10 #[str l, .int .i64 k, .int .i64 side] w0 m H (fun v m' _ => v = .bool true ∧ m.le m') := by
  refine Does.of_body (args := [str l, .int .i64 k, .int .i64 side]) Try.func10 rfl Try.ntmps10 rfl ?_
  have hcl := cutL_le l k
  have htl : (l.take (cutL l k).2).length = (cutL l k).2 := by rw [List.length_take]; omega
  (try (refine st ?_; intros))
  refine w_callF Try.func11 ?_ (hs := works_any _ _ _)
  rintro v m1 H ⟨hle1, rfl, rfl⟩
  (try (refine st ?_; intros))
  refine w_callF Try.func14 ?_ (hs := pad_any l (by omega) k side _ _ _)
  rintro v m2 H ⟨hle2, rfl, rfl⟩
  have hm2 : m.le m2 := hle1.trans hle2
  unfold padV
  by_cases h1 : side < 1 ∨ 3 < side ∨ k < 0
  · rw [if_pos h1]
    have hq : ([] : List UInt8) = [] := rfl
    (try (refine st ?_; intros))
    refine w_callF Try.func11 ?_ (hs := works_true hm2 _ _)
    rintro v m9 H ⟨hle9, rfl, rfl⟩
    (try (refine st ?_; intros))
    exact q_fin0 (H0 := H) ⟨rfl, hle9⟩ (hd := zpk)
  rw [if_neg h1]
  by_cases h2 : 65536 < k
  · rw [if_pos h2]
    have hq : ([] : List UInt8) = [] := rfl
    (try (refine st ?_; intros))
    refine w_callF Try.func11 ?_ (hs := works_true hm2 _ _)
    rintro v m9 H ⟨hle9, rfl, rfl⟩
    (try (refine st ?_; intros))
    exact q_fin0 (H0 := H) ⟨rfl, hle9⟩ (hd := zpk)
  rw [if_neg h2]
  obtain ⟨p1, p2, p3, p4, p5⟩ := pads_all l k side h1
  (try (refine st ?_; intros))
  refine w_callF Try.func12 ?_ (hs := cut_any l (by omega) k _ _ _)
  rintro v m3 H ⟨hle3, rfl, rfl⟩
  have hm3 : m.le m3 := hm2.trans hle3
  generalize padT l k side = P at *
  generalize hT : l.take (cutL l k).2 = T at *
  have hPl : P.length ≤ 4194304 := by omega
  (try (refine st ?_; intros))
  refine w_callF Try.func16 ?_ (hs := columnsT_any P hPl _ _ _)
  rintro v m4 H ⟨hle4, rfl, rfl⟩
  have hm4 : m.le m4 := hm3.trans hle4
  (try (refine st ?_; intros))
  refine w_callF Try.func36 ?_ (hs := stringsIndex_any (by omega) (hg.le hm4))
  rintro v m4 H ⟨rfl, rfl, rfl⟩
  have hs3 : side = 1 ∨ side = 2 ∨ side = 3 := by omega
  rcases hs3 with rfl | rfl | rfl
  · have p3' := p3 rfl
    (try (refine st ?_; intros))
    refine w_callF Try.func37 ?_ (hs := hasPrefix_any _ _ _)
    rintro v m4 H ⟨rfl, rfl, rfl⟩
    rw [p3']
    (try (refine st ?_; intros))
    refine w_callF Try.func11 ?_ (hs := works_true hm4 _ _)
    rintro v m9 H ⟨hle9, rfl, rfl⟩
    (try (refine st ?_; intros))
    exact q_fin0 (H0 := H) ⟨rfl, hle9⟩ (hd := zpk)
  · have p4' := p4 rfl
    (try (refine st ?_; intros))
    refine w_callF Try.func38 ?_ (hs := hasSuffix_any (by omega) _ _ _)
    rintro v m4 H ⟨rfl, rfl, rfl⟩
    rw [p4']
    (try (refine st ?_; intros))
    refine w_callF Try.func11 ?_ (hs := works_true hm4 _ _)
    rintro v m9 H ⟨hle9, rfl, rfl⟩
    (try (refine st ?_; intros))
    exact q_fin0 (H0 := H) ⟨rfl, hle9⟩ (hd := zpk)
  · (try (refine st ?_; intros))
    refine w_callF Try.func11 ?_ (hs := works_true hm4 _ _)
    rintro v m9 H ⟨hle9, rfl, rfl⟩
    (try (refine st ?_; intros))
    exact q_fin0 (H0 := H) ⟨rfl, hle9⟩ (hd := zpk)
end Go.Proofs.Ytpghpbknjdnkkaa

/-
  A walk's engine, sixteenth part: how a law's arguments are read, ahead of the call and behind it. No condition.
-/
set_option linter.all false
namespace Go.Eng
open Go Go.RowKit Go.ChangeShapes Go.WideShapes Go.ChangeMaps
section
variable {H : Type} {enc : TypeId × Value → H} {P : Program}
theorem same_below {W W' : World} (hb : Below W.heap.size W W') {p : MemPlace} (hp : p.block < W.heap.size) : W.sameAt W' p := by
  cases p with
  | cell b off =>
    have h := hb.block b hp
    show W'.cell? ⟨b, off, none⟩ = W.cell? ⟨b, off, none⟩
    simp only [World.cell?, h]
  | map b => exact hb.block b hp
theorem trod_again {W W' : World} {sp : Nat → Bool} {t : TypeId} {v : Value} {d : DataW H} {p : List MemPlace} (hl : laidOutB P = true) (ht : t < P.types.size) (hr : P.readableRec t = true)
    (h : DataW.Trod enc P W 0 (fun _ => true) true t v d p) (hlt : ∀ q ∈ p, q.block < W.heap.size) (hb : Below W.heap.size W W') (hs : ∀ q ∈ p, sp q.block = true) : DataW.Trod enc P W' 0 sp true t v d p := by
  obtain ⟨n, hn⟩ := h
  have h1 := DataW.trod_carry (w' := W') n _ _ _ hn (fun q hq => same_below hb (hlt q hq))
  exact ⟨n, DataW.trod_respare (kids_book hl hr) (fun t e hT hu => book_sized hr hT hu) n _ _ _ ⟨ht, book_self t⟩ h1 hs⟩
theorem args_again {W W' : World} {sp : Nat → Bool} (hl : laidOutB P = true) (hb : Below W.heap.size W W') : ∀ {ts : List TypeId} {vs : List Value} {ds : List (DataW H)} {p : List MemPlace},
    (∀ t ∈ ts, t < P.types.size ∧ P.readableRec t = true) → DataW.TrodAll enc P W 0 (fun _ => true) true ts vs ds p → (∀ q ∈ p, sp q.block = true) → DataW.TrodAll enc P W' 0 sp true ts vs ds p
  | [], [], [], _, _, h, _ => h
  | t :: ts, v :: vs, d :: ds, p, hts, h, hs => by
    have hlt := DataW.TrodAll.lt h
    obtain ⟨a, b, h1, h2, e⟩ := h
    subst e
    obtain ⟨g1, g2⟩ := hts t List.mem_cons_self
    exact ⟨a, b, trod_again hl g1 g2 h1 (fun q hq => hlt q (List.mem_append_left _ hq)) hb (fun q hq => hs q (List.mem_append_left _ hq)),
      args_again hl hb (fun t ht => hts t (List.mem_cons_of_mem _ ht)) h2 (fun q hq => hs q (List.mem_append_right _ hq)), rfl⟩
/-- a law that says true, and leaves all that it was handed -/
theorem post_true {f : Func} {s : ChangeSpec} {apart fresh handsOn again : Bool} {W W' : World} {args : Array Value} {ds gs : List (DataW H)} {before : List MemPlace} {tb : TypeId}
    (hW : DataW.Whole enc P f.params.toList s.vars apart W args.toList ds gs before) (hvars : s.vars = []) (hfn : s.fn H (ds ++ gs) = { results := [.lit (.bool true)], args := ds })
    (hres : f.resultTypes = #[tb]) (htb : P.underlying tb = some .bool) (hl : laidOutB P = true) (hts : (f.params.toList.all fun t => decide (t < P.types.size) && P.readableRec t) = true) (hb : Below W.heap.size W W') :
    s.post enc P f apart fresh handsOn again W args (.bool true) W' := by
  have hW2 := hW
  obtain ⟨p, q, hA, hV, e, _, _⟩ := hW
  rw [hvars] at hV
  obtain ⟨rfl, rfl⟩ := trodVars_none hV
  rw [List.append_nil] at e
  subst e
  have hts' : ∀ t ∈ f.params.toList, t < P.types.size ∧ P.readableRec t = true := fun t ht => by simpa using List.all_eq_true.1 hts t ht
  refine post_below (pa := before) (pv := []) hW2 (fun _ _ _ => ?_) (fun sp hs => ?_) (fun _ _ => ?_) (by simp) hb ?_
  · rw [hfn, hres]; exact trodAll_cons_mk (shut_bool htb _) trodAll_mk0
  · rw [hfn]; exact args_again hl hb hts' hA hs
  · rw [hfn, hvars]; rfl
  · intro j t r h1 h2
    rw [hres] at h1 h2
    match j, h1 with
    | 0, h1 =>
      simp at h1; subst h1
      simp [Value.resultList] at h2
      subst h2
      exact okWide_bool_mk htb _
end
end Go.Eng

/-
  A law's conditions, the world's shape kept: for laws that reach a variable of the library's. No condition.
-/
set_option linter.all false
namespace Go.Eng
open Go Go.RowKit Go.ChangeShapes
theorem gint_of {w : World} {g : Nat} (h : ∃ z, w.cell? ⟨g, 0, none⟩ = some (.int .i64 z)) : GInt g (memOf w) := by
  obtain ⟨z, hz⟩ := h
  unfold World.cell? at hz
  cases ho : w.heap[g]? with
  | none => simp [ho] at hz
  | some o =>
    cases o <;> simp [ho] at hz
    case cells cs T fz => exact ⟨cs, T, fz, z, ho, hz⟩
theorem returnsInHanded_of_condS {H : Type} {enc : TypeId × Value → H} {a : Assume} {C : Checked} {os : Os} {f : FuncId} {fn : Func} {s : OpenSpec} {k : (H : Type) → List (DataW H) → Bool} (hk : s.cond = some k) {F : Stop.Interp} {conds : List PathCond} {apart fresh handsOn again : Bool}
    (own : ownKnob C.prog.godebug = none) (started : os.Started) (noInit : C.prog.inits.idxOf? f = none) (hfn : C.prog.funcs[f]? = some fn)
    (witness : ∃ (w : World) (tape : Tape) (i : Input), w.os = os ∧ (w.forCall tape i).Shaped C.prog ∧ i.vars = [] ∧ Input.okWide C.prog (w.forCall tape i) .any w.heap.size f i ∧
      s.pre6 enc C.prog fn conds apart (w.forCall tape i).memory i.args ∧ a.holds C.prog (lone (Frame.enter C.prog f i.args .normal) [] (w.forCall tape i)))
    (contract : ∀ (W : World) (base : Nat) (args : Array Value) (ds gs : List (DataW H)) (before : List MemPlace),
      (∀ (j : Nat) t v, fn.params[j]? = some t → args[j]? = some v → Value.okWide C.prog W .any base t v) →
      DataW.Whole enc C.prog fn.params.toList s.vars apart W args.toList ds gs before →
      conds.all (PathCond.test C.prog ⟨fn.params.toList, ds, s.bare.plain.varTypes C.prog, gs⟩) = true → k H (ds ++ gs) = true → W.ShapedOpen C.prog →
      a.holds C.prog (lone (Frame.enter C.prog f args .normal) [] W) →
      Calls C.prog f args W fun e W' => ∃ v, e = .returned v ∧ (s.at F).post enc C.prog fn apart fresh handsOn again W args v W') :
    ReturnsInHanded a C os f .any (s.pre6 enc C.prog fn conds apart) ((s.at F).post enc C.prog fn apart fresh handsOn again) := by
  refine returnsInHanded_of_calls own started noInit witness ?_
  intro w tape i _ hsh _ hok hpre hholds
  obtain ⟨_, _, _, fn', hfn', _, _, _, _, hval⟩ := hok
  have e : fn' = fn := Option.some.inj (hfn'.symm.trans hfn)
  subst e
  obtain ⟨ds, gs, before, hw, hc, hkk⟩ := (OpenSpec.pre_some hk conds apart _ _).1 hpre.1
  have hw' := DataW.Whole.of_heap (w' := w.forCall tape i) (by rfl) hw
  refine (contract (w.forCall tape i) w.heap.size i.args ds gs before hval hw' hc hkk hsh hholds).mono fun e W' ⟨v, he, hp⟩ => ?_
  subst he
  exact ChangeSpec.post_blind hp
end Go.Eng

