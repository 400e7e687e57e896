/-
  Parts of a walk, joined: ET13 E15 E18 E5 E7 E3 E11 E16 ET14 E20 E10 ET15. No condition.
-/
import Derived.Test.YtelgegefmjlimaaP4
/-
  Plain facts on changes: carried over each other they come to one text; one behind the other the same. No condition.
-/
namespace Go.Eng
open Go
/-- what a change makes does not depend on the order of what is put and dropped -/
theorem apply_congr (X Y : List Atm) (h : ∀ s, applyA s X = applyA s Y) : ∀ (pre : List Atm) (s : List UInt8), applyA s (pre ++ X) = applyA s (pre ++ Y)
  | [], s => h s
  | .p b :: pre, s => by rw [List.cons_append, List.cons_append, applyA_p, applyA_p, apply_congr X Y h pre s]
  | .k :: pre, [] => rfl
  | .k :: pre, c :: s => by rw [List.cons_append, List.cons_append, applyA, applyA, apply_congr X Y h pre s]
  | .d b :: pre, [] => rfl
  | .d b :: pre, c :: s => by rw [List.cons_append, List.cons_append, applyA, applyA, apply_congr X Y h pre s]
theorem applyA_dc (c b : UInt8) (s : List UInt8) (l : List Atm) : applyA (c :: s) (.d b :: l) = if c = b then applyA s l else none := rfl
theorem apply_swap (c : UInt8) (L : List Atm) : ∀ (ds s : List UInt8), applyA s (ds.map .d ++ .p c :: L) = applyA s (.p c :: (ds.map .d ++ L))
  | [], s => rfl
  | b :: ds, [] => by rw [applyA_p]; rfl
  | b :: ds, e :: s => by
    rw [List.map_cons, List.cons_append, List.cons_append, applyA_dc, apply_swap c L ds s, applyA_p, applyA_p, applyA_dc]
    split <;> rfl
theorem apply_atom (g : Gs) (a : Atm) (L : List Atm) (s : List UInt8) : applyA s (nfOf (g.atom a) ++ L) = applyA s (nfOf g ++ a :: L) := by
  cases a with
  | k => simp [Gs.atom, nfOf, gapA]
  | d c => simp [Gs.atom, nfOf, gapA]
  | p c =>
    simp only [Gs.atom, nfOf, gapA, List.map_append, List.map_cons, List.map_nil, List.append_assoc, List.cons_append, List.nil_append]
    rw [← List.append_assoc, ← List.append_assoc (g.done.flatMap _)]
    exact apply_congr _ _ (fun s => (apply_swap c L g.cur.d s).symm) _ s
theorem apply_run : ∀ (L : List Atm) (g : Gs) (s : List UInt8), applyA s (nfOf (g.run L)) = applyA s (nfOf g ++ L)
  | [], g, s => by rw [List.append_nil]; rfl
  | a :: L, g, s => by
    rw [show g.run (a :: L) = (g.atom a).run L from rfl, apply_run L (g.atom a) s, apply_atom]
theorem apply_start (L : List Atm) (s : List UInt8) : applyA s (nfOf (Gs.start.run L)) = applyA s L := apply_run L Gs.start s
theorem apply_nf (l : List Stp) (h : ∀ s ∈ l, stpOk s) (s : List UInt8) : applyA s (nfOf (gapsOf l)) = applyA s (atomsOf l) := by rw [gapsOf_run l h, apply_start]
/-- the builder over bytes is the builder over gaps -/
theorem bld_atom (g : Gs) (a : Atm) : (bldGs g).atom a = bldGs (g.atom a) := by
  cases a with
  | k => simp [Bld.atom, bldGs, Gs.atom, bldGap]
  | d c => simp [Bld.atom, bldGs, Gs.atom]
  | p c => simp [Bld.atom, bldGs, Gs.atom]
theorem bld_run : ∀ (L : List Atm) (g : Gs), (bldGs g).run L = bldGs (g.run L)
  | [], _ => rfl
  | a :: L, g => by
    rw [show g.run (a :: L) = (g.atom a).run L from rfl, ← bld_run L (g.atom a), ← bld_atom]; rfl
theorem start_run (L : List Atm) : Bld.start.run L = bldGs (Gs.start.run L) := bld_run L Gs.start
/-- the list that a builder makes of bytes -/
def listOf (L : List Atm) : List Stp := (Bld.start.run L).close.l
theorem list_ok (L : List Atm) : (∀ s ∈ listOf L, stpOk s) ∧ atomsOf (listOf L) = nfOf (Gs.start.run L) := by
  unfold listOf
  rw [start_run]
  exact ⟨close_ok _ (bldGs_atoms _).2, by rw [close_atoms, (bldGs_atoms _).1]⟩
theorem run_nf (g : Gs) : Gs.start.run (nfOf g) = g := by
  have h : ∀ (l : List Gap) (D : List Gap), (⟨D, ⟨[], []⟩⟩ : Gs).run (l.flatMap fun x => gapA x ++ [.k]) = ⟨D ++ l, ⟨[], []⟩⟩ := by
    intro l
    induction l with
    | nil => intro D; simp [Gs.run]
    | cons x l ih =>
      intro D
      rw [List.flatMap_cons, grun_append, grun_append, gapA, grun_append, grun_p, grun_d]
      have : (⟨D, ⟨[] ++ x.p, [] ++ x.d⟩⟩ : Gs).run [.k] = ⟨D ++ [x], ⟨[], []⟩⟩ := by simp [Gs.run, Gs.atom]
      rw [this, ih]; simp
  obtain ⟨D, c⟩ := g
  unfold nfOf
  rw [grun_append, show Gs.start = ⟨[], ⟨[], []⟩⟩ from rfl, h, gapA, grun_append, grun_p, grun_d]
  simp
theorem list_sizes (L : List Atm) : fromA (atomsOf (listOf L)) = fromA L ∧ toA (atomsOf (listOf L)) = toA L := by
  obtain ⟨h1, h2⟩ := nf_run L Gs.start
  rw [(list_ok L).2, h1, h2]
  simp [Gs.start, nfOf, gapA, fromA, toA]
theorem plain_list (l : List Stp) : plainOf l = listOf (nfOf (gapsOf l)) := plain_run l
/-- sizes of a change that may be, the other way round -/
theorem sizesF_of : ∀ (l : List Stp) (f t : Int), (∀ s ∈ l, stpOk s) → 0 ≤ f → 0 ≤ t → f + (fromA (atomsOf l) : Int) ≤ maxT → t + (toA (atomsOf l) : Int) ≤ maxT → sizesF l f t = some (f + (fromA (atomsOf l) : Int), t + (toA (atomsOf l) : Int))
  | [], f, t, _, _, _, _, _ => by simp [sizesF, atomsOf, fromA, toA]
  | s :: l, f, t, h, h1, h2, h3, h4 => by
    have hs := h s List.mem_cons_self
    have hk : 0 ≤ s.k := by rcases hs with ⟨h, _, _⟩ | ⟨h, _, _⟩ | ⟨h, _, _⟩ <;> omega
    rw [atoms_cons] at h3 h4 ⊢
    rw [fromA_append, from_step] at h3 ⊢
    rw [toA_append, to_step] at h4 ⊢
    rw [sizesF, if_pos ⟨hs, by omega, by omega, by omega⟩, sizesF_of l _ _ (fun x hx => h x (List.mem_cons_of_mem _ hx)) (by omega) (by omega) (by omega) (by omega)]
    simp only [Option.some.injEq, Prod.mk.injEq]
    omega
theorem sizesOf_of {l : List Stp} (h : ∀ s ∈ l, stpOk s) (h1 : fromA (atomsOf l) ≤ 65536) (h2 : toA (atomsOf l) ≤ 65536) : sizesOf l = some ((fromA (atomsOf l) : Int), (toA (atomsOf l) : Int)) := by
  unfold sizesOf
  rw [sizesF_of l 0 0 h (by omega) (by omega) (by unfold maxT; omega) (by unfold maxT; omega)]
  simp
theorem sizes_list (L : List Atm) (h1 : fromA L ≤ 65536) (h2 : toA L ≤ 65536) : sizesOf (listOf L) = some ((fromA L : Int), (toA L : Int)) := by
  obtain ⟨e1, e2⟩ := list_sizes L
  rw [sizesOf_of (list_ok L).1 (by omega) (by omega), e1, e2]
theorem apply_list (L : List Atm) (s : List UInt8) : applyA s (atomsOf (listOf L)) = applyA s L := by rw [(list_ok L).2, apply_start]
/-- how many bytes a change makes of a text -/
theorem apply_len : ∀ (A : List Atm) (s t : List UInt8), applyA s A = some t → t.length = toA A
  | [], s, t, h => by rw [applyA_nil] at h; cases h; rfl
  | .p b :: A, s, t, h => by
    rw [applyA_p] at h
    obtain ⟨t', h', rfl⟩ := Option.map_eq_some_iff.1 h
    simp [toA, apply_len A s t' h']
  | .k :: A, [], t, h => by cases h
  | .k :: A, c :: s, t, h => by
    rw [applyA] at h
    obtain ⟨t', h', rfl⟩ := Option.map_eq_some_iff.1 h
    simp [toA, apply_len A s t' h']
  | .d b :: A, [], t, h => by cases h
  | .d b :: A, c :: s, t, h => by
    rw [applyA] at h
    split at h
    · simpa [toA] using apply_len A s t h
    · cases h
end Go.Eng

/-
  The walk of the program's Compose: two changes, one behind the other. No condition.
-/
namespace Go.Eng
open Go Go.RowKit
def nowS : List Stp → Stp
  | [] => ⟨0, [], []⟩
  | s :: _ => s
/-- what two changes come to, one behind the other -/
def comP (a b : List Stp) : Int ⊕ List Stp := match sizesOf a, sizesOf b with
  | some (_, mid), some (from_, _) => if mid ≠ from_ then .inl 5 else match cmpT Bld.start (nfOf (gapsOf a)) (nfOf (gapsOf b)) with
    | none => .inl 270
    | some l => .inr l
  | _, _ => .inl 2
theorem Out.mem {i : Item} {H H' : SHeap} (h : Out i H H') : i ∈ H := h.perm.mem_iff.2 List.mem_cons_self
section
variable {P : Program} {ro : Option Nat} {n : Nat} {w0 : World} {Q : Exit → Act → World → Prop} {r : Env} {ds : List Nat} {m : Mem} {H : SHeap}
end
end Go.Eng
namespace Go.Proofs.Ytelgegefmjlimaa
open Go Go.Eng
set_option maxRecDepth 100000
set_option maxHeartbeats 4000000
set_option linter.all false
attribute [local irreducible] WL WC WQ QFun QLoop Does Q1 QRound QAssign Go.Addr.add
attribute [local irreducible] sizesF sizesOf cmpT
end Go.Proofs.Ytelgegefmjlimaa

/-
  The walk of the program's Carry: two changes carried over each other. No condition.
-/
namespace Go.Eng
open Go Go.RowKit
def PairP (T : TypeId) (r : Int ⊕ (List Stp × List Stp)) (k : IntKind) (m : Mem) (H : SHeap) : Value → Mem → SHeap → Prop := fun v m' H' => m' = m ∧ match r with
  | .inl e => v = .tuple #[.slice none 0 0, .slice none 0 0, .int k e] ∧ H' = H
  | .inr (l1, l2) => ∃ c cp c2 cp2, v = .tuple #[.slice c l1.length cp, .slice c2 l2.length cp2, .int k 0] ∧ H' = .row c cp T 3 (l1.map Stp.cs) :: .row c2 cp2 T 3 (l2.map Stp.cs) :: H
end Go.Eng
namespace Go.Proofs.Ytelgegefmjlimaa
open Go Go.Eng
set_option maxRecDepth 100000
set_option maxHeartbeats 4000000
set_option linter.all false
attribute [local irreducible] WL WC WQ QFun QLoop Does Q1 QRound QAssign Go.Addr.add
attribute [local irreducible] sizesF sizesOf carT
end Go.Proofs.Ytelgegefmjlimaa

/-
  The walks of package edit, fifth part: the end of the maker of the reference. No condition.
-/
namespace Go.Proofs.Ytelgegefmjlimaa
open Go Go.Eng
set_option maxRecDepth 100000
set_option maxHeartbeats 4000000
set_option linter.all false
attribute [local irreducible] WL WC WQ QFun QLoop Does Q1 QRound QAssign Go.Addr.add
theorem end_any {b : Nat} {c : Option Addr} {cp : Nat} (B : Bld) (hB : B.l.length ≤ 1000000000000) (w0 : World) (m : Mem) (H : SHeap) :
    Does Try.prog 51 #[.pointer (some ⟨b, 0, none⟩)] w0 m (.blk b (.cells [.slice c B.l.length cp, str B.p, str B.d].toArray 109 (0, 0)) :: .row c cp 84 3 (B.l.map Stp.cs) :: H)
      (fun v m' H' => v = .tuple #[] ∧ m' = m ∧ ∃ c' cp', H' = .blk b (.cells [.slice c' B.close.l.length cp', str [], str []].toArray 109 (0, 0)) :: .row c' cp' 84 3 (B.close.l.map Stp.cs) :: H) := by
  refine Does.of_body (args := [.pointer (some ⟨b, 0, none⟩)]) Try.func51 rfl Try.ntmps51 rfl ?_
  have hml : (B.l.map Stp.cs).length = B.l.length := by simp
  by_cases hp : B.p = [] <;> by_cases hd : B.d = []
  · (try (refine st ?_; intros))
    have e : B.close.l = B.l := by simp [Bld.close, hp, hd]
    rw [hp, hd]
    exact q_finNorm0 (H0 := .blk b (.cells [.slice c B.l.length cp, str [], str []].toArray 109 (0, 0)) :: .row c cp 84 3 (B.l.map Stp.cs) :: H) ⟨rfl, rfl, c, cp, by rw [e]⟩ (hd := zpk)
  · (try (refine st ?_; intros))
    refine WC.drawE 14 ([.blk b (.cells [.slice c B.l.length cp, str B.p, str B.d].toArray 109 (0, 0))]) (.row c cp 84 3 (B.l.map Stp.cs) :: H) rfl (by decide +kernel) zpk ?_
    (refine cm0 ?_)
    refine WE.act1 10 (by decide +kernel) rfl rfl (fun c h => by cases h) ?_
    (refine st ?_; intros; rename_i q0)
    refine WQ.acted (B := []) (U := .blk q0 (.cells [.int .i64 0, str B.d, str []].toArray 84 (0, 0)) :: .row c cp 84 3 (B.l.map Stp.cs) :: H) rfl (Mem.le.refl _) zpk ?_
    refine WE.act1 11 (by decide +kernel) rfl rfl (fun c h => by cases h) ?_
    (refine st ?_; intros; rename_i c2 cp2)
    refine WQ.acted (B := []) (U := .row c2 cp2 84 3 (B.l.map Stp.cs ++ [[.int .i64 0, str B.d, str []]]) :: H) rfl (Mem.le.refl _) zpk ?_
    (refine cm0 ?_)
    refine WE.done (by decide +kernel) ?_
    (try (refine st ?_; intros))
    rw [hml, hp]
    have e : B.close.l = B.l ++ [⟨0, B.d, []⟩] := by simp [Bld.close, hp, hd]
    exact q_finNorm0 (H0 := .blk b (.cells [.slice c2 (B.l.length + 1) cp2, str [], str []].toArray 109 (0, 0)) :: .row c2 cp2 84 3 (B.l.map Stp.cs ++ [[.int .i64 0, str B.d, str []]]) :: H) ⟨rfl, rfl, c2, cp2, by rw [e]; simp [Stp.cs]⟩ (hd := zpk)
  · (try (refine st ?_; intros))
    refine WC.drawE 14 ([.blk b (.cells [.slice c B.l.length cp, str B.p, str B.d].toArray 109 (0, 0))]) (.row c cp 84 3 (B.l.map Stp.cs) :: H) rfl (by decide +kernel) zpk ?_
    (refine cm0 ?_)
    refine WE.act1 10 (by decide +kernel) rfl rfl (fun c h => by cases h) ?_
    (refine st ?_; intros; rename_i q0)
    refine WQ.acted (B := []) (U := .blk q0 (.cells [.int .i64 0, str [], str B.p].toArray 84 (0, 0)) :: .row c cp 84 3 (B.l.map Stp.cs) :: H) rfl (Mem.le.refl _) zpk ?_
    refine WE.act1 11 (by decide +kernel) rfl rfl (fun c h => by cases h) ?_
    (refine st ?_; intros; rename_i c2 cp2)
    refine WQ.acted (B := []) (U := .row c2 cp2 84 3 (B.l.map Stp.cs ++ [[.int .i64 0, str [], str B.p]]) :: H) rfl (Mem.le.refl _) zpk ?_
    (refine cm0 ?_)
    refine WE.done (by decide +kernel) ?_
    (try (refine st ?_; intros))
    rw [hml, hd]
    have e : B.close.l = B.l ++ [⟨0, [], B.p⟩] := by simp [Bld.close, hp, hd]
    exact q_finNorm0 (H0 := .blk b (.cells [.slice c2 (B.l.length + 1) cp2, str [], str []].toArray 109 (0, 0)) :: .row c2 cp2 84 3 (B.l.map Stp.cs ++ [[.int .i64 0, str [], str B.p]]) :: H) ⟨rfl, rfl, c2, cp2, by rw [e]; simp [Stp.cs]⟩ (hd := zpk)
  · have hml1 : (B.l.map Stp.cs ++ [[.int .i64 0, str [], str B.p]]).length = B.l.length + 1 := by simp
    (try (refine st ?_; intros))
    refine WC.drawE 14 ([.blk b (.cells [.slice c B.l.length cp, str B.p, str B.d].toArray 109 (0, 0))]) (.row c cp 84 3 (B.l.map Stp.cs) :: H) rfl (by decide +kernel) zpk ?_
    (refine cm0 ?_)
    refine WE.act1 10 (by decide +kernel) rfl rfl (fun c h => by cases h) ?_
    (refine st ?_; intros; rename_i q0)
    refine WQ.acted (B := []) (U := .blk q0 (.cells [.int .i64 0, str [], str B.p].toArray 84 (0, 0)) :: .row c cp 84 3 (B.l.map Stp.cs) :: H) rfl (Mem.le.refl _) zpk ?_
    refine WE.act1 11 (by decide +kernel) rfl rfl (fun c h => by cases h) ?_
    (refine st ?_; intros; rename_i c2 cp2)
    refine WQ.acted (B := []) (U := .row c2 cp2 84 3 (B.l.map Stp.cs ++ [[.int .i64 0, str [], str B.p]]) :: H) rfl (Mem.le.refl _) zpk ?_
    (refine cm0 ?_)
    refine WE.done (by decide +kernel) ?_
    (try (refine st ?_; intros))
    rw [hml]
    refine WC.drawE 14 ([.blk b (.cells [.slice c2 (B.l.length + 1) cp2, str B.p, str B.d].toArray 109 (0, 0))]) (.row c2 cp2 84 3 (B.l.map Stp.cs ++ [[.int .i64 0, str [], str B.p]]) :: H) rfl (by decide +kernel) zpk ?_
    (refine cm0 ?_)
    refine WE.act1 10 (by decide +kernel) rfl rfl (fun c h => by cases h) ?_
    (refine st ?_; intros; rename_i q0)
    refine WQ.acted (B := []) (U := .blk q0 (.cells [.int .i64 0, str B.d, str []].toArray 84 (0, 0)) :: .row c2 cp2 84 3 (B.l.map Stp.cs ++ [[.int .i64 0, str [], str B.p]]) :: H) rfl (Mem.le.refl _) zpk ?_
    refine WE.act1 11 (by decide +kernel) rfl rfl (fun c h => by cases h) ?_
    (refine st ?_; intros; rename_i c3 cp3)
    refine WQ.acted (B := []) (U := .row c3 cp3 84 3 (B.l.map Stp.cs ++ [[.int .i64 0, str [], str B.p]] ++ [[.int .i64 0, str B.d, str []]]) :: H) rfl (Mem.le.refl _) zpk ?_
    (refine cm0 ?_)
    refine WE.done (by decide +kernel) ?_
    (try (refine st ?_; intros))
    rw [hml1]
    have e : B.close.l = B.l ++ [⟨0, [], B.p⟩] ++ [⟨0, B.d, []⟩] := by simp [Bld.close, hp, hd]
    exact q_finNorm0 (H0 := .blk b (.cells [.slice c3 (B.l.length + 1 + 1) cp3, str [], str []].toArray 109 (0, 0)) :: .row c3 cp3 84 3 (B.l.map Stp.cs ++ [[.int .i64 0, str [], str B.p]] ++ [[.int .i64 0, str B.d, str []]]) :: H) ⟨rfl, rfl, c3, cp3, by rw [e]; simp [Stp.cs]⟩ (hd := zpk)
end Go.Proofs.Ytelgegefmjlimaa

/-
  The walks of package edit, seventh part: the keep of the maker of the reference. No condition.
-/
namespace Go.Proofs.Ytelgegefmjlimaa
open Go Go.Eng
set_option maxRecDepth 100000
set_option maxHeartbeats 4000000
set_option linter.all false
attribute [local irreducible] WL WC WQ QFun QLoop Does Q1 QRound QAssign Go.Addr.add
theorem mkeep_any {b : Nat} {c : Option Addr} {cp : Nat} (B : Bld) (n : Nat) (hn : n ≤ 100000000000) (hB : BFit 100000000000 B) (w0 : World) (m : Mem) (H : SHeap) :
    Does Try.prog 50 #[.pointer (some ⟨b, 0, none⟩), .int .i64 (n : Int)] w0 m (.blk b (.cells [.slice c B.l.length cp, str B.p, str B.d].toArray 109 (0, 0)) :: .row c cp 84 3 (B.l.map Stp.cs) :: H)
      (fun v m' H' => v = .tuple #[] ∧ m' = m ∧ ∃ c' cp', H' = .blk b (.cells [.slice c' (B.keep n).l.length cp', str (B.keep n).p, str (B.keep n).d].toArray 109 (0, 0)) :: .row c' cp' 84 3 ((B.keep n).l.map Stp.cs) :: H) := by
  refine Does.of_body (args := [.pointer (some ⟨b, 0, none⟩), .int .i64 (n : Int)]) Try.func50 rfl Try.ntmps50 rfl ?_
  have hlen := hB.len
  by_cases h0 : n = 0
  · subst h0
    (try (refine st ?_; intros))
    exact q_fin0 (H0 := .blk b (.cells [.slice c B.l.length cp, str B.p, str B.d].toArray 109 (0, 0)) :: .row c cp 84 3 (B.l.map Stp.cs) :: H) ⟨rfl, rfl, c, cp, rfl⟩ (hd := zpk)
  · (try (refine st ?_; intros))
    refine w_callF Try.func51 ?_ (hs := end_any B (by omega) _ _ _)
    rintro v m1 H1 ⟨rfl, rfl, c1, cp1, rfl⟩
    have hkeep : B.keep n = ⟨addKeep B.close.l n, [], []⟩ := by unfold Bld.keep; rw [if_neg (by omega)]
    have hc := hB.close
    rw [hkeep]
    have hcl := hc.len
    have hck := hc.k
    generalize B.close.l = L at *
    have hml : (L.map Stp.cs).length = L.length := by simp
    rcases snoc_cases L with hL | ⟨ys, s, hL⟩
    · have hl0 : L.length = 0 := by rw [hL]; rfl
      (refine st ?_; intros; rename_i x2 c2 cp2)
      rw [hml]
      have e : addKeep L n = L ++ [⟨n, [], []⟩] := by rw [hL]; rfl
      exact q_finNorm0 (H0 := .blk b (.cells [.slice c2 (L.length + 1) cp2, str [], str []].toArray 109 (0, 0)) :: .row c2 cp2 84 3 (L.map Stp.cs ++ [[.int .i64 n, str [], str []]]) :: H) ⟨rfl, rfl, c2, cp2, by rw [e]; simp [Stp.cs]⟩ (hd := zpk)
    · have hl1 : L.length = ys.length + 1 := by rw [hL]; simp
      have hget : (L.map Stp.cs)[L.length - 1]? = some s.cs := by rw [hL]; simp
      have hsk := hck s (by rw [hL]; simp)
      refine WL.rowSome (a := c1) zhs (by omega) ?_
      rintro c0 rfl
      by_cases hs : 0 < s.k
      · (try (refine st ?_; intros))
        have e : (addKeep L n).length = L.length ∧ (addKeep L n).map Stp.cs = (L.map Stp.cs).set (L.length - 1) [.int .i64 (s.k + n), str s.d, str s.p] := by
          rw [hL]; constructor <;> simp [addKeep, hs, Stp.cs]
        exact q_fin0 (H0 := .blk b (.cells [.slice (some c0) L.length cp1, str [], str []].toArray 109 (0, 0)) :: .row (some c0) cp1 84 3 ((L.map Stp.cs).set (L.length - 1) [.int .i64 (s.k + n), str s.d, str s.p]) :: H) ⟨rfl, rfl, some c0, cp1, by rw [e.1, e.2]⟩ (hd := zpk)
      · (refine st ?_; intros; rename_i x2 c2 cp2)
        rw [hml]
        have e : addKeep L n = L ++ [⟨n, [], []⟩] := by rw [hL]; simp [addKeep, hs]
        exact q_finNorm0 (H0 := .blk b (.cells [.slice c2 (L.length + 1) cp2, str [], str []].toArray 109 (0, 0)) :: .row c2 cp2 84 3 (L.map Stp.cs ++ [[.int .i64 n, str [], str []]]) :: H) ⟨rfl, rfl, c2, cp2, by rw [e]; simp [Stp.cs]⟩ (hd := zpk)
end Go.Proofs.Ytelgegefmjlimaa

/-
  The walks of package edit, third part: the sizes of a change, by the reference. No condition.
-/
namespace Go.Proofs.Ytelgegefmjlimaa
open Go Go.Eng
set_option maxRecDepth 100000
set_option maxHeartbeats 4000000
set_option linter.all false
attribute [local irreducible] WL WC WQ QFun QLoop Does Q1 QRound QAssign Go.Addr.add
attribute [local irreducible] sizesF sizesOf
theorem refSizes_any {a : Option Addr} {cap : Nat} {l : List Stp} (hf : Fit l) (w0 : World) (m : Mem) (H : SHeap) (hr : RowR w0 m H 3 a (l.map Stp.cs)) :
    Does Try.prog 14 #[.slice a l.length cap] w0 m H (Gives (szR (sizesOf l)) m H) := by
  refine Does.of_body (args := [.slice a l.length cap]) Try.func14 rfl Try.ntmps14 rfl ?_
  have hln : (l.map Stp.cs).length = l.length := by simp
  have hlen := hf.len
  (try (refine st ?_; intros))
  refine WC.loopH [(7, .int .i64 ((0) : Int)), (0, .slice a l.length cap), (5, .int .i64 (0)), (6, .int .i64 (0))] ?_ ?_ (fun j r ds m' H' => ∃ (i : _) (f : Int) (t : Int), j = l.length - i ∧ r = [(7, .int .i64 (i : Int)), (0, .slice a l.length cap), (5, .int .i64 f), (6, .int .i64 t)] ∧ ds = [] ∧ m = m' ∧ H' = H ∧ (i ≤ l.length) ∧ (0 ≤ f ∧ f ≤ 65536 ∧ 0 ≤ t ∧ t ≤ 65536) ∧ (sizesF (l.drop i) f t = sizesOf l) ∧ (RowR w0 m H 3 a (l.map Stp.cs))) (l.length - (0)) ⟨0, 0, 0, rfl, rfl, rfl, rfl, rfl, by omega, by omega, by rw [sizesOf]; rfl, hr⟩ ?_
  · (repeat (first | exact Env.Sub.nil | refine Env.Sub.cons rfl ?_))
  · exact zpk
  rintro j r ds m' H' ⟨i, f, t, rfl, rfl, rfl, rfl, rfl, hi, hn, hs, hr⟩
  generalize H' = H at *
  by_cases hlt : i < l.length
  · obtain ⟨x, hx, hget, htk, hmem, hdr⟩ := at_idx (f := Stp.cs) hlt
    have hk := hf.k x hmem
    have hd := hf.d x hmem
    have hp := hf.p x hmem
    rw [hdr] at hs
    refine WC.rSome hr (by omega) ?_
    rintro a0 rfl
    have hdl : x.d = [] → x.d.length = 0 := fun h => by rw [h]; rfl
    have hpl : x.p = [] → x.p.length = 0 := fun h => by rw [h]; rfl
    by_cases h2 : x.d = [] <;> by_cases h3 : x.p = [] <;> rcases (show x.k < 0 ∨ x.k = 0 ∨ 0 < x.k by omega) with h1 | h1 | h1
    · rw [sizesF_bad (fun h => by rcases h.1 with g | g | g <;> omega)] at hs
      (try (refine st ?_; intros))
      exact q_fin0 (H0 := H) (Gives.mk (by rw [← hs]; try rfl)) (hd := zpk)
    · rw [sizesF_bad (fun h => by simp [stpOk, h1, h2, h3] at h)] at hs
      have hb : (!(!dcd (x.p = []))) = true := by rw [dcd_true h3]; rfl
      (try (refine st ?_; intros))
      exact q_fin0 (H0 := H) (Gives.mk (by rw [← hs]; try rfl)) (hd := zpk)
    · have h2' := hdl h2
      have h3' := hpl h3
      by_cases h6 : 65536 < x.k
      · rw [sizesF_bad (by omega)] at hs
        (try (refine st ?_; intros))
        exact q_fin0 (H0 := H) (Gives.mk (by rw [← hs]; try rfl)) (hd := zpk)
      · have hok : stpOk x := .inl ⟨by omega, h2, h3⟩
        by_cases h4 : f + x.k + (x.d.length : Int) ≤ 65536
        · by_cases h7 : t + x.k + (x.p.length : Int) ≤ 65536
          · rw [sizesF_good hok (by omega) (by omega) (by omega)] at hs
            (try (refine st ?_; intros))
            refine WQ.next (l.length - (i + 1)) ⟨i + 1, _, _, rfl, rfl, rfl, rfl, rfl, ?_, ?_, ?_, ?_⟩ (by omega) zsb zpk
            · omega
            · omega
            · exact hs
            · assumption
          · rw [sizesF_bad (by omega)] at hs
            (try (refine st ?_; intros))
            exact q_fin0 (H0 := H) (Gives.mk (by rw [← hs]; try rfl)) (hd := zpk)
        · rw [sizesF_bad (by omega)] at hs
          (try (refine st ?_; intros))
          exact q_fin0 (H0 := H) (Gives.mk (by rw [← hs]; try rfl)) (hd := zpk)
    · rw [sizesF_bad (fun h => by rcases h.1 with g | g | g <;> omega)] at hs
      (try (refine st ?_; intros))
      exact q_fin0 (H0 := H) (Gives.mk (by rw [← hs]; try rfl)) (hd := zpk)
    · have hok : stpOk x := .inr (.inr ⟨h1, h2, h3⟩)
      have h2' := hdl h2
      have hb : (!(!dcd (x.p = []))) = false := by rw [dcd_false h3]; rfl
      by_cases h4 : t + x.k + (x.p.length : Int) ≤ 65536
      · rw [sizesF_good hok (by omega) (by omega) (by omega)] at hs
        (try (refine st ?_; intros))
        refine WQ.next (l.length - (i + 1)) ⟨i + 1, _, _, rfl, rfl, rfl, rfl, rfl, ?_, ?_, ?_, ?_⟩ (by omega) zsb zpk
        · omega
        · omega
        · exact hs
        · assumption
      · rw [sizesF_bad (by omega)] at hs
        (try (refine st ?_; intros))
        exact q_fin0 (H0 := H) (Gives.mk (by rw [← hs]; try rfl)) (hd := zpk)
    · rw [sizesF_bad (fun h => by rcases h.1 with g | g | g <;> first | omega | exact h3 g.2.2)] at hs
      (try (refine st ?_; intros))
      exact q_fin0 (H0 := H) (Gives.mk (by rw [← hs]; try rfl)) (hd := zpk)
    · rw [sizesF_bad (fun h => by rcases h.1 with g | g | g <;> omega)] at hs
      (try (refine st ?_; intros))
      exact q_fin0 (H0 := H) (Gives.mk (by rw [← hs]; try rfl)) (hd := zpk)
    · have hok : stpOk x := .inr (.inl ⟨h1, h2, h3⟩)
      have h3' := hpl h3
      by_cases h4 : f + x.k + (x.d.length : Int) ≤ 65536
      · rw [sizesF_good hok (by omega) (by omega) (by omega)] at hs
        (try (refine st ?_; intros))
        refine WQ.next (l.length - (i + 1)) ⟨i + 1, _, _, rfl, rfl, rfl, rfl, rfl, ?_, ?_, ?_, ?_⟩ (by omega) zsb zpk
        · omega
        · omega
        · exact hs
        · assumption
      · rw [sizesF_bad (by omega)] at hs
        (try (refine st ?_; intros))
        exact q_fin0 (H0 := H) (Gives.mk (by rw [← hs]; try rfl)) (hd := zpk)
    all_goals
      rw [sizesF_bad (fun h => by rcases h.1 with g | g | g <;> first | omega | exact h2 g.2.1 | exact h3 g.2.2)] at hs
      (try (refine st ?_; intros))
      exact q_fin0 (H0 := H) (Gives.mk (by rw [← hs]; try rfl)) (hd := zpk)
  · obtain rfl : i = l.length := by omega
    rw [List.drop_length, sizesF] at hs
    (try (refine st ?_; intros))
    exact q_fin0 (H0 := H) (Gives.mk (by rw [← hs]; try rfl)) (hd := zpk)
end Go.Proofs.Ytelgegefmjlimaa

/-
  The walk of the reference's Say: a change place by place. No condition.
-/
namespace Go.Eng
open Go
def sV (s : List UInt8) : List Value := [str s]
def oV (b : Bool) : List Value := [.bool b]
def uV (b : UInt8) : List Value := [.int .u8 (b.toNat : Int)]
theorem pads_len {N : Nat} {g : Gs} (h : atOf g ≤ N) : ((putsPad N g).map sV).length = N + 1 ∧ ((dropsPad N g).map oV).length = N ∧ ((bytesPad N g).map uV).length = N := by
  have h1 : gapAt g ≤ atOf g := by unfold atOf; omega
  have hl := (flat_lens g.done).2
  refine ⟨?_, ?_, ?_⟩
  · rw [List.length_map, putsPad, pad_length]
    rw [List.length_append, List.length_singleton, hl]
    unfold gapAt at h1; omega
  · rw [List.length_map, dropsPad, pad_length]; rw [dropsOf_len]; exact h
  · rw [List.length_map, bytesPad, pad_length]; rw [bytesOf_len]; exact h
theorem pads_start (N : Nat) : (putsPad N Gs.start).map sV = List.replicate (N + 1) [str []] ∧ (dropsPad N Gs.start).map oV = List.replicate N [.bool false] ∧ (bytesPad N Gs.start).map uV = List.replicate N [.int .u8 0] := by
  refine ⟨?_, ?_, ?_⟩
  · simp [putsPad, pad, Gs.start, sV, List.replicate_succ]
  · simp [dropsPad, pad, Gs.start, oV, dropsOf]
  · simp [bytesPad, pad, Gs.start, uV, bytesOf]
theorem put_nil (g : Gs) : g.put [] = g := by cases g; simp [Gs.put]
def Gs.drops (g : Gs) (s : List UInt8) : Gs := ⟨g.done, ⟨g.cur.p, g.cur.d ++ s⟩⟩
theorem drops_nil (g : Gs) : g.drops [] = g := by cases g; simp [Gs.drops]
theorem drops_snoc (g : Gs) (s : List UInt8) (b : UInt8) : g.drops (s ++ [b]) = (g.drops s).byte b := by simp [Gs.drops, Gs.byte]
theorem drops_at (g : Gs) (s : List UInt8) : atOf (g.drops s) = atOf g + s.length ∧ gapAt (g.drops s) = gapAt g := by
  simp [atOf, gapAt, Gs.drops]; omega
theorem put_at (g : Gs) (s : List UInt8) : atOf (g.put s) = atOf g ∧ gapAt (g.put s) = gapAt g := ⟨rfl, rfl⟩
theorem step_parts {g : Gs} {x : Stp} (h : stpOk x) : g.step x = if 0 < x.k then ((g.put x.p).drops x.d).keeps x.k.toNat else (g.put x.p).drops x.d := by
  obtain ⟨k, d, p⟩ := x
  rcases h with ⟨h1, h2, h3⟩ | ⟨h1, h2, h3⟩ | ⟨h1, h2, h3⟩
  · simp only at h1 h2 h3
    subst h2; subst h3
    simp only [h1, if_true, put_nil, drops_nil]
    simp [Gs.step, h1, Gs.keeps]
  · simp only at h1 h2 h3
    subst h1; subst h3
    simp [Gs.step, h2, put_nil, Gs.drops]
  · simp only at h1 h2 h3
    subst h1; subst h2
    simp [Gs.step, drops_nil, Gs.put]
theorem gb_at {l : List UInt8} {k : Nat} (h : k < l.length) : gb l k = (l[k]).toNat := by unfold gb; rw [List.getD_eq_getElem?_getD, List.getElem?_eq_getElem h]; rfl
theorem toA_le : ∀ l : List Atm, toA l ≤ l.length
  | [] => Nat.le_refl _
  | .k :: l => by have := toA_le l; simp only [toA, List.length_cons]; omega
  | .d _ :: l => by have := toA_le l; simp only [toA, List.length_cons]; omega
  | .p _ :: l => by have := toA_le l; simp only [toA, List.length_cons]; omega
theorem cur_len {l : List Stp} (h : ∀ s ∈ l, stpOk s) (i : Nat) : (gapsOf (l.take i)).cur.p.length ≤ (atomsOf l).length := by
  have h1 := (nf_sizes (l.take i) (fun s hs => h s (List.mem_of_mem_take hs))).2
  have h2 := toA_le (atomsOf (l.take i))
  have h3 : (gapsOf (l.take i)).cur.p.length ≤ toA (nfOf (gapsOf (l.take i))) := by
    unfold nfOf gapA; rw [toA_append, toA_append, toA_p]; omega
  have e : atomsOf l = atomsOf (l.take i) ++ atomsOf (l.drop i) := by rw [← atoms_append, List.take_append_drop]
  rw [e, List.length_append]; omega
theorem gaps_next {l : List Stp} {i : Nat} {x : Stp} (h : l.take (i + 1) = l.take i ++ [x]) : gapsOf (l.take (i + 1)) = (gapsOf (l.take i)).step x := by
  rw [h, gapsOf, List.foldl_append]; rfl
end Go.Eng
namespace Go.Proofs.Ytelgegefmjlimaa
open Go Go.Eng
set_option maxRecDepth 100000
set_option maxHeartbeats 4000000
set_option linter.all false
attribute [local irreducible] WL WC WQ QFun QLoop Does Q1 QRound QAssign Go.Addr.add
attribute [local irreducible] sizesF sizesOf putsPad dropsPad bytesPad Gs.put Gs.drops Gs.keeps Gs.byte atOf gapAt
theorem sq_E11_1 {G : Prop} (h : G := by (repeat (first | (refine sp ?_; (repeat intro zzc)) | (refine iF 14 rfl ?_; refine w_callG Try.func14 ?_ (hs := refSizes_any (by assumption) _ _ _ (by repeat (first | assumption | apply RowR.more)))))); exact WQ.q1 rfl) : G := h
theorem cm_E11_1 {G G' : Prop} (next : G') (h : Bx G' → G := by intro zzn; (try (refine wcal 0 ?_ (hwl := by intro zm zF zle; exact sq_E11_1))); (try (refine wcal 1 ?_ (hwl := by intro zm zF zle; exact sq_E11_1))); (try (refine wcal 2 ?_ (hwl := by intro zm zF zle; exact sq_E11_1))); (try (refine wcal 3 ?_ (hwl := by intro zm zF zle; exact sq_E11_1))); (try (refine wcal 4 ?_ (hwl := by intro zm zF zle; exact sq_E11_1))); (try (refine wcal 5 ?_ (hwl := by intro zm zF zle; exact sq_E11_1))); (try (refine wcal 6 ?_ (hwl := by intro zm zF zle; exact sq_E11_1))); (try (refine wcal 7 ?_ (hwl := by intro zm zF zle; exact sq_E11_1))); (try (refine wcal 8 ?_ (hwl := by intro zm zF zle; exact sq_E11_1))); (try (refine wcal 9 ?_ (hwl := by intro zm zF zle; exact sq_E11_1))); (try (refine wcal 10 ?_ (hwl := by intro zm zF zle; exact sq_E11_1))); (try (refine wcal 11 ?_ (hwl := by intro zm zF zle; exact sq_E11_1))); (try (refine wcal 12 ?_ (hwl := by intro zm zF zle; exact sq_E11_1))); (try (refine wcal 13 ?_ (hwl := by intro zm zF zle; exact sq_E11_1))); (try (refine wcal 14 ?_ (hwl := by intro zm zF zle; exact sq_E11_1))); (try (refine wcal 15 ?_ (hwl := by intro zm zF zle; exact sq_E11_1))); (try (refine wcal 16 ?_ (hwl := by intro zm zF zle; exact sq_E11_1))); (try (refine wcal 17 ?_ (hwl := by intro zm zF zle; exact sq_E11_1))); (try (refine wcal 18 ?_ (hwl := by intro zm zF zle; exact sq_E11_1))); (try (refine wcal 19 ?_ (hwl := by intro zm zF zle; exact sq_E11_1))); (try (refine wcal 20 ?_ (hwl := by intro zm zF zle; exact sq_E11_1))); (try (refine wcal 21 ?_ (hwl := by intro zm zF zle; exact sq_E11_1))); (try (refine wcal 22 ?_ (hwl := by intro zm zF zle; exact sq_E11_1))); (try (refine wcal 23 ?_ (hwl := by intro zm zF zle; exact sq_E11_1))); (try (refine wcal 24 ?_ (hwl := by intro zm zF zle; exact sq_E11_1))); (try (refine wcal 25 ?_ (hwl := by intro zm zF zle; exact sq_E11_1))); (try (refine wcal 26 ?_ (hwl := by intro zm zF zle; exact sq_E11_1))); (try (refine wcal 27 ?_ (hwl := by intro zm zF zle; exact sq_E11_1))); (try (refine wcal 28 ?_ (hwl := by intro zm zF zle; exact sq_E11_1))); (try (refine wcal 29 ?_ (hwl := by intro zm zF zle; exact sq_E11_1))); (try (refine wcal 30 ?_ (hwl := by intro zm zF zle; exact sq_E11_1))); (try (refine wcal 31 ?_ (hwl := by intro zm zF zle; exact sq_E11_1))); (try (refine wcal 32 ?_ (hwl := by intro zm zF zle; exact sq_E11_1))); (try (refine wcal 33 ?_ (hwl := by intro zm zF zle; exact sq_E11_1))); (try (refine wcal 34 ?_ (hwl := by intro zm zF zle; exact sq_E11_1))); (try (refine wcal 35 ?_ (hwl := by intro zm zF zle; exact sq_E11_1))); (try (refine wcal 36 ?_ (hwl := by intro zm zF zle; exact sq_E11_1))); (try (refine wcal 37 ?_ (hwl := by intro zm zF zle; exact sq_E11_1))); (try (refine wcal 38 ?_ (hwl := by intro zm zF zle; exact sq_E11_1))); (try (refine wcal 39 ?_ (hwl := by intro zm zF zle; exact sq_E11_1))); (try (refine wcal 40 ?_ (hwl := by intro zm zF zle; exact sq_E11_1))); (try (refine wcal 41 ?_ (hwl := by intro zm zF zle; exact sq_E11_1))); exact zzn.out) : G := h ⟨next⟩
theorem st_E11_1 {G G' : Prop} (next : G') (h : Bx G' → G := by intro zzn; (first | ((refine st ?_; (repeat intro zzc)); (try ((first | (refine iF 14 rfl ?_; refine w_callG Try.func14 ?_ (hs := refSizes_any (by assumption) _ _ _ (by repeat (first | assumption | apply RowR.more)))) | ((refine iDraw ?_; (first | refine WC.drawAll rfl (by decide +kernel) ?_ | refine WC.draw 1 rfl (by decide +kernel) ?_ | refine WC.draw 2 rfl (by decide +kernel) ?_ | refine WC.draw 3 rfl (by decide +kernel) ?_ | refine WC.draw 4 rfl (by decide +kernel) ?_ | refine WC.draw 5 rfl (by decide +kernel) ?_ | refine WC.draw 6 rfl (by decide +kernel) ?_ | refine WC.draw 7 rfl (by decide +kernel) ?_ | refine WC.draw 8 rfl (by decide +kernel) ?_ | refine WC.draw 9 rfl (by decide +kernel) ?_ | refine WC.draw 10 rfl (by decide +kernel) ?_ | refine WC.draw 11 rfl (by decide +kernel) ?_ | refine WC.draw 12 rfl (by decide +kernel) ?_ | refine WC.draw 13 rfl (by decide +kernel) ?_ | refine WC.draw 14 rfl (by decide +kernel) ?_ | refine WC.draw 15 rfl (by decide +kernel) ?_ | refine WC.draw 16 rfl (by decide +kernel) ?_ | refine WC.draw 17 rfl (by decide +kernel) ?_ | refine WC.draw 18 rfl (by decide +kernel) ?_ | refine WC.draw 19 rfl (by decide +kernel) ?_ | refine WC.draw 20 rfl (by decide +kernel) ?_ | refine WC.draw 21 rfl (by decide +kernel) ?_ | refine WC.draw 22 rfl (by decide +kernel) ?_ | refine WC.draw 23 rfl (by decide +kernel) ?_ | refine WC.draw 24 rfl (by decide +kernel) ?_)); (repeat (refine WD.cons rfl (fun c h => by cases h) sq_E11_1 ?_)); refine WD.nil ?_)); (try (refine st ?_; (repeat intro zzc)))))) | ((first | (refine iF 14 rfl ?_; refine w_callG Try.func14 ?_ (hs := refSizes_any (by assumption) _ _ _ (by repeat (first | assumption | apply RowR.more)))) | ((refine iDraw ?_; (first | refine WC.drawAll rfl (by decide +kernel) ?_ | refine WC.draw 1 rfl (by decide +kernel) ?_ | refine WC.draw 2 rfl (by decide +kernel) ?_ | refine WC.draw 3 rfl (by decide +kernel) ?_ | refine WC.draw 4 rfl (by decide +kernel) ?_ | refine WC.draw 5 rfl (by decide +kernel) ?_ | refine WC.draw 6 rfl (by decide +kernel) ?_ | refine WC.draw 7 rfl (by decide +kernel) ?_ | refine WC.draw 8 rfl (by decide +kernel) ?_ | refine WC.draw 9 rfl (by decide +kernel) ?_ | refine WC.draw 10 rfl (by decide +kernel) ?_ | refine WC.draw 11 rfl (by decide +kernel) ?_ | refine WC.draw 12 rfl (by decide +kernel) ?_ | refine WC.draw 13 rfl (by decide +kernel) ?_ | refine WC.draw 14 rfl (by decide +kernel) ?_ | refine WC.draw 15 rfl (by decide +kernel) ?_ | refine WC.draw 16 rfl (by decide +kernel) ?_ | refine WC.draw 17 rfl (by decide +kernel) ?_ | refine WC.draw 18 rfl (by decide +kernel) ?_ | refine WC.draw 19 rfl (by decide +kernel) ?_ | refine WC.draw 20 rfl (by decide +kernel) ?_ | refine WC.draw 21 rfl (by decide +kernel) ?_ | refine WC.draw 22 rfl (by decide +kernel) ?_ | refine WC.draw 23 rfl (by decide +kernel) ?_ | refine WC.draw 24 rfl (by decide +kernel) ?_)); (repeat (refine WD.cons rfl (fun c h => by cases h) sq_E11_1 ?_)); refine WD.nil ?_)); (try (refine st ?_; (repeat intro zzc))))); (repeat ((first | (refine iF 14 rfl ?_; refine w_callG Try.func14 ?_ (hs := refSizes_any (by assumption) _ _ _ (by repeat (first | assumption | apply RowR.more)))) | ((refine iDraw ?_; (first | refine WC.drawAll rfl (by decide +kernel) ?_ | refine WC.draw 1 rfl (by decide +kernel) ?_ | refine WC.draw 2 rfl (by decide +kernel) ?_ | refine WC.draw 3 rfl (by decide +kernel) ?_ | refine WC.draw 4 rfl (by decide +kernel) ?_ | refine WC.draw 5 rfl (by decide +kernel) ?_ | refine WC.draw 6 rfl (by decide +kernel) ?_ | refine WC.draw 7 rfl (by decide +kernel) ?_ | refine WC.draw 8 rfl (by decide +kernel) ?_ | refine WC.draw 9 rfl (by decide +kernel) ?_ | refine WC.draw 10 rfl (by decide +kernel) ?_ | refine WC.draw 11 rfl (by decide +kernel) ?_ | refine WC.draw 12 rfl (by decide +kernel) ?_ | refine WC.draw 13 rfl (by decide +kernel) ?_ | refine WC.draw 14 rfl (by decide +kernel) ?_ | refine WC.draw 15 rfl (by decide +kernel) ?_ | refine WC.draw 16 rfl (by decide +kernel) ?_ | refine WC.draw 17 rfl (by decide +kernel) ?_ | refine WC.draw 18 rfl (by decide +kernel) ?_ | refine WC.draw 19 rfl (by decide +kernel) ?_ | refine WC.draw 20 rfl (by decide +kernel) ?_ | refine WC.draw 21 rfl (by decide +kernel) ?_ | refine WC.draw 22 rfl (by decide +kernel) ?_ | refine WC.draw 23 rfl (by decide +kernel) ?_ | refine WC.draw 24 rfl (by decide +kernel) ?_)); (repeat (refine WD.cons rfl (fun c h => by cases h) sq_E11_1 ?_)); refine WD.nil ?_)); (try (refine st ?_; (repeat intro zzc))))); (repeat revert zzc); exact zzn.out) : G := h ⟨next⟩
theorem say_any {a : Option Addr} {cap : Nat} {l : List Stp} {f t : Int} (hf : Fit l) (hs : sizesOf l = some (f, t)) (w0 : World) (m : Mem) (H : SHeap) (hr : RowR w0 m H 3 a (l.map Stp.cs)) :
    Does Try.prog 43 #[.slice a l.length cap] w0 m H (fun v m' H' => m' = m ∧ ∃ q2 q4 q6, v = .agg #[.slice (some ⟨q2, 0, none⟩) (putsOf (gapsOf l)).length (putsOf (gapsOf l)).length, .slice (some ⟨q4, 0, none⟩) (dropsOf (gapsOf l)).length (dropsOf (gapsOf l)).length, .slice (some ⟨q6, 0, none⟩) (bytesOf (gapsOf l)).length (bytesOf (gapsOf l)).length] ∧
      H' = .row (some ⟨q2, 0, none⟩) (putsOf (gapsOf l)).length 9 1 ((putsOf (gapsOf l)).map sV) :: .row (some ⟨q4, 0, none⟩) (dropsOf (gapsOf l)).length 4 1 ((dropsOf (gapsOf l)).map oV) :: .row (some ⟨q6, 0, none⟩) (bytesOf (gapsOf l)).length 5 1 ((bytesOf (gapsOf l)).map uV) :: H) := by
  refine Does.of_body (args := [.slice a l.length cap]) Try.func43 rfl Try.ntmps43 rfl ?_
  have hln : (l.map Stp.cs).length = l.length := by simp
  have hlen := hf.len
  have e2 : szR (sizesOf l) = .tuple #[.int .i64 f, .int .i64 t, .bool true] := by rw [hs]; rfl
  obtain ⟨hok, hal, hpl, hfr, _, g1, g2, _, _⟩ := sized hs
  obtain ⟨N, rfl⟩ : ∃ N : Nat, f = (N : Int) := ⟨f.toNat, by omega⟩
  (refine st_E11_1 ?_; intros; rename_i r0)
  rw [e2]
  (try (refine st_E11_1 ?_; intros))
  refine WC.join (fun r' ds' m' H' => ∃ q2 q4 q6 b, r' = [(6, .pointer (some ⟨b, 0, none⟩)), (2, .pointer (some ⟨r0, 0, none⟩)), (0, .slice a l.length cap)] ∧ ds' = [] ∧ m = m' ∧ H' = .blk b (.cells [.slice (some ⟨q2, 0, none⟩) (N + 1) (N + 1), .slice (some ⟨q4, 0, none⟩) N N, .slice (some ⟨q6, 0, none⟩) N N].toArray 92 (0, 0)) :: .blk r0 (.cells [.slice none 0 0, .slice none 0 0, .slice none 0 0].toArray 92 (0, 0)) :: .row (some ⟨q2, 0, none⟩) (N + 1) 9 1 (List.replicate (N + 1) [str []]) :: .row (some ⟨q4, 0, none⟩) N 4 1 (List.replicate N [.bool false]) :: .row (some ⟨q6, 0, none⟩) N 5 1 (List.replicate N [.int .u8 0]) :: H) ?_ ?_
  · refine WC.drawE 9 ([]) (.blk r0 (.cells [.slice none 0 0, .slice none 0 0, .slice none 0 0].toArray 92 (0, 0)) :: H) rfl (by decide +kernel) zpk ?_
    (refine cm_E11_1 ?_)
    refine WE.acts [2, 4, 6, 8] (by decide +kernel) (all_cons ?_ (all_cons ?_ (all_cons ?_ (all_cons ?_ (all_nil)))))
    · refine Acts.mk rfl rfl (fun c h => by cases h) ?_
      refine WL.makeRow (k:=N + 1) (sz:=1) (by':=16) (zs:=[str []]) rfl rfl (by omega) (by omega) rfl rfl rfl rfl rfl rfl (by decide) (by omega) (by omega) rfl ?_; intro q2; refine WL.nil ?_
      refine WQ.acted (B := [.row (some ⟨q2, 0, none⟩) (N + 1) 9 1 (List.replicate (N + 1) [str []])]) (U := .blk r0 (.cells [.slice none 0 0, .slice none 0 0, .slice none 0 0].toArray 92 (0, 0)) :: H) rfl (Mem.le.refl _) zpk ?_
      refine WE.acts [4, 6, 8] (by decide +kernel) (all_cons ?_ (all_cons ?_ (all_cons ?_ (all_nil))))
      · refine Acts.mk rfl rfl (fun c h => by cases h) ?_
        refine WL.makeRow (k:=N) (sz:=1) (by':=1) (zs:=[.bool false]) rfl rfl rfl rfl rfl rfl rfl rfl rfl rfl (by decide) (by omega) (by omega) rfl ?_; intro q4; refine WL.nil ?_
        refine WQ.acted (B := [.row (some ⟨q4, 0, none⟩) N 4 1 (List.replicate N [.bool false])]) (U := .blk r0 (.cells [.slice none 0 0, .slice none 0 0, .slice none 0 0].toArray 92 (0, 0)) :: H) rfl (Mem.le.refl _) zpk ?_
        refine WE.acts [6, 8] (by decide +kernel) (all_cons ?_ (all_cons ?_ (all_nil)))
        · refine Acts.mk rfl rfl (fun c h => by cases h) ?_
          refine WL.makeRow (k:=N) (sz:=1) (by':=1) (zs:=[.int .u8 0]) rfl rfl rfl rfl rfl rfl rfl rfl rfl rfl (by decide) (by omega) (by omega) rfl ?_; intro q6; refine WL.nil ?_
          refine WQ.acted (B := [.row (some ⟨q6, 0, none⟩) N 5 1 (List.replicate N [.int .u8 0])]) (U := .blk r0 (.cells [.slice none 0 0, .slice none 0 0, .slice none 0 0].toArray 92 (0, 0)) :: H) rfl (Mem.le.refl _) zpk ?_
          (refine WE.calm 7 (by decide +kernel) rfl rfl (by decide +kernel) rfl (fun c h => by cases h) (by intro zm zF zle; exact sq_E11_1) ?_)
          refine WE.acts [8] (by decide +kernel) (all_cons ?_ (all_nil))
          · refine Acts.mk rfl rfl (fun c h => by cases h) ?_
            refine WL.alloc (cs := [.slice none 0 0, .slice none 0 0, .slice none 0 0]) rfl rfl rfl ?_; intro b; refine WL.nil ?_
            refine WQ.acted (B := [.blk b (.cells [.slice none 0 0, .slice none 0 0, .slice none 0 0].toArray 92 (0, 0))]) (U := .blk r0 (.cells [.slice none 0 0, .slice none 0 0, .slice none 0 0].toArray 92 (0, 0)) :: H) rfl (Mem.le.refl _) zpk ?_
            refine WE.done (by decide +kernel) ?_
            (try (refine st_E11_1 ?_; intros))
            exact WQ.join ⟨q2, q4, q6, b, rfl, rfl, rfl, rfl⟩ zsb zpk
        · refine Acts.mk rfl rfl (fun c h => by cases h) ?_
          refine WL.alloc (cs := [.slice none 0 0, .slice none 0 0, .slice none 0 0]) rfl rfl rfl ?_; intro b; refine WL.nil ?_
          refine WQ.acted (B := [.blk b (.cells [.slice none 0 0, .slice none 0 0, .slice none 0 0].toArray 92 (0, 0))]) (U := .blk r0 (.cells [.slice none 0 0, .slice none 0 0, .slice none 0 0].toArray 92 (0, 0)) :: H) rfl (Mem.le.refl _) zpk ?_
          refine WE.acts [6] (by decide +kernel) (all_cons ?_ (all_nil))
          · refine Acts.mk rfl rfl (fun c h => by cases h) ?_
            refine WL.makeRow (k:=N) (sz:=1) (by':=1) (zs:=[.int .u8 0]) rfl rfl rfl rfl rfl rfl rfl rfl rfl rfl (by decide) (by omega) (by omega) rfl ?_; intro q6; refine WL.nil ?_
            refine WQ.acted (B := [.row (some ⟨q6, 0, none⟩) N 5 1 (List.replicate N [.int .u8 0])]) (U := .blk r0 (.cells [.slice none 0 0, .slice none 0 0, .slice none 0 0].toArray 92 (0, 0)) :: H) rfl (Mem.le.refl _) zpk ?_
            (refine WE.calm 7 (by decide +kernel) rfl rfl (by decide +kernel) rfl (fun c h => by cases h) (by intro zm zF zle; exact sq_E11_1) ?_)
            refine WE.done (by decide +kernel) ?_
            (try (refine st_E11_1 ?_; intros))
            exact WQ.join ⟨q2, q4, q6, b, rfl, rfl, rfl, rfl⟩ zsb zpk
      · refine Acts.mk rfl rfl (fun c h => by cases h) ?_
        refine WL.makeRow (k:=N) (sz:=1) (by':=1) (zs:=[.int .u8 0]) rfl rfl rfl rfl rfl rfl rfl rfl rfl rfl (by decide) (by omega) (by omega) rfl ?_; intro q6; refine WL.nil ?_
        refine WQ.acted (B := [.row (some ⟨q6, 0, none⟩) N 5 1 (List.replicate N [.int .u8 0])]) (U := .blk r0 (.cells [.slice none 0 0, .slice none 0 0, .slice none 0 0].toArray 92 (0, 0)) :: H) rfl (Mem.le.refl _) zpk ?_
        refine WE.acts [4, 8] (by decide +kernel) (all_cons ?_ (all_cons ?_ (all_nil)))
        · refine Acts.mk rfl rfl (fun c h => by cases h) ?_
          refine WL.makeRow (k:=N) (sz:=1) (by':=1) (zs:=[.bool false]) rfl rfl rfl rfl rfl rfl rfl rfl rfl rfl (by decide) (by omega) (by omega) rfl ?_; intro q4; refine WL.nil ?_
          refine WQ.acted (B := [.row (some ⟨q4, 0, none⟩) N 4 1 (List.replicate N [.bool false])]) (U := .blk r0 (.cells [.slice none 0 0, .slice none 0 0, .slice none 0 0].toArray 92 (0, 0)) :: H) rfl (Mem.le.refl _) zpk ?_
          (refine WE.calm 7 (by decide +kernel) rfl rfl (by decide +kernel) rfl (fun c h => by cases h) (by intro zm zF zle; exact sq_E11_1) ?_)
          refine WE.acts [8] (by decide +kernel) (all_cons ?_ (all_nil))
          · refine Acts.mk rfl rfl (fun c h => by cases h) ?_
            refine WL.alloc (cs := [.slice none 0 0, .slice none 0 0, .slice none 0 0]) rfl rfl rfl ?_; intro b; refine WL.nil ?_
            refine WQ.acted (B := [.blk b (.cells [.slice none 0 0, .slice none 0 0, .slice none 0 0].toArray 92 (0, 0))]) (U := .blk r0 (.cells [.slice none 0 0, .slice none 0 0, .slice none 0 0].toArray 92 (0, 0)) :: H) rfl (Mem.le.refl _) zpk ?_
            refine WE.done (by decide +kernel) ?_
            (try (refine st_E11_1 ?_; intros))
            exact WQ.join ⟨q2, q4, q6, b, rfl, rfl, rfl, rfl⟩ zsb zpk
        · refine Acts.mk rfl rfl (fun c h => by cases h) ?_
          refine WL.alloc (cs := [.slice none 0 0, .slice none 0 0, .slice none 0 0]) rfl rfl rfl ?_; intro b; refine WL.nil ?_
          refine WQ.acted (B := [.blk b (.cells [.slice none 0 0, .slice none 0 0, .slice none 0 0].toArray 92 (0, 0))]) (U := .blk r0 (.cells [.slice none 0 0, .slice none 0 0, .slice none 0 0].toArray 92 (0, 0)) :: H) rfl (Mem.le.refl _) zpk ?_
          refine WE.acts [4] (by decide +kernel) (all_cons ?_ (all_nil))
          · refine Acts.mk rfl rfl (fun c h => by cases h) ?_
            refine WL.makeRow (k:=N) (sz:=1) (by':=1) (zs:=[.bool false]) rfl rfl rfl rfl rfl rfl rfl rfl rfl rfl (by decide) (by omega) (by omega) rfl ?_; intro q4; refine WL.nil ?_
            refine WQ.acted (B := [.row (some ⟨q4, 0, none⟩) N 4 1 (List.replicate N [.bool false])]) (U := .blk r0 (.cells [.slice none 0 0, .slice none 0 0, .slice none 0 0].toArray 92 (0, 0)) :: H) rfl (Mem.le.refl _) zpk ?_
            (refine WE.calm 7 (by decide +kernel) rfl rfl (by decide +kernel) rfl (fun c h => by cases h) (by intro zm zF zle; exact sq_E11_1) ?_)
            refine WE.done (by decide +kernel) ?_
            (try (refine st_E11_1 ?_; intros))
            exact WQ.join ⟨q2, q4, q6, b, rfl, rfl, rfl, rfl⟩ zsb zpk
      · refine Acts.mk rfl rfl (fun c h => by cases h) ?_
        refine WL.alloc (cs := [.slice none 0 0, .slice none 0 0, .slice none 0 0]) rfl rfl rfl ?_; intro b; refine WL.nil ?_
        refine WQ.acted (B := [.blk b (.cells [.slice none 0 0, .slice none 0 0, .slice none 0 0].toArray 92 (0, 0))]) (U := .blk r0 (.cells [.slice none 0 0, .slice none 0 0, .slice none 0 0].toArray 92 (0, 0)) :: H) rfl (Mem.le.refl _) zpk ?_
        refine WE.acts [4, 6] (by decide +kernel) (all_cons ?_ (all_cons ?_ (all_nil)))
        · refine Acts.mk rfl rfl (fun c h => by cases h) ?_
          refine WL.makeRow (k:=N) (sz:=1) (by':=1) (zs:=[.bool false]) rfl rfl rfl rfl rfl rfl rfl rfl rfl rfl (by decide) (by omega) (by omega) rfl ?_; intro q4; refine WL.nil ?_
          refine WQ.acted (B := [.row (some ⟨q4, 0, none⟩) N 4 1 (List.replicate N [.bool false])]) (U := .blk r0 (.cells [.slice none 0 0, .slice none 0 0, .slice none 0 0].toArray 92 (0, 0)) :: H) rfl (Mem.le.refl _) zpk ?_
          refine WE.acts [6] (by decide +kernel) (all_cons ?_ (all_nil))
          · refine Acts.mk rfl rfl (fun c h => by cases h) ?_
            refine WL.makeRow (k:=N) (sz:=1) (by':=1) (zs:=[.int .u8 0]) rfl rfl rfl rfl rfl rfl rfl rfl rfl rfl (by decide) (by omega) (by omega) rfl ?_; intro q6; refine WL.nil ?_
            refine WQ.acted (B := [.row (some ⟨q6, 0, none⟩) N 5 1 (List.replicate N [.int .u8 0])]) (U := .blk r0 (.cells [.slice none 0 0, .slice none 0 0, .slice none 0 0].toArray 92 (0, 0)) :: H) rfl (Mem.le.refl _) zpk ?_
            (refine WE.calm 7 (by decide +kernel) rfl rfl (by decide +kernel) rfl (fun c h => by cases h) (by intro zm zF zle; exact sq_E11_1) ?_)
            refine WE.done (by decide +kernel) ?_
            (try (refine st_E11_1 ?_; intros))
            exact WQ.join ⟨q2, q4, q6, b, rfl, rfl, rfl, rfl⟩ zsb zpk
        · refine Acts.mk rfl rfl (fun c h => by cases h) ?_
          refine WL.makeRow (k:=N) (sz:=1) (by':=1) (zs:=[.int .u8 0]) rfl rfl rfl rfl rfl rfl rfl rfl rfl rfl (by decide) (by omega) (by omega) rfl ?_; intro q6; refine WL.nil ?_
          refine WQ.acted (B := [.row (some ⟨q6, 0, none⟩) N 5 1 (List.replicate N [.int .u8 0])]) (U := .blk r0 (.cells [.slice none 0 0, .slice none 0 0, .slice none 0 0].toArray 92 (0, 0)) :: H) rfl (Mem.le.refl _) zpk ?_
          refine WE.acts [4] (by decide +kernel) (all_cons ?_ (all_nil))
          · refine Acts.mk rfl rfl (fun c h => by cases h) ?_
            refine WL.makeRow (k:=N) (sz:=1) (by':=1) (zs:=[.bool false]) rfl rfl rfl rfl rfl rfl rfl rfl rfl rfl (by decide) (by omega) (by omega) rfl ?_; intro q4; refine WL.nil ?_
            refine WQ.acted (B := [.row (some ⟨q4, 0, none⟩) N 4 1 (List.replicate N [.bool false])]) (U := .blk r0 (.cells [.slice none 0 0, .slice none 0 0, .slice none 0 0].toArray 92 (0, 0)) :: H) rfl (Mem.le.refl _) zpk ?_
            (refine WE.calm 7 (by decide +kernel) rfl rfl (by decide +kernel) rfl (fun c h => by cases h) (by intro zm zF zle; exact sq_E11_1) ?_)
            refine WE.done (by decide +kernel) ?_
            (try (refine st_E11_1 ?_; intros))
            exact WQ.join ⟨q2, q4, q6, b, rfl, rfl, rfl, rfl⟩ zsb zpk
    · refine Acts.mk rfl rfl (fun c h => by cases h) ?_
      refine WL.makeRow (k:=N) (sz:=1) (by':=1) (zs:=[.bool false]) rfl rfl rfl rfl rfl rfl rfl rfl rfl rfl (by decide) (by omega) (by omega) rfl ?_; intro q4; refine WL.nil ?_
      refine WQ.acted (B := [.row (some ⟨q4, 0, none⟩) N 4 1 (List.replicate N [.bool false])]) (U := .blk r0 (.cells [.slice none 0 0, .slice none 0 0, .slice none 0 0].toArray 92 (0, 0)) :: H) rfl (Mem.le.refl _) zpk ?_
      refine WE.acts [2, 6, 8] (by decide +kernel) (all_cons ?_ (all_cons ?_ (all_cons ?_ (all_nil))))
      · refine Acts.mk rfl rfl (fun c h => by cases h) ?_
        refine WL.makeRow (k:=N + 1) (sz:=1) (by':=16) (zs:=[str []]) rfl rfl (by omega) (by omega) rfl rfl rfl rfl rfl rfl (by decide) (by omega) (by omega) rfl ?_; intro q2; refine WL.nil ?_
        refine WQ.acted (B := [.row (some ⟨q2, 0, none⟩) (N + 1) 9 1 (List.replicate (N + 1) [str []])]) (U := .blk r0 (.cells [.slice none 0 0, .slice none 0 0, .slice none 0 0].toArray 92 (0, 0)) :: H) rfl (Mem.le.refl _) zpk ?_
        refine WE.acts [6, 8] (by decide +kernel) (all_cons ?_ (all_cons ?_ (all_nil)))
        · refine Acts.mk rfl rfl (fun c h => by cases h) ?_
          refine WL.makeRow (k:=N) (sz:=1) (by':=1) (zs:=[.int .u8 0]) rfl rfl rfl rfl rfl rfl rfl rfl rfl rfl (by decide) (by omega) (by omega) rfl ?_; intro q6; refine WL.nil ?_
          refine WQ.acted (B := [.row (some ⟨q6, 0, none⟩) N 5 1 (List.replicate N [.int .u8 0])]) (U := .blk r0 (.cells [.slice none 0 0, .slice none 0 0, .slice none 0 0].toArray 92 (0, 0)) :: H) rfl (Mem.le.refl _) zpk ?_
          (refine WE.calm 7 (by decide +kernel) rfl rfl (by decide +kernel) rfl (fun c h => by cases h) (by intro zm zF zle; exact sq_E11_1) ?_)
          refine WE.acts [8] (by decide +kernel) (all_cons ?_ (all_nil))
          · refine Acts.mk rfl rfl (fun c h => by cases h) ?_
            refine WL.alloc (cs := [.slice none 0 0, .slice none 0 0, .slice none 0 0]) rfl rfl rfl ?_; intro b; refine WL.nil ?_
            refine WQ.acted (B := [.blk b (.cells [.slice none 0 0, .slice none 0 0, .slice none 0 0].toArray 92 (0, 0))]) (U := .blk r0 (.cells [.slice none 0 0, .slice none 0 0, .slice none 0 0].toArray 92 (0, 0)) :: H) rfl (Mem.le.refl _) zpk ?_
            refine WE.done (by decide +kernel) ?_
            (try (refine st_E11_1 ?_; intros))
            exact WQ.join ⟨q2, q4, q6, b, rfl, rfl, rfl, rfl⟩ zsb zpk
        · refine Acts.mk rfl rfl (fun c h => by cases h) ?_
          refine WL.alloc (cs := [.slice none 0 0, .slice none 0 0, .slice none 0 0]) rfl rfl rfl ?_; intro b; refine WL.nil ?_
          refine WQ.acted (B := [.blk b (.cells [.slice none 0 0, .slice none 0 0, .slice none 0 0].toArray 92 (0, 0))]) (U := .blk r0 (.cells [.slice none 0 0, .slice none 0 0, .slice none 0 0].toArray 92 (0, 0)) :: H) rfl (Mem.le.refl _) zpk ?_
          refine WE.acts [6] (by decide +kernel) (all_cons ?_ (all_nil))
          · refine Acts.mk rfl rfl (fun c h => by cases h) ?_
            refine WL.makeRow (k:=N) (sz:=1) (by':=1) (zs:=[.int .u8 0]) rfl rfl rfl rfl rfl rfl rfl rfl rfl rfl (by decide) (by omega) (by omega) rfl ?_; intro q6; refine WL.nil ?_
            refine WQ.acted (B := [.row (some ⟨q6, 0, none⟩) N 5 1 (List.replicate N [.int .u8 0])]) (U := .blk r0 (.cells [.slice none 0 0, .slice none 0 0, .slice none 0 0].toArray 92 (0, 0)) :: H) rfl (Mem.le.refl _) zpk ?_
            (refine WE.calm 7 (by decide +kernel) rfl rfl (by decide +kernel) rfl (fun c h => by cases h) (by intro zm zF zle; exact sq_E11_1) ?_)
            refine WE.done (by decide +kernel) ?_
            (try (refine st_E11_1 ?_; intros))
            exact WQ.join ⟨q2, q4, q6, b, rfl, rfl, rfl, rfl⟩ zsb zpk
      · refine Acts.mk rfl rfl (fun c h => by cases h) ?_
        refine WL.makeRow (k:=N) (sz:=1) (by':=1) (zs:=[.int .u8 0]) rfl rfl rfl rfl rfl rfl rfl rfl rfl rfl (by decide) (by omega) (by omega) rfl ?_; intro q6; refine WL.nil ?_
        refine WQ.acted (B := [.row (some ⟨q6, 0, none⟩) N 5 1 (List.replicate N [.int .u8 0])]) (U := .blk r0 (.cells [.slice none 0 0, .slice none 0 0, .slice none 0 0].toArray 92 (0, 0)) :: H) rfl (Mem.le.refl _) zpk ?_
        refine WE.acts [2, 8] (by decide +kernel) (all_cons ?_ (all_cons ?_ (all_nil)))
        · refine Acts.mk rfl rfl (fun c h => by cases h) ?_
          refine WL.makeRow (k:=N + 1) (sz:=1) (by':=16) (zs:=[str []]) rfl rfl (by omega) (by omega) rfl rfl rfl rfl rfl rfl (by decide) (by omega) (by omega) rfl ?_; intro q2; refine WL.nil ?_
          refine WQ.acted (B := [.row (some ⟨q2, 0, none⟩) (N + 1) 9 1 (List.replicate (N + 1) [str []])]) (U := .blk r0 (.cells [.slice none 0 0, .slice none 0 0, .slice none 0 0].toArray 92 (0, 0)) :: H) rfl (Mem.le.refl _) zpk ?_
          (refine WE.calm 7 (by decide +kernel) rfl rfl (by decide +kernel) rfl (fun c h => by cases h) (by intro zm zF zle; exact sq_E11_1) ?_)
          refine WE.acts [8] (by decide +kernel) (all_cons ?_ (all_nil))
          · refine Acts.mk rfl rfl (fun c h => by cases h) ?_
            refine WL.alloc (cs := [.slice none 0 0, .slice none 0 0, .slice none 0 0]) rfl rfl rfl ?_; intro b; refine WL.nil ?_
            refine WQ.acted (B := [.blk b (.cells [.slice none 0 0, .slice none 0 0, .slice none 0 0].toArray 92 (0, 0))]) (U := .blk r0 (.cells [.slice none 0 0, .slice none 0 0, .slice none 0 0].toArray 92 (0, 0)) :: H) rfl (Mem.le.refl _) zpk ?_
            refine WE.done (by decide +kernel) ?_
            (try (refine st_E11_1 ?_; intros))
            exact WQ.join ⟨q2, q4, q6, b, rfl, rfl, rfl, rfl⟩ zsb zpk
        · refine Acts.mk rfl rfl (fun c h => by cases h) ?_
          refine WL.alloc (cs := [.slice none 0 0, .slice none 0 0, .slice none 0 0]) rfl rfl rfl ?_; intro b; refine WL.nil ?_
          refine WQ.acted (B := [.blk b (.cells [.slice none 0 0, .slice none 0 0, .slice none 0 0].toArray 92 (0, 0))]) (U := .blk r0 (.cells [.slice none 0 0, .slice none 0 0, .slice none 0 0].toArray 92 (0, 0)) :: H) rfl (Mem.le.refl _) zpk ?_
          refine WE.acts [2] (by decide +kernel) (all_cons ?_ (all_nil))
          · refine Acts.mk rfl rfl (fun c h => by cases h) ?_
            refine WL.makeRow (k:=N + 1) (sz:=1) (by':=16) (zs:=[str []]) rfl rfl (by omega) (by omega) rfl rfl rfl rfl rfl rfl (by decide) (by omega) (by omega) rfl ?_; intro q2; refine WL.nil ?_
            refine WQ.acted (B := [.row (some ⟨q2, 0, none⟩) (N + 1) 9 1 (List.replicate (N + 1) [str []])]) (U := .blk r0 (.cells [.slice none 0 0, .slice none 0 0, .slice none 0 0].toArray 92 (0, 0)) :: H) rfl (Mem.le.refl _) zpk ?_
            (refine WE.calm 7 (by decide +kernel) rfl rfl (by decide +kernel) rfl (fun c h => by cases h) (by intro zm zF zle; exact sq_E11_1) ?_)
            refine WE.done (by decide +kernel) ?_
            (try (refine st_E11_1 ?_; intros))
            exact WQ.join ⟨q2, q4, q6, b, rfl, rfl, rfl, rfl⟩ zsb zpk
      · refine Acts.mk rfl rfl (fun c h => by cases h) ?_
        refine WL.alloc (cs := [.slice none 0 0, .slice none 0 0, .slice none 0 0]) rfl rfl rfl ?_; intro b; refine WL.nil ?_
        refine WQ.acted (B := [.blk b (.cells [.slice none 0 0, .slice none 0 0, .slice none 0 0].toArray 92 (0, 0))]) (U := .blk r0 (.cells [.slice none 0 0, .slice none 0 0, .slice none 0 0].toArray 92 (0, 0)) :: H) rfl (Mem.le.refl _) zpk ?_
        refine WE.acts [2, 6] (by decide +kernel) (all_cons ?_ (all_cons ?_ (all_nil)))
        · refine Acts.mk rfl rfl (fun c h => by cases h) ?_
          refine WL.makeRow (k:=N + 1) (sz:=1) (by':=16) (zs:=[str []]) rfl rfl (by omega) (by omega) rfl rfl rfl rfl rfl rfl (by decide) (by omega) (by omega) rfl ?_; intro q2; refine WL.nil ?_
          refine WQ.acted (B := [.row (some ⟨q2, 0, none⟩) (N + 1) 9 1 (List.replicate (N + 1) [str []])]) (U := .blk r0 (.cells [.slice none 0 0, .slice none 0 0, .slice none 0 0].toArray 92 (0, 0)) :: H) rfl (Mem.le.refl _) zpk ?_
          refine WE.acts [6] (by decide +kernel) (all_cons ?_ (all_nil))
          · refine Acts.mk rfl rfl (fun c h => by cases h) ?_
            refine WL.makeRow (k:=N) (sz:=1) (by':=1) (zs:=[.int .u8 0]) rfl rfl rfl rfl rfl rfl rfl rfl rfl rfl (by decide) (by omega) (by omega) rfl ?_; intro q6; refine WL.nil ?_
            refine WQ.acted (B := [.row (some ⟨q6, 0, none⟩) N 5 1 (List.replicate N [.int .u8 0])]) (U := .blk r0 (.cells [.slice none 0 0, .slice none 0 0, .slice none 0 0].toArray 92 (0, 0)) :: H) rfl (Mem.le.refl _) zpk ?_
            (refine WE.calm 7 (by decide +kernel) rfl rfl (by decide +kernel) rfl (fun c h => by cases h) (by intro zm zF zle; exact sq_E11_1) ?_)
            refine WE.done (by decide +kernel) ?_
            (try (refine st_E11_1 ?_; intros))
            exact WQ.join ⟨q2, q4, q6, b, rfl, rfl, rfl, rfl⟩ zsb zpk
        · refine Acts.mk rfl rfl (fun c h => by cases h) ?_
          refine WL.makeRow (k:=N) (sz:=1) (by':=1) (zs:=[.int .u8 0]) rfl rfl rfl rfl rfl rfl rfl rfl rfl rfl (by decide) (by omega) (by omega) rfl ?_; intro q6; refine WL.nil ?_
          refine WQ.acted (B := [.row (some ⟨q6, 0, none⟩) N 5 1 (List.replicate N [.int .u8 0])]) (U := .blk r0 (.cells [.slice none 0 0, .slice none 0 0, .slice none 0 0].toArray 92 (0, 0)) :: H) rfl (Mem.le.refl _) zpk ?_
          refine WE.acts [2] (by decide +kernel) (all_cons ?_ (all_nil))
          · refine Acts.mk rfl rfl (fun c h => by cases h) ?_
            refine WL.makeRow (k:=N + 1) (sz:=1) (by':=16) (zs:=[str []]) rfl rfl (by omega) (by omega) rfl rfl rfl rfl rfl rfl (by decide) (by omega) (by omega) rfl ?_; intro q2; refine WL.nil ?_
            refine WQ.acted (B := [.row (some ⟨q2, 0, none⟩) (N + 1) 9 1 (List.replicate (N + 1) [str []])]) (U := .blk r0 (.cells [.slice none 0 0, .slice none 0 0, .slice none 0 0].toArray 92 (0, 0)) :: H) rfl (Mem.le.refl _) zpk ?_
            (refine WE.calm 7 (by decide +kernel) rfl rfl (by decide +kernel) rfl (fun c h => by cases h) (by intro zm zF zle; exact sq_E11_1) ?_)
            refine WE.done (by decide +kernel) ?_
            (try (refine st_E11_1 ?_; intros))
            exact WQ.join ⟨q2, q4, q6, b, rfl, rfl, rfl, rfl⟩ zsb zpk
    · refine Acts.mk rfl rfl (fun c h => by cases h) ?_
      refine WL.makeRow (k:=N) (sz:=1) (by':=1) (zs:=[.int .u8 0]) rfl rfl rfl rfl rfl rfl rfl rfl rfl rfl (by decide) (by omega) (by omega) rfl ?_; intro q6; refine WL.nil ?_
      refine WQ.acted (B := [.row (some ⟨q6, 0, none⟩) N 5 1 (List.replicate N [.int .u8 0])]) (U := .blk r0 (.cells [.slice none 0 0, .slice none 0 0, .slice none 0 0].toArray 92 (0, 0)) :: H) rfl (Mem.le.refl _) zpk ?_
      refine WE.acts [2, 4, 8] (by decide +kernel) (all_cons ?_ (all_cons ?_ (all_cons ?_ (all_nil))))
      · refine Acts.mk rfl rfl (fun c h => by cases h) ?_
        refine WL.makeRow (k:=N + 1) (sz:=1) (by':=16) (zs:=[str []]) rfl rfl (by omega) (by omega) rfl rfl rfl rfl rfl rfl (by decide) (by omega) (by omega) rfl ?_; intro q2; refine WL.nil ?_
        refine WQ.acted (B := [.row (some ⟨q2, 0, none⟩) (N + 1) 9 1 (List.replicate (N + 1) [str []])]) (U := .blk r0 (.cells [.slice none 0 0, .slice none 0 0, .slice none 0 0].toArray 92 (0, 0)) :: H) rfl (Mem.le.refl _) zpk ?_
        refine WE.acts [4, 8] (by decide +kernel) (all_cons ?_ (all_cons ?_ (all_nil)))
        · refine Acts.mk rfl rfl (fun c h => by cases h) ?_
          refine WL.makeRow (k:=N) (sz:=1) (by':=1) (zs:=[.bool false]) rfl rfl rfl rfl rfl rfl rfl rfl rfl rfl (by decide) (by omega) (by omega) rfl ?_; intro q4; refine WL.nil ?_
          refine WQ.acted (B := [.row (some ⟨q4, 0, none⟩) N 4 1 (List.replicate N [.bool false])]) (U := .blk r0 (.cells [.slice none 0 0, .slice none 0 0, .slice none 0 0].toArray 92 (0, 0)) :: H) rfl (Mem.le.refl _) zpk ?_
          (refine WE.calm 7 (by decide +kernel) rfl rfl (by decide +kernel) rfl (fun c h => by cases h) (by intro zm zF zle; exact sq_E11_1) ?_)
          refine WE.acts [8] (by decide +kernel) (all_cons ?_ (all_nil))
          · refine Acts.mk rfl rfl (fun c h => by cases h) ?_
            refine WL.alloc (cs := [.slice none 0 0, .slice none 0 0, .slice none 0 0]) rfl rfl rfl ?_; intro b; refine WL.nil ?_
            refine WQ.acted (B := [.blk b (.cells [.slice none 0 0, .slice none 0 0, .slice none 0 0].toArray 92 (0, 0))]) (U := .blk r0 (.cells [.slice none 0 0, .slice none 0 0, .slice none 0 0].toArray 92 (0, 0)) :: H) rfl (Mem.le.refl _) zpk ?_
            refine WE.done (by decide +kernel) ?_
            (try (refine st_E11_1 ?_; intros))
            exact WQ.join ⟨q2, q4, q6, b, rfl, rfl, rfl, rfl⟩ zsb zpk
        · refine Acts.mk rfl rfl (fun c h => by cases h) ?_
          refine WL.alloc (cs := [.slice none 0 0, .slice none 0 0, .slice none 0 0]) rfl rfl rfl ?_; intro b; refine WL.nil ?_
          refine WQ.acted (B := [.blk b (.cells [.slice none 0 0, .slice none 0 0, .slice none 0 0].toArray 92 (0, 0))]) (U := .blk r0 (.cells [.slice none 0 0, .slice none 0 0, .slice none 0 0].toArray 92 (0, 0)) :: H) rfl (Mem.le.refl _) zpk ?_
          refine WE.acts [4] (by decide +kernel) (all_cons ?_ (all_nil))
          · refine Acts.mk rfl rfl (fun c h => by cases h) ?_
            refine WL.makeRow (k:=N) (sz:=1) (by':=1) (zs:=[.bool false]) rfl rfl rfl rfl rfl rfl rfl rfl rfl rfl (by decide) (by omega) (by omega) rfl ?_; intro q4; refine WL.nil ?_
            refine WQ.acted (B := [.row (some ⟨q4, 0, none⟩) N 4 1 (List.replicate N [.bool false])]) (U := .blk r0 (.cells [.slice none 0 0, .slice none 0 0, .slice none 0 0].toArray 92 (0, 0)) :: H) rfl (Mem.le.refl _) zpk ?_
            (refine WE.calm 7 (by decide +kernel) rfl rfl (by decide +kernel) rfl (fun c h => by cases h) (by intro zm zF zle; exact sq_E11_1) ?_)
            refine WE.done (by decide +kernel) ?_
            (try (refine st_E11_1 ?_; intros))
            exact WQ.join ⟨q2, q4, q6, b, rfl, rfl, rfl, rfl⟩ zsb zpk
      · refine Acts.mk rfl rfl (fun c h => by cases h) ?_
        refine WL.makeRow (k:=N) (sz:=1) (by':=1) (zs:=[.bool false]) rfl rfl rfl rfl rfl rfl rfl rfl rfl rfl (by decide) (by omega) (by omega) rfl ?_; intro q4; refine WL.nil ?_
        refine WQ.acted (B := [.row (some ⟨q4, 0, none⟩) N 4 1 (List.replicate N [.bool false])]) (U := .blk r0 (.cells [.slice none 0 0, .slice none 0 0, .slice none 0 0].toArray 92 (0, 0)) :: H) rfl (Mem.le.refl _) zpk ?_
        refine WE.acts [2, 8] (by decide +kernel) (all_cons ?_ (all_cons ?_ (all_nil)))
        · refine Acts.mk rfl rfl (fun c h => by cases h) ?_
          refine WL.makeRow (k:=N + 1) (sz:=1) (by':=16) (zs:=[str []]) rfl rfl (by omega) (by omega) rfl rfl rfl rfl rfl rfl (by decide) (by omega) (by omega) rfl ?_; intro q2; refine WL.nil ?_
          refine WQ.acted (B := [.row (some ⟨q2, 0, none⟩) (N + 1) 9 1 (List.replicate (N + 1) [str []])]) (U := .blk r0 (.cells [.slice none 0 0, .slice none 0 0, .slice none 0 0].toArray 92 (0, 0)) :: H) rfl (Mem.le.refl _) zpk ?_
          (refine WE.calm 7 (by decide +kernel) rfl rfl (by decide +kernel) rfl (fun c h => by cases h) (by intro zm zF zle; exact sq_E11_1) ?_)
          refine WE.acts [8] (by decide +kernel) (all_cons ?_ (all_nil))
          · refine Acts.mk rfl rfl (fun c h => by cases h) ?_
            refine WL.alloc (cs := [.slice none 0 0, .slice none 0 0, .slice none 0 0]) rfl rfl rfl ?_; intro b; refine WL.nil ?_
            refine WQ.acted (B := [.blk b (.cells [.slice none 0 0, .slice none 0 0, .slice none 0 0].toArray 92 (0, 0))]) (U := .blk r0 (.cells [.slice none 0 0, .slice none 0 0, .slice none 0 0].toArray 92 (0, 0)) :: H) rfl (Mem.le.refl _) zpk ?_
            refine WE.done (by decide +kernel) ?_
            (try (refine st_E11_1 ?_; intros))
            exact WQ.join ⟨q2, q4, q6, b, rfl, rfl, rfl, rfl⟩ zsb zpk
        · refine Acts.mk rfl rfl (fun c h => by cases h) ?_
          refine WL.alloc (cs := [.slice none 0 0, .slice none 0 0, .slice none 0 0]) rfl rfl rfl ?_; intro b; refine WL.nil ?_
          refine WQ.acted (B := [.blk b (.cells [.slice none 0 0, .slice none 0 0, .slice none 0 0].toArray 92 (0, 0))]) (U := .blk r0 (.cells [.slice none 0 0, .slice none 0 0, .slice none 0 0].toArray 92 (0, 0)) :: H) rfl (Mem.le.refl _) zpk ?_
          refine WE.acts [2] (by decide +kernel) (all_cons ?_ (all_nil))
          · refine Acts.mk rfl rfl (fun c h => by cases h) ?_
            refine WL.makeRow (k:=N + 1) (sz:=1) (by':=16) (zs:=[str []]) rfl rfl (by omega) (by omega) rfl rfl rfl rfl rfl rfl (by decide) (by omega) (by omega) rfl ?_; intro q2; refine WL.nil ?_
            refine WQ.acted (B := [.row (some ⟨q2, 0, none⟩) (N + 1) 9 1 (List.replicate (N + 1) [str []])]) (U := .blk r0 (.cells [.slice none 0 0, .slice none 0 0, .slice none 0 0].toArray 92 (0, 0)) :: H) rfl (Mem.le.refl _) zpk ?_
            (refine WE.calm 7 (by decide +kernel) rfl rfl (by decide +kernel) rfl (fun c h => by cases h) (by intro zm zF zle; exact sq_E11_1) ?_)
            refine WE.done (by decide +kernel) ?_
            (try (refine st_E11_1 ?_; intros))
            exact WQ.join ⟨q2, q4, q6, b, rfl, rfl, rfl, rfl⟩ zsb zpk
      · refine Acts.mk rfl rfl (fun c h => by cases h) ?_
        refine WL.alloc (cs := [.slice none 0 0, .slice none 0 0, .slice none 0 0]) rfl rfl rfl ?_; intro b; refine WL.nil ?_
        refine WQ.acted (B := [.blk b (.cells [.slice none 0 0, .slice none 0 0, .slice none 0 0].toArray 92 (0, 0))]) (U := .blk r0 (.cells [.slice none 0 0, .slice none 0 0, .slice none 0 0].toArray 92 (0, 0)) :: H) rfl (Mem.le.refl _) zpk ?_
        refine WE.acts [2, 4] (by decide +kernel) (all_cons ?_ (all_cons ?_ (all_nil)))
        · refine Acts.mk rfl rfl (fun c h => by cases h) ?_
          refine WL.makeRow (k:=N + 1) (sz:=1) (by':=16) (zs:=[str []]) rfl rfl (by omega) (by omega) rfl rfl rfl rfl rfl rfl (by decide) (by omega) (by omega) rfl ?_; intro q2; refine WL.nil ?_
          refine WQ.acted (B := [.row (some ⟨q2, 0, none⟩) (N + 1) 9 1 (List.replicate (N + 1) [str []])]) (U := .blk r0 (.cells [.slice none 0 0, .slice none 0 0, .slice none 0 0].toArray 92 (0, 0)) :: H) rfl (Mem.le.refl _) zpk ?_
          refine WE.acts [4] (by decide +kernel) (all_cons ?_ (all_nil))
          · refine Acts.mk rfl rfl (fun c h => by cases h) ?_
            refine WL.makeRow (k:=N) (sz:=1) (by':=1) (zs:=[.bool false]) rfl rfl rfl rfl rfl rfl rfl rfl rfl rfl (by decide) (by omega) (by omega) rfl ?_; intro q4; refine WL.nil ?_
            refine WQ.acted (B := [.row (some ⟨q4, 0, none⟩) N 4 1 (List.replicate N [.bool false])]) (U := .blk r0 (.cells [.slice none 0 0, .slice none 0 0, .slice none 0 0].toArray 92 (0, 0)) :: H) rfl (Mem.le.refl _) zpk ?_
            (refine WE.calm 7 (by decide +kernel) rfl rfl (by decide +kernel) rfl (fun c h => by cases h) (by intro zm zF zle; exact sq_E11_1) ?_)
            refine WE.done (by decide +kernel) ?_
            (try (refine st_E11_1 ?_; intros))
            exact WQ.join ⟨q2, q4, q6, b, rfl, rfl, rfl, rfl⟩ zsb zpk
        · refine Acts.mk rfl rfl (fun c h => by cases h) ?_
          refine WL.makeRow (k:=N) (sz:=1) (by':=1) (zs:=[.bool false]) rfl rfl rfl rfl rfl rfl rfl rfl rfl rfl (by decide) (by omega) (by omega) rfl ?_; intro q4; refine WL.nil ?_
          refine WQ.acted (B := [.row (some ⟨q4, 0, none⟩) N 4 1 (List.replicate N [.bool false])]) (U := .blk r0 (.cells [.slice none 0 0, .slice none 0 0, .slice none 0 0].toArray 92 (0, 0)) :: H) rfl (Mem.le.refl _) zpk ?_
          refine WE.acts [2] (by decide +kernel) (all_cons ?_ (all_nil))
          · refine Acts.mk rfl rfl (fun c h => by cases h) ?_
            refine WL.makeRow (k:=N + 1) (sz:=1) (by':=16) (zs:=[str []]) rfl rfl (by omega) (by omega) rfl rfl rfl rfl rfl rfl (by decide) (by omega) (by omega) rfl ?_; intro q2; refine WL.nil ?_
            refine WQ.acted (B := [.row (some ⟨q2, 0, none⟩) (N + 1) 9 1 (List.replicate (N + 1) [str []])]) (U := .blk r0 (.cells [.slice none 0 0, .slice none 0 0, .slice none 0 0].toArray 92 (0, 0)) :: H) rfl (Mem.le.refl _) zpk ?_
            (refine WE.calm 7 (by decide +kernel) rfl rfl (by decide +kernel) rfl (fun c h => by cases h) (by intro zm zF zle; exact sq_E11_1) ?_)
            refine WE.done (by decide +kernel) ?_
            (try (refine st_E11_1 ?_; intros))
            exact WQ.join ⟨q2, q4, q6, b, rfl, rfl, rfl, rfl⟩ zsb zpk
    · refine Acts.mk rfl rfl (fun c h => by cases h) ?_
      refine WL.alloc (cs := [.slice none 0 0, .slice none 0 0, .slice none 0 0]) rfl rfl rfl ?_; intro b; refine WL.nil ?_
      refine WQ.acted (B := [.blk b (.cells [.slice none 0 0, .slice none 0 0, .slice none 0 0].toArray 92 (0, 0))]) (U := .blk r0 (.cells [.slice none 0 0, .slice none 0 0, .slice none 0 0].toArray 92 (0, 0)) :: H) rfl (Mem.le.refl _) zpk ?_
      refine WE.acts [2, 4, 6] (by decide +kernel) (all_cons ?_ (all_cons ?_ (all_cons ?_ (all_nil))))
      · refine Acts.mk rfl rfl (fun c h => by cases h) ?_
        refine WL.makeRow (k:=N + 1) (sz:=1) (by':=16) (zs:=[str []]) rfl rfl (by omega) (by omega) rfl rfl rfl rfl rfl rfl (by decide) (by omega) (by omega) rfl ?_; intro q2; refine WL.nil ?_
        refine WQ.acted (B := [.row (some ⟨q2, 0, none⟩) (N + 1) 9 1 (List.replicate (N + 1) [str []])]) (U := .blk r0 (.cells [.slice none 0 0, .slice none 0 0, .slice none 0 0].toArray 92 (0, 0)) :: H) rfl (Mem.le.refl _) zpk ?_
        refine WE.acts [4, 6] (by decide +kernel) (all_cons ?_ (all_cons ?_ (all_nil)))
        · refine Acts.mk rfl rfl (fun c h => by cases h) ?_
          refine WL.makeRow (k:=N) (sz:=1) (by':=1) (zs:=[.bool false]) rfl rfl rfl rfl rfl rfl rfl rfl rfl rfl (by decide) (by omega) (by omega) rfl ?_; intro q4; refine WL.nil ?_
          refine WQ.acted (B := [.row (some ⟨q4, 0, none⟩) N 4 1 (List.replicate N [.bool false])]) (U := .blk r0 (.cells [.slice none 0 0, .slice none 0 0, .slice none 0 0].toArray 92 (0, 0)) :: H) rfl (Mem.le.refl _) zpk ?_
          refine WE.acts [6] (by decide +kernel) (all_cons ?_ (all_nil))
          · refine Acts.mk rfl rfl (fun c h => by cases h) ?_
            refine WL.makeRow (k:=N) (sz:=1) (by':=1) (zs:=[.int .u8 0]) rfl rfl rfl rfl rfl rfl rfl rfl rfl rfl (by decide) (by omega) (by omega) rfl ?_; intro q6; refine WL.nil ?_
            refine WQ.acted (B := [.row (some ⟨q6, 0, none⟩) N 5 1 (List.replicate N [.int .u8 0])]) (U := .blk r0 (.cells [.slice none 0 0, .slice none 0 0, .slice none 0 0].toArray 92 (0, 0)) :: H) rfl (Mem.le.refl _) zpk ?_
            (refine WE.calm 7 (by decide +kernel) rfl rfl (by decide +kernel) rfl (fun c h => by cases h) (by intro zm zF zle; exact sq_E11_1) ?_)
            refine WE.done (by decide +kernel) ?_
            (try (refine st_E11_1 ?_; intros))
            exact WQ.join ⟨q2, q4, q6, b, rfl, rfl, rfl, rfl⟩ zsb zpk
        · refine Acts.mk rfl rfl (fun c h => by cases h) ?_
          refine WL.makeRow (k:=N) (sz:=1) (by':=1) (zs:=[.int .u8 0]) rfl rfl rfl rfl rfl rfl rfl rfl rfl rfl (by decide) (by omega) (by omega) rfl ?_; intro q6; refine WL.nil ?_
          refine WQ.acted (B := [.row (some ⟨q6, 0, none⟩) N 5 1 (List.replicate N [.int .u8 0])]) (U := .blk r0 (.cells [.slice none 0 0, .slice none 0 0, .slice none 0 0].toArray 92 (0, 0)) :: H) rfl (Mem.le.refl _) zpk ?_
          refine WE.acts [4] (by decide +kernel) (all_cons ?_ (all_nil))
          · refine Acts.mk rfl rfl (fun c h => by cases h) ?_
            refine WL.makeRow (k:=N) (sz:=1) (by':=1) (zs:=[.bool false]) rfl rfl rfl rfl rfl rfl rfl rfl rfl rfl (by decide) (by omega) (by omega) rfl ?_; intro q4; refine WL.nil ?_
            refine WQ.acted (B := [.row (some ⟨q4, 0, none⟩) N 4 1 (List.replicate N [.bool false])]) (U := .blk r0 (.cells [.slice none 0 0, .slice none 0 0, .slice none 0 0].toArray 92 (0, 0)) :: H) rfl (Mem.le.refl _) zpk ?_
            (refine WE.calm 7 (by decide +kernel) rfl rfl (by decide +kernel) rfl (fun c h => by cases h) (by intro zm zF zle; exact sq_E11_1) ?_)
            refine WE.done (by decide +kernel) ?_
            (try (refine st_E11_1 ?_; intros))
            exact WQ.join ⟨q2, q4, q6, b, rfl, rfl, rfl, rfl⟩ zsb zpk
      · refine Acts.mk rfl rfl (fun c h => by cases h) ?_
        refine WL.makeRow (k:=N) (sz:=1) (by':=1) (zs:=[.bool false]) rfl rfl rfl rfl rfl rfl rfl rfl rfl rfl (by decide) (by omega) (by omega) rfl ?_; intro q4; refine WL.nil ?_
        refine WQ.acted (B := [.row (some ⟨q4, 0, none⟩) N 4 1 (List.replicate N [.bool false])]) (U := .blk r0 (.cells [.slice none 0 0, .slice none 0 0, .slice none 0 0].toArray 92 (0, 0)) :: H) rfl (Mem.le.refl _) zpk ?_
        refine WE.acts [2, 6] (by decide +kernel) (all_cons ?_ (all_cons ?_ (all_nil)))
        · refine Acts.mk rfl rfl (fun c h => by cases h) ?_
          refine WL.makeRow (k:=N + 1) (sz:=1) (by':=16) (zs:=[str []]) rfl rfl (by omega) (by omega) rfl rfl rfl rfl rfl rfl (by decide) (by omega) (by omega) rfl ?_; intro q2; refine WL.nil ?_
          refine WQ.acted (B := [.row (some ⟨q2, 0, none⟩) (N + 1) 9 1 (List.replicate (N + 1) [str []])]) (U := .blk r0 (.cells [.slice none 0 0, .slice none 0 0, .slice none 0 0].toArray 92 (0, 0)) :: H) rfl (Mem.le.refl _) zpk ?_
          refine WE.acts [6] (by decide +kernel) (all_cons ?_ (all_nil))
          · refine Acts.mk rfl rfl (fun c h => by cases h) ?_
            refine WL.makeRow (k:=N) (sz:=1) (by':=1) (zs:=[.int .u8 0]) rfl rfl rfl rfl rfl rfl rfl rfl rfl rfl (by decide) (by omega) (by omega) rfl ?_; intro q6; refine WL.nil ?_
            refine WQ.acted (B := [.row (some ⟨q6, 0, none⟩) N 5 1 (List.replicate N [.int .u8 0])]) (U := .blk r0 (.cells [.slice none 0 0, .slice none 0 0, .slice none 0 0].toArray 92 (0, 0)) :: H) rfl (Mem.le.refl _) zpk ?_
            (refine WE.calm 7 (by decide +kernel) rfl rfl (by decide +kernel) rfl (fun c h => by cases h) (by intro zm zF zle; exact sq_E11_1) ?_)
            refine WE.done (by decide +kernel) ?_
            (try (refine st_E11_1 ?_; intros))
            exact WQ.join ⟨q2, q4, q6, b, rfl, rfl, rfl, rfl⟩ zsb zpk
        · refine Acts.mk rfl rfl (fun c h => by cases h) ?_
          refine WL.makeRow (k:=N) (sz:=1) (by':=1) (zs:=[.int .u8 0]) rfl rfl rfl rfl rfl rfl rfl rfl rfl rfl (by decide) (by omega) (by omega) rfl ?_; intro q6; refine WL.nil ?_
          refine WQ.acted (B := [.row (some ⟨q6, 0, none⟩) N 5 1 (List.replicate N [.int .u8 0])]) (U := .blk r0 (.cells [.slice none 0 0, .slice none 0 0, .slice none 0 0].toArray 92 (0, 0)) :: H) rfl (Mem.le.refl _) zpk ?_
          refine WE.acts [2] (by decide +kernel) (all_cons ?_ (all_nil))
          · refine Acts.mk rfl rfl (fun c h => by cases h) ?_
            refine WL.makeRow (k:=N + 1) (sz:=1) (by':=16) (zs:=[str []]) rfl rfl (by omega) (by omega) rfl rfl rfl rfl rfl rfl (by decide) (by omega) (by omega) rfl ?_; intro q2; refine WL.nil ?_
            refine WQ.acted (B := [.row (some ⟨q2, 0, none⟩) (N + 1) 9 1 (List.replicate (N + 1) [str []])]) (U := .blk r0 (.cells [.slice none 0 0, .slice none 0 0, .slice none 0 0].toArray 92 (0, 0)) :: H) rfl (Mem.le.refl _) zpk ?_
            (refine WE.calm 7 (by decide +kernel) rfl rfl (by decide +kernel) rfl (fun c h => by cases h) (by intro zm zF zle; exact sq_E11_1) ?_)
            refine WE.done (by decide +kernel) ?_
            (try (refine st_E11_1 ?_; intros))
            exact WQ.join ⟨q2, q4, q6, b, rfl, rfl, rfl, rfl⟩ zsb zpk
      · refine Acts.mk rfl rfl (fun c h => by cases h) ?_
        refine WL.makeRow (k:=N) (sz:=1) (by':=1) (zs:=[.int .u8 0]) rfl rfl rfl rfl rfl rfl rfl rfl rfl rfl (by decide) (by omega) (by omega) rfl ?_; intro q6; refine WL.nil ?_
        refine WQ.acted (B := [.row (some ⟨q6, 0, none⟩) N 5 1 (List.replicate N [.int .u8 0])]) (U := .blk r0 (.cells [.slice none 0 0, .slice none 0 0, .slice none 0 0].toArray 92 (0, 0)) :: H) rfl (Mem.le.refl _) zpk ?_
        refine WE.acts [2, 4] (by decide +kernel) (all_cons ?_ (all_cons ?_ (all_nil)))
        · refine Acts.mk rfl rfl (fun c h => by cases h) ?_
          refine WL.makeRow (k:=N + 1) (sz:=1) (by':=16) (zs:=[str []]) rfl rfl (by omega) (by omega) rfl rfl rfl rfl rfl rfl (by decide) (by omega) (by omega) rfl ?_; intro q2; refine WL.nil ?_
          refine WQ.acted (B := [.row (some ⟨q2, 0, none⟩) (N + 1) 9 1 (List.replicate (N + 1) [str []])]) (U := .blk r0 (.cells [.slice none 0 0, .slice none 0 0, .slice none 0 0].toArray 92 (0, 0)) :: H) rfl (Mem.le.refl _) zpk ?_
          refine WE.acts [4] (by decide +kernel) (all_cons ?_ (all_nil))
          · refine Acts.mk rfl rfl (fun c h => by cases h) ?_
            refine WL.makeRow (k:=N) (sz:=1) (by':=1) (zs:=[.bool false]) rfl rfl rfl rfl rfl rfl rfl rfl rfl rfl (by decide) (by omega) (by omega) rfl ?_; intro q4; refine WL.nil ?_
            refine WQ.acted (B := [.row (some ⟨q4, 0, none⟩) N 4 1 (List.replicate N [.bool false])]) (U := .blk r0 (.cells [.slice none 0 0, .slice none 0 0, .slice none 0 0].toArray 92 (0, 0)) :: H) rfl (Mem.le.refl _) zpk ?_
            (refine WE.calm 7 (by decide +kernel) rfl rfl (by decide +kernel) rfl (fun c h => by cases h) (by intro zm zF zle; exact sq_E11_1) ?_)
            refine WE.done (by decide +kernel) ?_
            (try (refine st_E11_1 ?_; intros))
            exact WQ.join ⟨q2, q4, q6, b, rfl, rfl, rfl, rfl⟩ zsb zpk
        · refine Acts.mk rfl rfl (fun c h => by cases h) ?_
          refine WL.makeRow (k:=N) (sz:=1) (by':=1) (zs:=[.bool false]) rfl rfl rfl rfl rfl rfl rfl rfl rfl rfl (by decide) (by omega) (by omega) rfl ?_; intro q4; refine WL.nil ?_
          refine WQ.acted (B := [.row (some ⟨q4, 0, none⟩) N 4 1 (List.replicate N [.bool false])]) (U := .blk r0 (.cells [.slice none 0 0, .slice none 0 0, .slice none 0 0].toArray 92 (0, 0)) :: H) rfl (Mem.le.refl _) zpk ?_
          refine WE.acts [2] (by decide +kernel) (all_cons ?_ (all_nil))
          · refine Acts.mk rfl rfl (fun c h => by cases h) ?_
            refine WL.makeRow (k:=N + 1) (sz:=1) (by':=16) (zs:=[str []]) rfl rfl (by omega) (by omega) rfl rfl rfl rfl rfl rfl (by decide) (by omega) (by omega) rfl ?_; intro q2; refine WL.nil ?_
            refine WQ.acted (B := [.row (some ⟨q2, 0, none⟩) (N + 1) 9 1 (List.replicate (N + 1) [str []])]) (U := .blk r0 (.cells [.slice none 0 0, .slice none 0 0, .slice none 0 0].toArray 92 (0, 0)) :: H) rfl (Mem.le.refl _) zpk ?_
            (refine WE.calm 7 (by decide +kernel) rfl rfl (by decide +kernel) rfl (fun c h => by cases h) (by intro zm zF zle; exact sq_E11_1) ?_)
            refine WE.done (by decide +kernel) ?_
            (try (refine st_E11_1 ?_; intros))
            exact WQ.join ⟨q2, q4, q6, b, rfl, rfl, rfl, rfl⟩ zsb zpk
  rintro _ _ _ _ ⟨q2, q4, q6, b, rfl, rfl, rfl, rfl⟩
  obtain ⟨s1, s2, s3⟩ := pads_start N
  rw [← s1, ← s2, ← s3]
  (try (refine st_E11_1 ?_; intros))
  have hg0 : atOf Gs.start = 0 ∧ gapAt Gs.start = 0 := by unfold atOf gapAt; exact ⟨rfl, rfl⟩
  refine WC.loopH [(9, .int .i64 ((0) : Int)), (8, .int .i64 ((0) : Int)), (7, .int .i64 ((0) : Int)), (6, .pointer (some ⟨b, 0, none⟩)), (2, .pointer (some ⟨r0, 0, none⟩)), (0, .slice a l.length cap)] ?_ ?_ (fun j r ds m' H' => ∃ (i : Nat) (g : Gs) (ga : Nat) (p : Nat), j = l.length - i ∧ r = [(9, .int .i64 (i : Int)), (8, .int .i64 (ga : Int)), (7, .int .i64 (p : Int)), (6, .pointer (some ⟨b, 0, none⟩)), (2, .pointer (some ⟨r0, 0, none⟩)), (0, .slice a l.length cap)] ∧ ds = [] ∧ m = m' ∧ H' = .blk b (.cells [.slice (some ⟨q2, 0, none⟩) (N + 1) (N + 1), .slice (some ⟨q4, 0, none⟩) N N, .slice (some ⟨q6, 0, none⟩) N N].toArray 92 (0, 0)) :: .blk r0 (.cells [.slice none 0 0, .slice none 0 0, .slice none 0 0].toArray 92 (0, 0)) :: .row (some ⟨q2, 0, none⟩) (N + 1) 9 1 ((putsPad N g).map sV) :: .row (some ⟨q4, 0, none⟩) N 4 1 ((dropsPad N g).map oV) :: .row (some ⟨q6, 0, none⟩) N 5 1 ((bytesPad N g).map uV) :: H ∧ (i ≤ l.length) ∧ (ga = gapAt g) ∧ (p = atOf g) ∧ ((l.drop i).foldl Gs.step g = gapsOf l) ∧ (atOf g + fromA (atomsOf (l.drop i)) = N) ∧ (g = gapsOf (l.take i))) (l.length - (0)) ⟨0, Gs.start, 0, 0, rfl, rfl, rfl, rfl, rfl, by omega, hg0.2.symm, hg0.1.symm, rfl, by rw [List.drop_zero]; omega, by rw [List.take_zero]; rfl⟩ ?_
  · (repeat (first | exact Env.Sub.nil | refine Env.Sub.cons rfl ?_))
  · exact zpk
  rintro j r ds m' H' ⟨i, g, ga, p, rfl, rfl, rfl, rfl, rfl, hi, hga0, hp0, hg, hN, hgr⟩
  subst hga0; subst hp0
  have hat : atOf g ≤ N := by omega
  obtain ⟨p1, p2, p3⟩ := pads_len hat
  have hga : gapAt g ≤ atOf g := by unfold atOf; omega
  by_cases hlt : i < l.length
  · obtain ⟨x, hx, hget, htk, hmem, hdr⟩ := at_idx (f := Stp.cs) hlt
    have hxok := hok x hmem
    rw [hdr, List.foldl_cons, step_parts hxok] at hg
    rw [hdr, atoms_cons, fromA_append, from_step] at hN
    have hxp := hf.p x hmem
    have hxd := hf.d x hmem
    have hxk := hf.k x hmem
    have hr1 := ((((hr.more (i := .row (some ⟨q6, 0, none⟩) N 5 1 ((bytesPad N g).map uV))).more (i := .row (some ⟨q4, 0, none⟩) N 4 1 ((dropsPad N g).map oV))).more (i := .row (some ⟨q2, 0, none⟩) (N + 1) 9 1 ((putsPad N g).map sV))).more (i := .blk r0 (.cells [.slice none 0 0, .slice none 0 0, .slice none 0 0].toArray 92 (0, 0)))).more (i := .blk b (.cells [.slice (some ⟨q2, 0, none⟩) (N + 1) (N + 1), .slice (some ⟨q4, 0, none⟩) N N, .slice (some ⟨q6, 0, none⟩) N N].toArray 92 (0, 0)))
    refine WC.rSome hr1 (by omega) ?_
    rintro a0 rfl
    obtain ⟨u1, u2⟩ := put_puts (N := N) (g := g) (s := x.p) hat
    obtain ⟨u3, u4⟩ := put_at g x.p
    have u5 : ((putsPad N g).map sV)[gapAt g]? = some [str g.cur.p] := by rw [List.getElem?_map, u2]; rfl
    have u6 : ((putsPad N g).map sV).set (gapAt g) [str (g.cur.p ++ x.p)] = (putsPad N (g.put x.p)).map sV := by rw [u1, List.map_set]; rfl
    (refine st_E11_1 ?_; intros; rename_i bx)
    refine WC.join (fun r' ds' m' H' => r' = [(6, .pointer (some ⟨b, 0, none⟩)), (7, .int .i64 (atOf g : Int)), (8, .int .i64 (gapAt g : Int)), (9, .int .i64 (i : Int)), (10, .pointer (some ⟨bx, 0, none⟩)), (2, .pointer (some ⟨r0, 0, none⟩)), (0, .slice (some a0) l.length cap)] ∧ ds' = [] ∧ m = m' ∧ H' = .blk bx (.cells [.int .i64 x.k, str x.d, str x.p].toArray 84 (0, 0)) :: .blk b (.cells [.slice (some ⟨q2, 0, none⟩) (N + 1) (N + 1), .slice (some ⟨q4, 0, none⟩) N N, .slice (some ⟨q6, 0, none⟩) N N].toArray 92 (0, 0)) :: .blk r0 (.cells [.slice none 0 0, .slice none 0 0, .slice none 0 0].toArray 92 (0, 0)) :: .row (some ⟨q2, 0, none⟩) (N + 1) 9 1 ((putsPad N (g.put x.p)).map sV) :: .row (some ⟨q4, 0, none⟩) N 4 1 ((dropsPad N g).map oV) :: .row (some ⟨q6, 0, none⟩) N 5 1 ((bytesPad N g).map uV) :: H) ?_ ?_
    · by_cases hp : x.p = []
      · have e : g.put x.p = g := by rw [hp, put_nil]
        rw [e]
        (try (refine st_E11_1 ?_; intros))
        exact WQ.join ⟨rfl, rfl, rfl, rfl⟩ zsb zpk
      · have hpn : g.cur.p.length ≤ 100000000000 := by
          have := cur_len hok i
          rw [← hgr] at this
          omega
        (try (refine st_E11_1 ?_; intros))
        rw [u6]
        exact WQ.join ⟨rfl, rfl, rfl, rfl⟩ zsb zpk
    rintro _ _ _ _ ⟨rfl, rfl, rfl, rfl⟩
    have v1 : dropsPad N (g.put x.p) = dropsPad N g ∧ bytesPad N (g.put x.p) = bytesPad N g := by
      unfold dropsPad bytesPad Gs.put; exact ⟨rfl, rfl⟩
    rw [← v1.1, ← v1.2]
    (try (refine st_E11_1 ?_; intros))
    refine WC.loopH [(11, .int .i64 ((0) : Int)), (6, .pointer (some ⟨b, 0, none⟩)), (7, .int .i64 ((atOf g) : Int)), (8, .int .i64 (gapAt g : Int)), (9, .int .i64 (i : Int)), (10, .pointer (some ⟨bx, 0, none⟩)), (2, .pointer (some ⟨r0, 0, none⟩)), (0, .slice (some a0) l.length cap)] ?_ ?_ (fun j r ds m' H' => ∃ (q : Nat) (p : Nat) (gd : Gs), j = x.d.length - q ∧ r = [(11, .int .i64 (q : Int)), (6, .pointer (some ⟨b, 0, none⟩)), (7, .int .i64 (p : Int)), (8, .int .i64 (gapAt g : Int)), (9, .int .i64 (i : Int)), (10, .pointer (some ⟨bx, 0, none⟩)), (2, .pointer (some ⟨r0, 0, none⟩)), (0, .slice (some a0) l.length cap)] ∧ ds = [] ∧ m = m' ∧ H' = .blk bx (.cells [.int .i64 x.k, str x.d, str x.p].toArray 84 (0, 0)) :: .blk b (.cells [.slice (some ⟨q2, 0, none⟩) (N + 1) (N + 1), .slice (some ⟨q4, 0, none⟩) N N, .slice (some ⟨q6, 0, none⟩) N N].toArray 92 (0, 0)) :: .blk r0 (.cells [.slice none 0 0, .slice none 0 0, .slice none 0 0].toArray 92 (0, 0)) :: .row (some ⟨q2, 0, none⟩) (N + 1) 9 1 ((putsPad N gd).map sV) :: .row (some ⟨q4, 0, none⟩) N 4 1 ((dropsPad N gd).map oV) :: .row (some ⟨q6, 0, none⟩) N 5 1 ((bytesPad N gd).map uV) :: H ∧ (q ≤ x.d.length) ∧ (gd = (g.put x.p).drops (x.d.take q)) ∧ (p = atOf gd) ∧ (p = atOf g + q)) (x.d.length - (0)) ⟨0, atOf g, g.put x.p, rfl, rfl, rfl, rfl, rfl, by omega, by rw [List.take_zero, drops_nil], by rw [u3], by omega⟩ ?_
    · (repeat (first | exact Env.Sub.nil | refine Env.Sub.cons rfl ?_))
    · exact zpk
    rintro j r ds m' H' ⟨q, p, gd, rfl, rfl, rfl, rfl, rfl, hj, hgd, hp0, hpj⟩
    subst hp0
    by_cases hjl : q < x.d.length
    · obtain ⟨k1, k2, k3, k4, k5⟩ := byte_drops (N := N) (g := gd) (b := x.d[q]) (by omega)
      obtain ⟨z1, z2, z3⟩ := pads_len (N := N) (g := gd) (by omega)
      have k6 : ((dropsPad N gd).map oV).set (atOf gd) [.bool true] = (dropsPad N (gd.byte x.d[q])).map oV := by rw [k1, List.map_set]; rfl
      have k7 : ((bytesPad N gd).map uV).set (atOf gd) [.int .u8 (gb x.d q : Int)] = (bytesPad N (gd.byte x.d[q])).map uV := by rw [k2, List.map_set, gb_at hjl]; rfl
      (try (refine st_E11_1 ?_; intros))
      rw [k6, k7, ← k3]
      refine WQ.next (x.d.length - (q + 1)) ⟨q + 1, atOf gd + 1, gd.byte x.d[q], rfl, rfl, rfl, rfl, rfl, ?_, ?_, ?_, ?_⟩ (by omega) zsb zpk
      · omega
      · rw [hgd, List.take_succ_eq_append_getElem hjl, drops_snoc]
      · rw [k4]
      · omega
    · have hjx : q = x.d.length := by omega
      rw [hjx, List.take_length] at hgd
      obtain ⟨w1, w2⟩ := drops_at (g.put x.p) x.d
      rw [← hgd, u3] at w1
      rw [← hgd, u4] at w2
      by_cases hk : 0 < x.k
      · rw [if_pos hk, ← hgd] at hg
        obtain ⟨k1, k2, k3, k4, k5⟩ := keep_pads (N := N) (g := gd) (n := x.k.toNat) (by omega) (by omega)
        rw [← k1, ← k2, ← k3]
        have e : (atOf gd : Int) + x.k = ((atOf gd + x.k.toNat : Nat) : Int) := by omega
        (try (refine st_E11_1 ?_; intros))
        rw [e]
        refine WQ.next (l.length - (i + 1)) ⟨i + 1, gd.keeps x.k.toNat, atOf gd + x.k.toNat, atOf gd + x.k.toNat, rfl, rfl, rfl, rfl, rfl, ?_, ?_, ?_, ?_, ?_, ?_⟩ (by omega) zsb zpk
        · omega
        · exact k4.symm
        · exact k5.symm
        · exact hg
        · omega
        · rw [gaps_next htk, ← hgr, step_parts hxok, if_pos hk, ← hgd]
      · rw [if_neg hk, ← hgd] at hg
        (try (refine st_E11_1 ?_; intros))
        refine WQ.next (l.length - (i + 1)) ⟨i + 1, gd, gapAt g, atOf gd, rfl, rfl, rfl, rfl, rfl, ?_, ?_, ?_, ?_, ?_, ?_⟩ (by omega) zsb zpk
        · omega
        · exact w2.symm
        · rfl
        · exact hg
        · omega
        · rw [gaps_next htk, ← hgr, step_parts hxok, if_neg hk, ← hgd]
  · obtain rfl : i = l.length := by omega
    rw [List.drop_length, List.foldl_nil] at hg
    rw [List.drop_length] at hN
    obtain ⟨f1, f2, f3⟩ := pads_full (N := N) (g := g) (by rw [← hN]; rfl)
    rw [f1] at p2; rw [f2] at p3; rw [f3] at p1
    rw [f1, f2, f3]
    subst hg
    have p1' : N + 1 = (putsOf (gapsOf l)).length := by rw [← p1, List.length_map]
    have p2' : N = (dropsOf (gapsOf l)).length := by rw [← p2, List.length_map]
    have p3' : N = (bytesOf (gapsOf l)).length := by rw [← p3, List.length_map]
    (try (refine st_E11_1 ?_; intros))
    exact q_fin0 (H0 := .row (some ⟨q2, 0, none⟩) (N + 1) 9 1 ((putsOf (gapsOf l)).map sV) :: .row (some ⟨q4, 0, none⟩) N 4 1 ((dropsOf (gapsOf l)).map oV) :: .row (some ⟨q6, 0, none⟩) N 5 1 ((bytesOf (gapsOf l)).map uV) :: H) ⟨rfl, q2, q4, q6, by rw [← p1', ← p2', ← p3'], by rw [← p1', ← p2', ← p3']⟩ (hd := zpk)
end Go.Proofs.Ytelgegefmjlimaa

/-
  The walk of the reference's Compose: two changes, one behind the other. No condition.
-/
namespace Go.Eng
open Go Go.RowKit
def mV (x : Int × UInt8) : List Value := [.int .i64 x.1, .int .u8 (x.2.toNat : Int)]
end Go.Eng
namespace Go.Proofs.Ytelgegefmjlimaa
open Go Go.Eng
set_option maxRecDepth 100000
set_option maxHeartbeats 4000000
set_option linter.all false
attribute [local irreducible] WL WC WQ QFun QLoop Does Q1 QRound QAssign Go.Addr.add
attribute [local irreducible] sizesF sizesOf cmpT putsOf dropsOf bytesOf gapsOf midsTo
theorem cmx_E16_0 {G G' : Prop} (next : G') (h : Bx G' → G := by intro zzn; (try (refine wcal 0 ?_ (hwl := by intro zm zF zle; try refine WL.blkStr (s := [d]) rfl zhs rfl rfl rfl rfl rfl rfl rfl ?_; ((repeat (refine sp ?_; intros)); exact WQ.q1 rfl)))); (try (refine wcal 1 ?_ (hwl := by intro zm zF zle; try refine WL.blkStr (s := [d]) rfl zhs rfl rfl rfl rfl rfl rfl rfl ?_; ((repeat (refine sp ?_; intros)); exact WQ.q1 rfl)))); (try (refine wcal 2 ?_ (hwl := by intro zm zF zle; try refine WL.blkStr (s := [d]) rfl zhs rfl rfl rfl rfl rfl rfl rfl ?_; ((repeat (refine sp ?_; intros)); exact WQ.q1 rfl)))); (try (refine wcal 3 ?_ (hwl := by intro zm zF zle; try refine WL.blkStr (s := [d]) rfl zhs rfl rfl rfl rfl rfl rfl rfl ?_; ((repeat (refine sp ?_; intros)); exact WQ.q1 rfl)))); (try (refine wcal 4 ?_ (hwl := by intro zm zF zle; try refine WL.blkStr (s := [d]) rfl zhs rfl rfl rfl rfl rfl rfl rfl ?_; ((repeat (refine sp ?_; intros)); exact WQ.q1 rfl)))); (try (refine wcal 5 ?_ (hwl := by intro zm zF zle; try refine WL.blkStr (s := [d]) rfl zhs rfl rfl rfl rfl rfl rfl rfl ?_; ((repeat (refine sp ?_; intros)); exact WQ.q1 rfl)))); (try (refine wcal 6 ?_ (hwl := by intro zm zF zle; try refine WL.blkStr (s := [d]) rfl zhs rfl rfl rfl rfl rfl rfl rfl ?_; ((repeat (refine sp ?_; intros)); exact WQ.q1 rfl)))); (try (refine wcal 7 ?_ (hwl := by intro zm zF zle; try refine WL.blkStr (s := [d]) rfl zhs rfl rfl rfl rfl rfl rfl rfl ?_; ((repeat (refine sp ?_; intros)); exact WQ.q1 rfl)))); (try (refine wcal 8 ?_ (hwl := by intro zm zF zle; try refine WL.blkStr (s := [d]) rfl zhs rfl rfl rfl rfl rfl rfl rfl ?_; ((repeat (refine sp ?_; intros)); exact WQ.q1 rfl)))); (try (refine wcal 9 ?_ (hwl := by intro zm zF zle; try refine WL.blkStr (s := [d]) rfl zhs rfl rfl rfl rfl rfl rfl rfl ?_; ((repeat (refine sp ?_; intros)); exact WQ.q1 rfl)))); (try (refine wcal 10 ?_ (hwl := by intro zm zF zle; try refine WL.blkStr (s := [d]) rfl zhs rfl rfl rfl rfl rfl rfl rfl ?_; ((repeat (refine sp ?_; intros)); exact WQ.q1 rfl)))); (try (refine wcal 11 ?_ (hwl := by intro zm zF zle; try refine WL.blkStr (s := [d]) rfl zhs rfl rfl rfl rfl rfl rfl rfl ?_; ((repeat (refine sp ?_; intros)); exact WQ.q1 rfl)))); (try (refine wcal 12 ?_ (hwl := by intro zm zF zle; try refine WL.blkStr (s := [d]) rfl zhs rfl rfl rfl rfl rfl rfl rfl ?_; ((repeat (refine sp ?_; intros)); exact WQ.q1 rfl)))); (try (refine wcal 13 ?_ (hwl := by intro zm zF zle; try refine WL.blkStr (s := [d]) rfl zhs rfl rfl rfl rfl rfl rfl rfl ?_; ((repeat (refine sp ?_; intros)); exact WQ.q1 rfl)))); (try (refine wcal 14 ?_ (hwl := by intro zm zF zle; try refine WL.blkStr (s := [d]) rfl zhs rfl rfl rfl rfl rfl rfl rfl ?_; ((repeat (refine sp ?_; intros)); exact WQ.q1 rfl)))); (try (refine wcal 15 ?_ (hwl := by intro zm zF zle; try refine WL.blkStr (s := [d]) rfl zhs rfl rfl rfl rfl rfl rfl rfl ?_; ((repeat (refine sp ?_; intros)); exact WQ.q1 rfl)))); (try (refine wcal 16 ?_ (hwl := by intro zm zF zle; try refine WL.blkStr (s := [d]) rfl zhs rfl rfl rfl rfl rfl rfl rfl ?_; ((repeat (refine sp ?_; intros)); exact WQ.q1 rfl)))); (try (refine wcal 17 ?_ (hwl := by intro zm zF zle; try refine WL.blkStr (s := [d]) rfl zhs rfl rfl rfl rfl rfl rfl rfl ?_; ((repeat (refine sp ?_; intros)); exact WQ.q1 rfl)))); (try (refine wcal 18 ?_ (hwl := by intro zm zF zle; try refine WL.blkStr (s := [d]) rfl zhs rfl rfl rfl rfl rfl rfl rfl ?_; ((repeat (refine sp ?_; intros)); exact WQ.q1 rfl)))); (try (refine wcal 19 ?_ (hwl := by intro zm zF zle; try refine WL.blkStr (s := [d]) rfl zhs rfl rfl rfl rfl rfl rfl rfl ?_; ((repeat (refine sp ?_; intros)); exact WQ.q1 rfl)))); (try (refine wcal 20 ?_ (hwl := by intro zm zF zle; try refine WL.blkStr (s := [d]) rfl zhs rfl rfl rfl rfl rfl rfl rfl ?_; ((repeat (refine sp ?_; intros)); exact WQ.q1 rfl)))); (try (refine wcal 21 ?_ (hwl := by intro zm zF zle; try refine WL.blkStr (s := [d]) rfl zhs rfl rfl rfl rfl rfl rfl rfl ?_; ((repeat (refine sp ?_; intros)); exact WQ.q1 rfl)))); (try (refine wcal 22 ?_ (hwl := by intro zm zF zle; try refine WL.blkStr (s := [d]) rfl zhs rfl rfl rfl rfl rfl rfl rfl ?_; ((repeat (refine sp ?_; intros)); exact WQ.q1 rfl)))); (try (refine wcal 23 ?_ (hwl := by intro zm zF zle; try refine WL.blkStr (s := [d]) rfl zhs rfl rfl rfl rfl rfl rfl rfl ?_; ((repeat (refine sp ?_; intros)); exact WQ.q1 rfl)))); (try (refine wcal 24 ?_ (hwl := by intro zm zF zle; try refine WL.blkStr (s := [d]) rfl zhs rfl rfl rfl rfl rfl rfl rfl ?_; ((repeat (refine sp ?_; intros)); exact WQ.q1 rfl)))); (try (refine wcal 25 ?_ (hwl := by intro zm zF zle; try refine WL.blkStr (s := [d]) rfl zhs rfl rfl rfl rfl rfl rfl rfl ?_; ((repeat (refine sp ?_; intros)); exact WQ.q1 rfl)))); (try (refine wcal 26 ?_ (hwl := by intro zm zF zle; try refine WL.blkStr (s := [d]) rfl zhs rfl rfl rfl rfl rfl rfl rfl ?_; ((repeat (refine sp ?_; intros)); exact WQ.q1 rfl)))); (try (refine wcal 27 ?_ (hwl := by intro zm zF zle; try refine WL.blkStr (s := [d]) rfl zhs rfl rfl rfl rfl rfl rfl rfl ?_; ((repeat (refine sp ?_; intros)); exact WQ.q1 rfl)))); (try (refine wcal 28 ?_ (hwl := by intro zm zF zle; try refine WL.blkStr (s := [d]) rfl zhs rfl rfl rfl rfl rfl rfl rfl ?_; ((repeat (refine sp ?_; intros)); exact WQ.q1 rfl)))); (try (refine wcal 29 ?_ (hwl := by intro zm zF zle; try refine WL.blkStr (s := [d]) rfl zhs rfl rfl rfl rfl rfl rfl rfl ?_; ((repeat (refine sp ?_; intros)); exact WQ.q1 rfl)))); (try (refine wcal 30 ?_ (hwl := by intro zm zF zle; try refine WL.blkStr (s := [d]) rfl zhs rfl rfl rfl rfl rfl rfl rfl ?_; ((repeat (refine sp ?_; intros)); exact WQ.q1 rfl)))); (try (refine wcal 31 ?_ (hwl := by intro zm zF zle; try refine WL.blkStr (s := [d]) rfl zhs rfl rfl rfl rfl rfl rfl rfl ?_; ((repeat (refine sp ?_; intros)); exact WQ.q1 rfl)))); (try (refine wcal 32 ?_ (hwl := by intro zm zF zle; try refine WL.blkStr (s := [d]) rfl zhs rfl rfl rfl rfl rfl rfl rfl ?_; ((repeat (refine sp ?_; intros)); exact WQ.q1 rfl)))); (try (refine wcal 33 ?_ (hwl := by intro zm zF zle; try refine WL.blkStr (s := [d]) rfl zhs rfl rfl rfl rfl rfl rfl rfl ?_; ((repeat (refine sp ?_; intros)); exact WQ.q1 rfl)))); (try (refine wcal 34 ?_ (hwl := by intro zm zF zle; try refine WL.blkStr (s := [d]) rfl zhs rfl rfl rfl rfl rfl rfl rfl ?_; ((repeat (refine sp ?_; intros)); exact WQ.q1 rfl)))); (try (refine wcal 35 ?_ (hwl := by intro zm zF zle; try refine WL.blkStr (s := [d]) rfl zhs rfl rfl rfl rfl rfl rfl rfl ?_; ((repeat (refine sp ?_; intros)); exact WQ.q1 rfl)))); (try (refine wcal 36 ?_ (hwl := by intro zm zF zle; try refine WL.blkStr (s := [d]) rfl zhs rfl rfl rfl rfl rfl rfl rfl ?_; ((repeat (refine sp ?_; intros)); exact WQ.q1 rfl)))); (try (refine wcal 37 ?_ (hwl := by intro zm zF zle; try refine WL.blkStr (s := [d]) rfl zhs rfl rfl rfl rfl rfl rfl rfl ?_; ((repeat (refine sp ?_; intros)); exact WQ.q1 rfl)))); (try (refine wcal 38 ?_ (hwl := by intro zm zF zle; try refine WL.blkStr (s := [d]) rfl zhs rfl rfl rfl rfl rfl rfl rfl ?_; ((repeat (refine sp ?_; intros)); exact WQ.q1 rfl)))); (try (refine wcal 39 ?_ (hwl := by intro zm zF zle; try refine WL.blkStr (s := [d]) rfl zhs rfl rfl rfl rfl rfl rfl rfl ?_; ((repeat (refine sp ?_; intros)); exact WQ.q1 rfl)))); (try (refine wcal 40 ?_ (hwl := by intro zm zF zle; try refine WL.blkStr (s := [d]) rfl zhs rfl rfl rfl rfl rfl rfl rfl ?_; ((repeat (refine sp ?_; intros)); exact WQ.q1 rfl)))); (try (refine wcal 41 ?_ (hwl := by intro zm zF zle; try refine WL.blkStr (s := [d]) rfl zhs rfl rfl rfl rfl rfl rfl rfl ?_; ((repeat (refine sp ?_; intros)); exact WQ.q1 rfl)))); exact zzn.out) : G := h ⟨next⟩
theorem mdrop_any {b : Nat} {c : Option Addr} {cp : Nat} (B : Bld) (d : UInt8) (hB : B.d.length ≤ 100000000000) (w0 : World) (m : Mem) (H : SHeap) :
    Does Try.prog 49 #[.pointer (some ⟨b, 0, none⟩), .int .u8 (d.toNat : Int)] w0 m (.blk b (.cells [.slice c B.l.length cp, str B.p, str B.d].toArray 109 (0, 0)) :: H)
      (fun v m' H' => v = .tuple #[] ∧ m' = m ∧ H' = .blk b (.cells [.slice c B.l.length cp, str B.p, str (B.d ++ [d])].toArray 109 (0, 0)) :: H) := by
  refine Does.of_body (args := [.pointer (some ⟨b, 0, none⟩), .int .u8 (d.toNat : Int)]) Try.func49 rfl Try.ntmps49 rfl ?_
  have hd1 : [d].length = 1 := rfl
  refine WC.drawE 11 ([.blk b (.cells [.slice c B.l.length cp, str B.p, str B.d].toArray 109 (0, 0))]) (H) rfl (by decide +kernel) zpk ?_
  (refine cm0 ?_)
  refine WE.act1 6 (by decide +kernel) rfl rfl (fun c h => by cases h) ?_
  (refine st ?_; intros; rename_i q)
  refine WQ.acted (B := [.blk q (.cells [.int .u8 (d.toNat : Int)].toArray 5 (0, 0))]) (U := H) rfl (Mem.le.refl _) zpk ?_
  (refine cmx_E16_0 ?_)
  (refine cm0 ?_)
  refine WE.done (by decide +kernel) ?_
  (try (refine st ?_; intros))
  exact q_finNorm0 (H0 := .blk b (.cells [.slice c B.l.length cp, str B.p, str (B.d ++ [d])].toArray 109 (0, 0)) :: H) ⟨rfl, rfl, rfl⟩ (hd := zpk)
end Go.Proofs.Ytelgegefmjlimaa

/-
  Plain facts on changes: how much composing and carrying make. No condition.
-/
namespace Go.Eng
open Go
/-- what a change that may be is of, in its one form -/
theorem nf_len {l : List Stp} {f t : Int} (h : sizesOf l = some (f, t)) : (nfOf (gapsOf l)).length ≤ 131072 ∧ (fromA (nfOf (gapsOf l)) : Int) = f ∧ (toA (nfOf (gapsOf l)) : Int) = t := by
  obtain ⟨h1, h2, h3, h4, h5⟩ := sizesOf_some h
  have hok : ∀ s ∈ l, stpOk s := fun s hs => (h1 s hs).1
  obtain ⟨n1, n2⟩ := nf_sizes l hok
  have := atoms_le (nfOf (gapsOf l))
  unfold maxT at h4 h5
  omega
end Go.Eng

/-
  The walk of the reference's Carry: two changes carried over each other. No condition.
-/
namespace Go.Eng
open Go Go.RowKit
theorem bfit_put {N : Nat} {B : Bld} (h : BFit N B) (P : List UInt8) : BFit (N + P.length) ⟨B.l, B.p ++ P, B.d⟩ :=
  ⟨by have := h.len; simp only; omega, fun s hs => by have := h.k s hs; omega, by have := h.p; simp only [List.length_append]; omega, by have := h.d; simp only; omega⟩
theorem bfit_drop {N : Nat} {B : Bld} (h : BFit N B) (P : List UInt8) : BFit (N + P.length) ⟨B.l, B.p, B.d ++ P⟩ :=
  ⟨by have := h.len; simp only; omega, fun s hs => by have := h.k s hs; omega, by have := h.p; simp only; omega, by have := h.d; simp only [List.length_append]; omega⟩
theorem pos_drop {PX : List (List UInt8)} {DX : List Bool} {BX : List UInt8} {p : Nat} (h1 : BX.length = DX.length) (h2 : PX.length = DX.length + 1) (hp : p < DX.length) : (PX.zip (DX.zip BX)).drop p = (PX[p], DX[p], BX[p]) :: (PX.zip (DX.zip BX)).drop (p + 1) := by
  rw [List.drop_eq_getElem_cons (by simp only [List.length_zip]; omega)]
  simp
theorem getD_last {PX : List (List UInt8)} {N p : Nat} (hp : p = N) (h : p < PX.length) : PX.getD N [] = PX[p] := by
  subst hp
  rw [List.getD_eq_getElem?_getD, List.getElem?_eq_getElem h]; rfl
theorem pos_end {PX : List (List UInt8)} {DX : List Bool} {BX : List UInt8} {p : Nat} (h : DX.length ≤ p) : (PX.zip (DX.zip BX)).drop p = [] := List.drop_eq_nil_of_le (by simp only [List.length_zip]; omega)
/-- how much is left, place by place -/
theorem pos_less {PX : List (List UInt8)} {DX : List Bool} {BX : List UInt8} {p : Nat} (h1 : BX.length = DX.length) (h2 : PX.length = DX.length + 1) (hp : p < DX.length) :
    (sdA ((PX.zip (DX.zip BX)).drop p) (PX.getD DX.length [])).length = PX[p].length + 1 + (sdA ((PX.zip (DX.zip BX)).drop (p + 1)) (PX.getD DX.length [])).length := by
  rw [pos_drop h1 h2 hp, sdA_cons]
  simp only [List.length_append, List.length_map, List.length_cons]
  omega
theorem pos_left {PX : List (List UInt8)} {DX : List Bool} {BX : List UInt8} {p : Nat} (h1 : BX.length = DX.length) (h2 : PX.length = DX.length + 1) (hp : p < PX.length) : PX[p].length ≤ (sdA ((PX.zip (DX.zip BX)).drop p) (PX.getD DX.length [])).length := by
  by_cases h : p < DX.length
  · rw [pos_less h1 h2 h]; omega
  · rw [pos_end (by omega), sdA_nil, getD_last (by omega) hp, List.length_map]; exact Nat.le_refl _
end Go.Eng
namespace Go.Proofs.Ytelgegefmjlimaa
open Go Go.Eng
set_option maxRecDepth 100000
set_option maxHeartbeats 4000000
set_option linter.all false
attribute [local irreducible] WL WC WQ QFun QLoop Does Q1 QRound QAssign Go.Addr.add
attribute [local irreducible] sizesF sizesOf carT putsOf dropsOf bytesOf gapsOf
end Go.Proofs.Ytelgegefmjlimaa

/-
  The walks of package edit, tenth part: what a change makes of a text; the law's example. No condition.
-/
namespace Go.Eng
open Go Go.RowKit
theorem RowR.blk {w0 : World} {m : Mem} {H : SHeap} {b sz : Nat} {T : TypeId} {fz : Nat × Nat} {es : List (List Value)} {L : List Value} (hm : Item.blk b (.cells L.toArray T fz) ∈ H) (h1 : ∀ e ∈ es, e.length = sz) (hL : es.flatten = L) : RowR w0 m H sz (.some ⟨b, 0, .none⟩) es := by
  subst hL
  intro w hs
  refine ⟨h1, fun j v hj => ?_⟩
  rw [add_none]
  exact Cell.blk hm (by simpa using hj) w hs
def bV (b : UInt8) : List Value := [.int .u8 (b.toNat : Int)]
def applyV (s : List UInt8) (l : List Stp) : Value := match sizesOf l with
  | none => .tuple #[str [], .int .i64 2]
  | some (f, _) => if f ≠ s.length then .tuple #[str [], .int .i64 5] else match applyA s (atomsOf l) with
    | none => .tuple #[str [], .int .i64 270]
    | some o => .tuple #[str o, .int .i64 0]
end Go.Eng
namespace Go.Proofs.Ytelgegefmjlimaa
open Go Go.Eng
set_option maxRecDepth 100000
set_option maxHeartbeats 4000000
set_option linter.all false
attribute [local irreducible] WL WC WQ QFun QLoop Does Q1 QRound QAssign Go.Addr.add
attribute [local irreducible] applyA sizesF sizesOf
theorem sq_E10_1 {G : Prop} (h : G := by (repeat (first | (refine sp ?_; (repeat intro zzc)) | (refine iF 40 rfl ?_; refine w_callG Try.func40 ?_ (hs := sizes_any (by assumption) _ _ _ (by assumption))))); exact WQ.q1 rfl) : G := h
theorem st_E10_1 {G G' : Prop} (next : G') (h : Bx G' → G := by intro zzn; (first | ((refine st ?_; (repeat intro zzc)); (try ((first | (refine iF 40 rfl ?_; refine w_callG Try.func40 ?_ (hs := sizes_any (by assumption) _ _ _ (by assumption))) | ((refine iDraw ?_; (first | refine WC.drawAll rfl (by decide +kernel) ?_ | refine WC.draw 1 rfl (by decide +kernel) ?_ | refine WC.draw 2 rfl (by decide +kernel) ?_ | refine WC.draw 3 rfl (by decide +kernel) ?_ | refine WC.draw 4 rfl (by decide +kernel) ?_ | refine WC.draw 5 rfl (by decide +kernel) ?_ | refine WC.draw 6 rfl (by decide +kernel) ?_ | refine WC.draw 7 rfl (by decide +kernel) ?_ | refine WC.draw 8 rfl (by decide +kernel) ?_ | refine WC.draw 9 rfl (by decide +kernel) ?_ | refine WC.draw 10 rfl (by decide +kernel) ?_ | refine WC.draw 11 rfl (by decide +kernel) ?_ | refine WC.draw 12 rfl (by decide +kernel) ?_ | refine WC.draw 13 rfl (by decide +kernel) ?_ | refine WC.draw 14 rfl (by decide +kernel) ?_ | refine WC.draw 15 rfl (by decide +kernel) ?_ | refine WC.draw 16 rfl (by decide +kernel) ?_ | refine WC.draw 17 rfl (by decide +kernel) ?_ | refine WC.draw 18 rfl (by decide +kernel) ?_ | refine WC.draw 19 rfl (by decide +kernel) ?_ | refine WC.draw 20 rfl (by decide +kernel) ?_ | refine WC.draw 21 rfl (by decide +kernel) ?_ | refine WC.draw 22 rfl (by decide +kernel) ?_ | refine WC.draw 23 rfl (by decide +kernel) ?_ | refine WC.draw 24 rfl (by decide +kernel) ?_)); (repeat (refine WD.cons rfl (fun c h => by cases h) sq_E10_1 ?_)); refine WD.nil ?_)); (try (refine st ?_; (repeat intro zzc)))))) | ((first | (refine iF 40 rfl ?_; refine w_callG Try.func40 ?_ (hs := sizes_any (by assumption) _ _ _ (by assumption))) | ((refine iDraw ?_; (first | refine WC.drawAll rfl (by decide +kernel) ?_ | refine WC.draw 1 rfl (by decide +kernel) ?_ | refine WC.draw 2 rfl (by decide +kernel) ?_ | refine WC.draw 3 rfl (by decide +kernel) ?_ | refine WC.draw 4 rfl (by decide +kernel) ?_ | refine WC.draw 5 rfl (by decide +kernel) ?_ | refine WC.draw 6 rfl (by decide +kernel) ?_ | refine WC.draw 7 rfl (by decide +kernel) ?_ | refine WC.draw 8 rfl (by decide +kernel) ?_ | refine WC.draw 9 rfl (by decide +kernel) ?_ | refine WC.draw 10 rfl (by decide +kernel) ?_ | refine WC.draw 11 rfl (by decide +kernel) ?_ | refine WC.draw 12 rfl (by decide +kernel) ?_ | refine WC.draw 13 rfl (by decide +kernel) ?_ | refine WC.draw 14 rfl (by decide +kernel) ?_ | refine WC.draw 15 rfl (by decide +kernel) ?_ | refine WC.draw 16 rfl (by decide +kernel) ?_ | refine WC.draw 17 rfl (by decide +kernel) ?_ | refine WC.draw 18 rfl (by decide +kernel) ?_ | refine WC.draw 19 rfl (by decide +kernel) ?_ | refine WC.draw 20 rfl (by decide +kernel) ?_ | refine WC.draw 21 rfl (by decide +kernel) ?_ | refine WC.draw 22 rfl (by decide +kernel) ?_ | refine WC.draw 23 rfl (by decide +kernel) ?_ | refine WC.draw 24 rfl (by decide +kernel) ?_)); (repeat (refine WD.cons rfl (fun c h => by cases h) sq_E10_1 ?_)); refine WD.nil ?_)); (try (refine st ?_; (repeat intro zzc))))); (repeat ((first | (refine iF 40 rfl ?_; refine w_callG Try.func40 ?_ (hs := sizes_any (by assumption) _ _ _ (by assumption))) | ((refine iDraw ?_; (first | refine WC.drawAll rfl (by decide +kernel) ?_ | refine WC.draw 1 rfl (by decide +kernel) ?_ | refine WC.draw 2 rfl (by decide +kernel) ?_ | refine WC.draw 3 rfl (by decide +kernel) ?_ | refine WC.draw 4 rfl (by decide +kernel) ?_ | refine WC.draw 5 rfl (by decide +kernel) ?_ | refine WC.draw 6 rfl (by decide +kernel) ?_ | refine WC.draw 7 rfl (by decide +kernel) ?_ | refine WC.draw 8 rfl (by decide +kernel) ?_ | refine WC.draw 9 rfl (by decide +kernel) ?_ | refine WC.draw 10 rfl (by decide +kernel) ?_ | refine WC.draw 11 rfl (by decide +kernel) ?_ | refine WC.draw 12 rfl (by decide +kernel) ?_ | refine WC.draw 13 rfl (by decide +kernel) ?_ | refine WC.draw 14 rfl (by decide +kernel) ?_ | refine WC.draw 15 rfl (by decide +kernel) ?_ | refine WC.draw 16 rfl (by decide +kernel) ?_ | refine WC.draw 17 rfl (by decide +kernel) ?_ | refine WC.draw 18 rfl (by decide +kernel) ?_ | refine WC.draw 19 rfl (by decide +kernel) ?_ | refine WC.draw 20 rfl (by decide +kernel) ?_ | refine WC.draw 21 rfl (by decide +kernel) ?_ | refine WC.draw 22 rfl (by decide +kernel) ?_ | refine WC.draw 23 rfl (by decide +kernel) ?_ | refine WC.draw 24 rfl (by decide +kernel) ?_)); (repeat (refine WD.cons rfl (fun c h => by cases h) sq_E10_1 ?_)); refine WD.nil ?_)); (try (refine st ?_; (repeat intro zzc))))); (repeat revert zzc); exact zzn.out) : G := h ⟨next⟩
theorem apply_any {a : Option Addr} {cap : Nat} {l : List Stp} {s : List UInt8} (hf : Fit l) (hsl : s.length ≤ 1000000000) (w0 : World) (m : Mem) (H : SHeap) (hr : RowR w0 m H 3 a (l.map Stp.cs)) :
    Does Try.prog 22 #[str s, .slice a l.length cap] w0 m H (Gives (applyV s l) m H) := by
  refine Does.of_body (args := [str s, .slice a l.length cap]) Try.func22 rfl Try.ntmps22 rfl ?_
  have hln : (l.map Stp.cs).length = l.length := by simp
  have hlen := hf.len
  cases hs : sizesOf l with
  | none =>
    have e : applyV s l = .tuple #[str [], .int .i64 2] := by simp only [applyV, hs]
    have e2 : szP (sizesOf l) = .tuple #[.int .i64 0, .int .i64 0, .int .i64 2] := by rw [hs]; rfl
    rw [e]
    (try (refine st_E10_1 ?_; intros))
    rw [e2]
    (try (refine st_E10_1 ?_; intros))
    exact q_fin0 (H0 := H) (Gives.mk rfl) (hd := zpk)
  | some ft =>
    obtain ⟨f, t⟩ := ft
    have e2 : szP (sizesOf l) = .tuple #[.int .i64 f, .int .i64 t, .int .i64 0] := by rw [hs]; rfl
    obtain ⟨hok, hal, hpl, hfr, _, g1, g2, _, _⟩ := sized hs
    by_cases hfs : f = s.length
    · (try (refine st_E10_1 ?_; intros))
      rw [e2]
      (try (refine st_E10_1 ?_; intros))
      refine WC.newRow (T := 5) (sz := 1) ?_
      refine WC.loopH [(29, .int .i64 ((0) : Int)), (28, .int .i64 (l.length : Int)), (27, .slice a l.length cap), (0, str (s)), (9, .slice (none) (0) (0))] ?_ ?_ (fun j r ds m' H' => ∃ i S a9 c9 n9 O, j = l.length - i ∧ r = [(29, .int .i64 (i : Int)), (28, .int .i64 (l.length : Int)), (27, .slice a l.length cap), (0, str S), (9, .slice a9 n9 c9)] ∧ ds = [] ∧ m = m' ∧ H' = .row a9 c9 5 1 (O.map bV) :: H ∧ (i ≤ l.length) ∧ (n9 = O.length) ∧ (O.length ≤ (atomsOf (l.take i)).length + s.length - S.length) ∧ (S.length ≤ s.length) ∧ (fromA (atomsOf (l.drop i)) = S.length) ∧ ((applyA S (atomsOf (l.drop i))).map (O ++ ·) = applyA s (atomsOf l))) (l.length - (0)) ⟨0, s, none, 0, 0, ([] : List UInt8), rfl, rfl, rfl, rfl, rfl, by omega, rfl, by simp, by omega, by rw [List.drop_zero]; omega, by simp⟩ ?_
      · (repeat (first | exact Env.Sub.nil | refine Env.Sub.cons rfl ?_))
      · exact zpk
      rintro j r ds m' H' ⟨i, S, a9, c9, n9, O, rfl, rfl, rfl, rfl, rfl, hi, hn9, hO, hSl, hSf, hR⟩
      have hOl : (O.map bV).length = O.length := by simp
      have htl : (atomsOf (l.take i)).length ≤ (atomsOf l).length := by
        have e : atomsOf l = atomsOf (l.take i) ++ atomsOf (l.drop i) := by rw [← atoms_append, List.take_append_drop]
        rw [e]; simp
      subst hn9
      by_cases hlt : i < l.length
      · obtain ⟨x, hx, hget, htk, hmem, hdr⟩ := at_idx (f := Stp.cs) hlt
        have hxl : (atomsOf (l.take (i + 1))).length = (atomsOf (l.take i)).length + x.atoms.length := by rw [htk, atoms_append, atoms_one, List.length_append]
        have hxm : (atomsOf (l.take (i + 1))).length ≤ (atomsOf l).length := by
          have e : atomsOf l = atomsOf (l.take (i + 1)) ++ atomsOf (l.drop (i + 1)) := by rw [← atoms_append, List.take_append_drop]
          rw [e, List.length_append]; omega
        rw [atoms_len] at hxl
        rw [hdr, atoms_cons] at hR hSf
        rw [fromA_append, from_step] at hSf
        have hr1 := hr.more (i := .row a9 c9 5 1 (O.map bV))
        have hxok := hok x hmem
        refine WC.rSome hr1 (by omega) ?_
        rintro a0 rfl
        rcases hxok with ⟨h1, h2, h3⟩ | ⟨h1, h2, h3⟩ | ⟨h1, h2, h3⟩
        · have h2' : x.d.length = 0 := by rw [h2]; rfl
          have h3' : x.p.length = 0 := by rw [h3]; rfl
          have ea : x.atoms = List.replicate x.k.toNat .k := by simp [Stp.atoms, h2, h3]
          rw [ea, applyA_ks x.k.toNat S _ (by omega), Option.map_map] at hR
          have hmin : (S.take x.k.toNat).length = x.k.toNat := by simp; omega
          have hed : (S.drop x.k.toNat).length = S.length - x.k.toNat := by simp
          (refine st_E10_1 ?_; intros; rename_i bx a8 c8)
          rw [hOl, hmin]
          have em : O.map bV ++ (S.take x.k.toNat).map (fun b => [Value.int .u8 (b.toNat : Int)]) = (O ++ S.take x.k.toNat).map bV := by rw [List.map_append]; rfl
          rw [em]
          refine WQ.next (l.length - (i + 1)) ⟨i + 1, S.drop x.k.toNat, a8, c8, O.length + x.k.toNat, O ++ S.take x.k.toNat, rfl, rfl, rfl, rfl, rfl, ?_, ?_, ?_, ?_, ?_, ?_⟩ (by omega) zsb zpk
          · omega
          · rw [List.length_append, hmin]
          · rw [List.length_append, hmin]; omega
          · omega
          · omega
          · rw [← hR]; congr 1; funext q; simp
        · have h3' : x.p.length = 0 := by rw [h3]; rfl
          have ea : x.atoms = x.d.map .d := by simp [Stp.atoms, h1, h3]
          rw [ea, applyA_ds x.d S _ (by omega)] at hR
          have hed : (S.drop x.d.length).length = S.length - x.d.length := by simp
          by_cases h4 : S.take x.d.length = x.d
          · rw [if_pos h4] at hR
            (try (refine st_E10_1 ?_; intros))
            refine WQ.next (l.length - (i + 1)) ⟨i + 1, S.drop x.d.length, a9, c9, O.length, O, rfl, rfl, rfl, rfl, rfl, ?_, ?_, ?_, ?_, ?_, ?_⟩ (by omega) zsb zpk
            · omega
            · rfl
            · omega
            · omega
            · omega
            · exact hR
          · rw [if_neg h4] at hR
            have e : applyV s l = .tuple #[str [], .int .i64 270] := by simp only [applyV, hs, hfs, ne_eq, not_true, if_false, ← hR, Option.map_none]
            rw [e]
            (try (refine st_E10_1 ?_; intros))
            exact q_fin0 (H0 := H) (Gives.mk rfl) (hd := zpk)
        · have h2' : x.d.length = 0 := by rw [h2]; rfl
          have ea : x.atoms = x.p.map .p := by simp [Stp.atoms, h1, h2]
          rw [ea, applyA_ps S x.p, Option.map_map] at hR
          (refine st_E10_1 ?_; intros; rename_i bx a8 c8)
          rw [hOl]
          have em : O.map bV ++ x.p.map (fun b => [Value.int .u8 (b.toNat : Int)]) = (O ++ x.p).map bV := by rw [List.map_append]; rfl
          rw [em]
          refine WQ.next (l.length - (i + 1)) ⟨i + 1, S, a8, c8, O.length + x.p.length, O ++ x.p, rfl, rfl, rfl, rfl, rfl, ?_, ?_, ?_, ?_, ?_, ?_⟩ (by omega) zsb zpk
          · omega
          · rw [List.length_append]
          · rw [List.length_append]; omega
          · omega
          · omega
          · rw [← hR]; congr 1; funext q; simp
      · obtain rfl : i = l.length := by omega
        rw [List.drop_length] at hR
        have e : applyV s l = .tuple #[str O, .int .i64 0] := by
          have : some O = applyA s (atomsOf l) := by rw [← hR, show atomsOf [] = [] from rfl, applyA_nil]; simp
          simp only [applyV, hs, hfs, ne_eq, not_true, if_false, ← this]
        rw [e]
        (try (refine st_E10_1 ?_; intros))
        refine WL.rowStr (s := O) rfl rfl zhs rfl rfl rfl rfl rfl ?_
        (try (refine st_E10_1 ?_; intros))
        exact q_fin0 (H0 := H) (Gives.mk rfl) (hd := zpk)
    · have e : applyV s l = .tuple #[str [], .int .i64 5] := by simp [applyV, hs, hfs]
      rw [e]
      (try (refine st_E10_1 ?_; intros))
      rw [e2]
      (try (refine st_E10_1 ?_; intros))
      exact q_fin0 (H0 := H) (Gives.mk rfl) (hd := zpk)
theorem sq_E10_2 {G : Prop} (h : G := by (repeat (first | (refine sp ?_; (repeat intro zzc)))); exact WQ.q1 rfl) : G := h
theorem st_E10_2 {G G' : Prop} (next : G') (h : Bx G' → G := by intro zzn; (first | ((refine st ?_; (repeat intro zzc)); (try ((first | ((refine iDraw ?_; (first | refine WC.drawAll rfl (by decide +kernel) ?_ | refine WC.draw 1 rfl (by decide +kernel) ?_ | refine WC.draw 2 rfl (by decide +kernel) ?_ | refine WC.draw 3 rfl (by decide +kernel) ?_ | refine WC.draw 4 rfl (by decide +kernel) ?_ | refine WC.draw 5 rfl (by decide +kernel) ?_ | refine WC.draw 6 rfl (by decide +kernel) ?_ | refine WC.draw 7 rfl (by decide +kernel) ?_ | refine WC.draw 8 rfl (by decide +kernel) ?_ | refine WC.draw 9 rfl (by decide +kernel) ?_ | refine WC.draw 10 rfl (by decide +kernel) ?_ | refine WC.draw 11 rfl (by decide +kernel) ?_ | refine WC.draw 12 rfl (by decide +kernel) ?_ | refine WC.draw 13 rfl (by decide +kernel) ?_ | refine WC.draw 14 rfl (by decide +kernel) ?_ | refine WC.draw 15 rfl (by decide +kernel) ?_ | refine WC.draw 16 rfl (by decide +kernel) ?_ | refine WC.draw 17 rfl (by decide +kernel) ?_ | refine WC.draw 18 rfl (by decide +kernel) ?_ | refine WC.draw 19 rfl (by decide +kernel) ?_ | refine WC.draw 20 rfl (by decide +kernel) ?_ | refine WC.draw 21 rfl (by decide +kernel) ?_ | refine WC.draw 22 rfl (by decide +kernel) ?_ | refine WC.draw 23 rfl (by decide +kernel) ?_ | refine WC.draw 24 rfl (by decide +kernel) ?_)); (repeat (refine WD.cons rfl (fun c h => by cases h) sq_E10_2 ?_)); refine WD.nil ?_)); (try (refine st ?_; (repeat intro zzc)))))) | ((first | ((refine iDraw ?_; (first | refine WC.drawAll rfl (by decide +kernel) ?_ | refine WC.draw 1 rfl (by decide +kernel) ?_ | refine WC.draw 2 rfl (by decide +kernel) ?_ | refine WC.draw 3 rfl (by decide +kernel) ?_ | refine WC.draw 4 rfl (by decide +kernel) ?_ | refine WC.draw 5 rfl (by decide +kernel) ?_ | refine WC.draw 6 rfl (by decide +kernel) ?_ | refine WC.draw 7 rfl (by decide +kernel) ?_ | refine WC.draw 8 rfl (by decide +kernel) ?_ | refine WC.draw 9 rfl (by decide +kernel) ?_ | refine WC.draw 10 rfl (by decide +kernel) ?_ | refine WC.draw 11 rfl (by decide +kernel) ?_ | refine WC.draw 12 rfl (by decide +kernel) ?_ | refine WC.draw 13 rfl (by decide +kernel) ?_ | refine WC.draw 14 rfl (by decide +kernel) ?_ | refine WC.draw 15 rfl (by decide +kernel) ?_ | refine WC.draw 16 rfl (by decide +kernel) ?_ | refine WC.draw 17 rfl (by decide +kernel) ?_ | refine WC.draw 18 rfl (by decide +kernel) ?_ | refine WC.draw 19 rfl (by decide +kernel) ?_ | refine WC.draw 20 rfl (by decide +kernel) ?_ | refine WC.draw 21 rfl (by decide +kernel) ?_ | refine WC.draw 22 rfl (by decide +kernel) ?_ | refine WC.draw 23 rfl (by decide +kernel) ?_ | refine WC.draw 24 rfl (by decide +kernel) ?_)); (repeat (refine WD.cons rfl (fun c h => by cases h) sq_E10_2 ?_)); refine WD.nil ?_)); (try (refine st ?_; (repeat intro zzc))))); (repeat ((first | ((refine iDraw ?_; (first | refine WC.drawAll rfl (by decide +kernel) ?_ | refine WC.draw 1 rfl (by decide +kernel) ?_ | refine WC.draw 2 rfl (by decide +kernel) ?_ | refine WC.draw 3 rfl (by decide +kernel) ?_ | refine WC.draw 4 rfl (by decide +kernel) ?_ | refine WC.draw 5 rfl (by decide +kernel) ?_ | refine WC.draw 6 rfl (by decide +kernel) ?_ | refine WC.draw 7 rfl (by decide +kernel) ?_ | refine WC.draw 8 rfl (by decide +kernel) ?_ | refine WC.draw 9 rfl (by decide +kernel) ?_ | refine WC.draw 10 rfl (by decide +kernel) ?_ | refine WC.draw 11 rfl (by decide +kernel) ?_ | refine WC.draw 12 rfl (by decide +kernel) ?_ | refine WC.draw 13 rfl (by decide +kernel) ?_ | refine WC.draw 14 rfl (by decide +kernel) ?_ | refine WC.draw 15 rfl (by decide +kernel) ?_ | refine WC.draw 16 rfl (by decide +kernel) ?_ | refine WC.draw 17 rfl (by decide +kernel) ?_ | refine WC.draw 18 rfl (by decide +kernel) ?_ | refine WC.draw 19 rfl (by decide +kernel) ?_ | refine WC.draw 20 rfl (by decide +kernel) ?_ | refine WC.draw 21 rfl (by decide +kernel) ?_ | refine WC.draw 22 rfl (by decide +kernel) ?_ | refine WC.draw 23 rfl (by decide +kernel) ?_ | refine WC.draw 24 rfl (by decide +kernel) ?_)); (repeat (refine WD.cons rfl (fun c h => by cases h) sq_E10_2 ?_)); refine WD.nil ?_)); (try (refine st ?_; (repeat intro zzc))))); (repeat revert zzc); exact zzn.out) : G := h ⟨next⟩
theorem live_val : applyV [97, 98] [⟨1, [], []⟩, ⟨0, [98], []⟩, ⟨0, [], [99]⟩] = .tuple #[str [97, 99], .int .i64 0] := by
  have h1 : sizesOf [⟨1, [], []⟩, ⟨0, [98], []⟩, ⟨0, [], [99]⟩] = some (2, 2) := by decide +kernel
  have h2 : applyA [97, 98] (atomsOf [⟨1, [], []⟩, ⟨0, [98], []⟩, ⟨0, [], [99]⟩]) = some [97, 99] := by decide +kernel
  simp only [applyV, h1, h2]
  rfl
theorem live_any (w0 : World) (m : Mem) (H : SHeap) : Does Try.prog 12 #[] w0 m H (Gives (.bool true) m H) := by
  refine Does.of_body (args := []) Try.func12 rfl Try.ntmps12 rfl ?_
  (refine st_E10_2 ?_; intros; rename_i b)
  refine w_callF Try.func22 ?_ (hs := apply_any (s := [97, 98]) (l := [⟨1, [], []⟩, ⟨0, [98], []⟩, ⟨0, [], [99]⟩]) ⟨by decide, by decide, by decide, by decide⟩ (by decide) _ _ _ (RowR.blk zhs (by decide) rfl))
  rintro v m1 H1 ⟨rfl, rfl, rfl⟩
  rw [live_val]
  (try (refine st_E10_2 ?_; intros))
  (refine q_fin0 ?_)
  exact Gives.mk (by rw [dcd_true rfl])
end Go.Proofs.Ytelgegefmjlimaa

/-
  Plain facts on changes: turned about; their one form. No condition.
-/
namespace Go.Eng
open Go
def Atm.inv : Atm → Atm
  | .k => .k
  | .d b => .p b
  | .p b => .d b
def Stp.inv (s : Stp) : Stp := ⟨s.k, s.p, s.d⟩
def Gap.inv (g : Gap) : Gap := ⟨g.d, g.p⟩
def Gs.inv (g : Gs) : Gs := ⟨g.done.map Gap.inv, g.cur.inv⟩
theorem inv_ok {s : Stp} (h : stpOk s) : stpOk s.inv := by
  rcases h with ⟨h1, h2, h3⟩ | ⟨h1, h2, h3⟩ | ⟨h1, h2, h3⟩
  · exact .inl ⟨h1, h3, h2⟩
  · exact .inr (.inr ⟨h1, h3, h2⟩)
  · exact .inr (.inl ⟨h1, h3, h2⟩)
theorem inv_atoms {s : Stp} (h : stpOk s) : s.inv.atoms = s.atoms.map Atm.inv := by
  have hk : ∀ n, (List.replicate n Atm.k).map Atm.inv = List.replicate n Atm.k := fun n => by simp [Atm.inv]
  have hd : ∀ l : List UInt8, (l.map Atm.d).map Atm.inv = l.map Atm.p := fun l => by rw [List.map_map]; rfl
  have hp : ∀ l : List UInt8, (l.map Atm.p).map Atm.inv = l.map Atm.d := fun l => by rw [List.map_map]; rfl
  rcases h with ⟨h1, h2, h3⟩ | ⟨h1, h2, h3⟩ | ⟨h1, h2, h3⟩ <;> simp only [Stp.atoms, Stp.inv, h1, h2, h3, List.map_append, hk, hd, hp, List.map_nil, List.append_nil, List.nil_append]
  all_goals simp
theorem inv_ps (l : List UInt8) : (l.map Atm.p).map Atm.inv = l.map Atm.d := by rw [List.map_map]; rfl
theorem fromA_le : ∀ l : List Atm, fromA l ≤ l.length
  | [] => Nat.le_refl _
  | .k :: l => by have := fromA_le l; simp only [fromA, List.length_cons]; omega
  | .d _ :: l => by have := fromA_le l; simp only [fromA, List.length_cons]; omega
  | .p _ :: l => by have := fromA_le l; simp only [fromA, List.length_cons]; omega
theorem gs_inv_atom (g : Gs) (a : Atm) : g.inv.atom a.inv = (g.atom a).inv := by
  cases a <;> simp [Gs.inv, Gs.atom, Atm.inv, Gap.inv]
theorem gs_inv_run : ∀ (L : List Atm) (g : Gs), g.inv.run (L.map Atm.inv) = (g.run L).inv
  | [], _ => rfl
  | a :: L, g => by
    rw [List.map_cons, show g.inv.run (a.inv :: L.map Atm.inv) = (g.inv.atom a.inv).run (L.map Atm.inv) from rfl, gs_inv_atom, gs_inv_run L (g.atom a)]; rfl
theorem start_inv (L : List Atm) : Gs.start.run (L.map Atm.inv) = (Gs.start.run L).inv := gs_inv_run L Gs.start
theorem gs_inv_inv (g : Gs) : g.inv.inv = g := by
  obtain ⟨d, c⟩ := g
  simp only [Gs.inv, List.map_map, Gap.inv]
  congr 1
  conv => rhs; rw [← List.map_id d]
  rfl
theorem list_same {L M : List Atm} (h : Gs.start.run L = Gs.start.run M) : listOf L = listOf M := by unfold listOf; rw [start_run, start_run, h]
/-- what is turned about, from a change's steps and from its one form -/
theorem inv_nf (l : List Stp) (h : ∀ s ∈ l, stpOk s) : listOf ((atomsOf l).map Atm.inv) = listOf ((nfOf (gapsOf l)).map Atm.inv) := by
  refine list_same ?_
  rw [start_inv, start_inv, run_nf, gapsOf_run l h]
theorem inv_twice (l : List Stp) (h : ∀ s ∈ l, stpOk s) : listOf ((atomsOf (listOf ((atomsOf l).map Atm.inv))).map Atm.inv) = plainOf l := by
  rw [plain_list]
  refine list_same ?_
  rw [(list_ok _).2, start_inv, run_nf, start_inv, gs_inv_inv, run_nf, gapsOf_run l h]
theorem inv_from : ∀ L : List Atm, fromA (L.map Atm.inv) = toA L ∧ toA (L.map Atm.inv) = fromA L
  | [] => ⟨rfl, rfl⟩
  | .k :: L => by simp [Atm.inv, fromA, toA, inv_from L]
  | .d _ :: L => by simp [Atm.inv, fromA, toA, inv_from L]
  | .p _ :: L => by simp [Atm.inv, fromA, toA, inv_from L]
/-- what is turned about undoes it -/
theorem inv_apply : ∀ (L : List Atm) (s t : List UInt8), applyA s L = some t → fromA L = s.length → applyA t (L.map Atm.inv) = some s
  | [], s, t, h, hf => by
    rw [applyA_nil] at h
    cases h
    rw [List.map_nil, applyA_nil, List.eq_nil_of_length_eq_zero hf.symm]
  | .p b :: L, s, t, h, hf => by
    rw [applyA_p] at h
    obtain ⟨t', h', rfl⟩ := Option.map_eq_some_iff.1 h
    rw [List.map_cons, show Atm.inv (.p b) = .d b from rfl, applyA_dc, if_pos rfl]
    exact inv_apply L s t' h' hf
  | .k :: L, [], t, h, hf => by cases h
  | .k :: L, c :: s, t, h, hf => by
    rw [applyA] at h
    obtain ⟨t', h', rfl⟩ := Option.map_eq_some_iff.1 h
    rw [List.map_cons, show Atm.inv .k = .k from rfl, applyA, inv_apply L s t' h' (by simpa [fromA] using hf)]; rfl
  | .d b :: L, [], t, h, hf => by cases h
  | .d b :: L, c :: s, t, h, hf => by
    rw [applyA_dc] at h
    split at h
    · rename_i hc
      subst hc
      rw [List.map_cons, show Atm.inv (.d c) = .p c from rfl, applyA_p, inv_apply L s t h (by simpa [fromA] using hf)]; rfl
    · cases h
/-- the one form makes the same -/
theorem plain_apply (l : List Stp) (h : ∀ s ∈ l, stpOk s) (s : List UInt8) : applyA s (atomsOf (plainOf l)) = applyA s (atomsOf l) := by rw [plain_atoms, apply_nf l h]
theorem plain_sizes {l : List Stp} {f t : Int} (hs : sizesOf l = some (f, t)) : sizesOf (plainOf l) = some (f, t) := by
  obtain ⟨h1, h2, h3, h4, h5⟩ := sizesOf_some hs
  have hok : ∀ s ∈ l, stpOk s := fun s hs => (h1 s hs).1
  obtain ⟨n1, n2⟩ := nf_sizes l hok
  unfold maxT at h4 h5
  rw [sizesOf_of (plain_ok l) (by rw [plain_atoms]; omega) (by rw [plain_atoms]; omega), plain_atoms, n1, n2, h2, h3]
theorem applyA_kc (c : UInt8) (s : List UInt8) (l : List Atm) : applyA (c :: s) (.k :: l) = (applyA s l).map (c :: ·) := rfl
end Go.Eng

