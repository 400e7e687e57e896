/-
  Parts of a walk, joined: E1 E2 E4 E6 E8 E9a E10 ET19 ET26 D35 D36 D37 D25 D26 D27. No condition.
-/
import Derived.Test.YtieangfnjflfmaaP4
import Derived.Test.YtieangfnjflfmaaP5
import Derived.Test.YtieangfnjflfmaaP7
import Derived.Test.YtieangfnjflfmaaProg
import Derived.Test.YtieangfnjflfmaaP6
set_option linter.all false
/-
  The walks of package edit, first part: the law's own copy of a change, the sizes of a change. No condition.
-/
namespace Go.Eng
def Stp.cs (s : Stp) : List Value := [.int .i64 s.k, str s.d, str s.p]
/-- how much of a change the law goes through -/
def refN : List Stp → Nat → Int → Bool
  | [], _, _ => true
  | s :: l, i, n =>
    let n' := n + ((s.d.length : Int) + (s.p.length : Int)) + (if 0 < s.k ∧ s.k ≤ 65536 then s.k / 8 else 0)
    if 5000 < n' ∨ 5000 < i then false else refN l (i + 1) n'
def smallOf (l : List Stp) : Bool := refN l 0 0
/-- of such size that no number grows too large -/
structure Fit (l : List Stp) : Prop where
  len : l.length ≤ 1048576
  k : ∀ s ∈ l, -9223372036854775808 ≤ s.k ∧ s.k ≤ 9223372036854775807
  d : ∀ s ∈ l, s.d.length ≤ 1048576
  p : ∀ s ∈ l, s.p.length ≤ 1048576
theorem sizesF_good {x : Stp} {l : List Stp} {f t : Int} (h1 : stpOk x) (h2 : x.k ≤ 65536) (h3 : f + x.k + x.d.length ≤ 65536) (h4 : t + x.k + x.p.length ≤ 65536) : sizesF (x :: l) f t = sizesF l (f + x.k + x.d.length) (t + x.k + x.p.length) := if_pos ⟨h1, h2, h3, h4⟩
theorem sizesF_bad {x : Stp} {l : List Stp} {f t : Int} (h : ¬ (stpOk x ∧ x.k ≤ 65536 ∧ f + x.k + x.d.length ≤ 65536 ∧ t + x.k + x.p.length ≤ 65536)) : sizesF (x :: l) f t = none := if_neg h
def szR : Option (Int × Int) → Value
  | some (a, b) => .tuple #[.int .i64 a, .int .i64 b, .bool true]
  | none => .tuple #[.int .i64 0, .int .i64 0, .bool false]
def szP : Option (Int × Int) → Value
  | some (a, b) => .tuple #[.int .i64 a, .int .i64 b, .int .i64 0]
  | none => .tuple #[.int .i64 0, .int .i64 0, .int .i64 2]
end Go.Eng
namespace Go.Proofs.Ytieangfnjflfmaa
open Go Go.Eng
set_option maxRecDepth 100000
set_option maxHeartbeats 4000000
set_option linter.all false
attribute [local irreducible] WL WC WQ QFun QLoop Does Q1 QRound QAssign Go.Addr.add
end Go.Proofs.Ytieangfnjflfmaa

/-
  The walks of package edit, second part: the sizes of a change, by the program and by the reference. No condition.
-/
namespace Go.Proofs.Ytieangfnjflfmaa
open Go Go.Eng
set_option maxRecDepth 100000
set_option maxHeartbeats 4000000
set_option linter.all false
attribute [local irreducible] WL WC WQ QFun QLoop Does Q1 QRound QAssign Go.Addr.add
attribute [local irreducible] sizesF sizesOf
theorem sizes_any {a : Option Addr} {cap : Nat} {l : List Stp} (hf : Fit l) (w0 : World) (m : Mem) (H : SHeap) (hr : RowR w0 m H 3 a (l.map Stp.cs)) :
    Does Try.prog 39 #[.slice a l.length cap] w0 m H (Gives (szP (sizesOf l)) m H) := by
  refine Does.of_body (args := [.slice a l.length cap]) Try.func39 rfl Try.ntmps39 rfl ?_
  have hln : (l.map Stp.cs).length = l.length := by simp
  have hlen := hf.len
  (try (refine st ?_; intros))
  refine WC.loopH [(12, .int .i64 ((0) : Int)), (11, .int .i64 (l.length : Int)), (10, .slice a l.length cap), (5, .int .i64 (0)), (6, .int .i64 (0))] ?_ ?_ (fun j r ds m' H' => ∃ (i : _) (f : Int) (t : Int), j = l.length - i ∧ r = [(12, .int .i64 (i : Int)), (11, .int .i64 (l.length : Int)), (10, .slice a l.length cap), (5, .int .i64 f), (6, .int .i64 t)] ∧ ds = [] ∧ m = m' ∧ H' = H ∧ (i ≤ l.length) ∧ (0 ≤ f ∧ f ≤ 65536 ∧ 0 ≤ t ∧ t ≤ 65536) ∧ (sizesF (l.drop i) f t = sizesOf l) ∧ (RowR w0 m H 3 a (l.map Stp.cs))) (l.length - (0)) ⟨0, 0, 0, rfl, rfl, rfl, rfl, rfl, by omega, by omega, by rw [sizesOf]; rfl, hr⟩ ?_
  · (repeat (first | exact Env.Sub.nil | refine Env.Sub.cons rfl ?_))
  · exact zpk
  rintro j r ds m' H' ⟨i, f, t, rfl, rfl, rfl, rfl, rfl, hi, hn, hs, hr⟩
  generalize H' = H at *
  by_cases hlt : i < l.length
  · obtain ⟨x, hx, hget, htk, hmem, hdr⟩ := at_idx (f := Stp.cs) hlt
    have hk := hf.k x hmem
    have hd := hf.d x hmem
    have hp := hf.p x hmem
    rw [hdr] at hs
    refine WC.rSome hr (by omega) ?_
    rintro a0 rfl
    have hdl : x.d = [] → x.d.length = 0 := fun h => by rw [h]; rfl
    have hpl : x.p = [] → x.p.length = 0 := fun h => by rw [h]; rfl
    by_cases h1 : x.k = 0 <;> by_cases h2 : x.d = [] <;> by_cases h3 : x.p = []
    · rw [sizesF_bad (fun h => by simp [stpOk, h1, h2, h3] at h)] at hs
      (try (refine st ?_; intros))
      exact q_fin0 (H0 := H) (Gives.mk (by rw [← hs]; try rfl)) (hd := zpk)
    · have hok : stpOk x := .inr (.inr ⟨h1, h2, h3⟩)
      have h2' := hdl h2
      by_cases h4 : t + (x.k + (x.p.length : Int)) ≤ 65536
      · rw [sizesF_good hok (by omega) (by omega) (by omega)] at hs
        (try (refine st ?_; intros))
        refine WQ.next (l.length - (i + 1)) ⟨i + 1, _, _, rfl, rfl, rfl, rfl, rfl, ?_, ?_, ?_, ?_⟩ (by omega) zsb zpk
        · omega
        · omega
        · rw [← hs]; congr 1 <;> omega
        · assumption
      · rw [sizesF_bad (by omega)] at hs
        (try (refine st ?_; intros))
        exact q_fin0 (H0 := H) (Gives.mk (by rw [← hs]; try rfl)) (hd := zpk)
    · have hok : stpOk x := .inr (.inl ⟨h1, h2, h3⟩)
      have h3' := hpl h3
      by_cases h4 : f + (x.k + (x.d.length : Int)) ≤ 65536
      · rw [sizesF_good hok (by omega) (by omega) (by omega)] at hs
        (try (refine st ?_; intros))
        refine WQ.next (l.length - (i + 1)) ⟨i + 1, _, _, rfl, rfl, rfl, rfl, rfl, ?_, ?_, ?_, ?_⟩ (by omega) zsb zpk
        · omega
        · omega
        · rw [← hs]; congr 1 <;> omega
        · assumption
      · rw [sizesF_bad (by omega)] at hs
        (try (refine st ?_; intros))
        exact q_fin0 (H0 := H) (Gives.mk (by rw [← hs]; try rfl)) (hd := zpk)
    · rw [sizesF_bad (fun h => by simp [stpOk, h1, h2, h3] at h)] at hs
      (try (refine st ?_; intros))
      exact q_fin0 (H0 := H) (Gives.mk (by rw [← hs]; try rfl)) (hd := zpk)
    · have h2' := hdl h2
      have h3' := hpl h3
      by_cases h5 : x.k < 0
      · rw [sizesF_bad (fun h => by rcases h.1 with g | g | g <;> omega)] at hs
        (try (refine st ?_; intros))
        exact q_fin0 (H0 := H) (Gives.mk (by rw [← hs]; try rfl)) (hd := zpk)
      · by_cases h6 : 65536 < x.k
        · rw [sizesF_bad (by omega)] at hs
          (try (refine st ?_; intros))
          exact q_fin0 (H0 := H) (Gives.mk (by rw [← hs]; try rfl)) (hd := zpk)
        · have hok : stpOk x := .inl ⟨by omega, h2, h3⟩
          by_cases h4 : f + (x.k + (x.d.length : Int)) ≤ 65536
          · by_cases h7 : t + (x.k + (x.p.length : Int)) ≤ 65536
            · rw [sizesF_good hok (by omega) (by omega) (by omega)] at hs
              (try (refine st ?_; intros))
              refine WQ.next (l.length - (i + 1)) ⟨i + 1, _, _, rfl, rfl, rfl, rfl, rfl, ?_, ?_, ?_, ?_⟩ (by omega) zsb zpk
              · omega
              · omega
              · rw [← hs]; congr 1 <;> omega
              · assumption
            · rw [sizesF_bad (by omega)] at hs
              (try (refine st ?_; intros))
              exact q_fin0 (H0 := H) (Gives.mk (by rw [← hs]; try rfl)) (hd := zpk)
          · rw [sizesF_bad (by omega)] at hs
            (try (refine st ?_; intros))
            exact q_fin0 (H0 := H) (Gives.mk (by rw [← hs]; try rfl)) (hd := zpk)
    all_goals
      rw [sizesF_bad (fun h => by simp [stpOk, h1, h2, h3] at h)] at hs
      (try (refine st ?_; intros))
      exact q_fin0 (H0 := H) (Gives.mk (by rw [← hs]; try rfl)) (hd := zpk)
  · obtain rfl : i = l.length := by omega
    rw [List.drop_length, sizesF] at hs
    (try (refine st ?_; intros))
    exact q_fin0 (H0 := H) (Gives.mk (by rw [← hs]; try rfl)) (hd := zpk)
end Go.Proofs.Ytieangfnjflfmaa

/-
  The walks of package edit, fourth part: the builder's close. No condition.
-/
namespace Go.Proofs.Ytieangfnjflfmaa
open Go Go.Eng
set_option maxRecDepth 100000
set_option maxHeartbeats 4000000
set_option linter.all false
attribute [local irreducible] WL WC WQ QFun QLoop Does Q1 QRound QAssign Go.Addr.add
theorem close_any {b : Nat} {c : Option Addr} {cp : Nat} (B : Bld) (hB : B.l.length ≤ 1000000000000) (w0 : World) (m : Mem) (H : SHeap) :
    Does Try.prog 60 #[.pointer (some ⟨b, 0, none⟩)] w0 m (.blk b (.cells [.slice c B.l.length cp, str B.p, str B.d].toArray 96 (0, 0)) :: .row c cp 55 3 (B.l.map Stp.cs) :: H)
      (fun v m' H' => v = .tuple #[] ∧ m' = m ∧ ∃ c' cp', H' = .blk b (.cells [.slice c' B.close.l.length cp', str [], str []].toArray 96 (0, 0)) :: .row c' cp' 55 3 (B.close.l.map Stp.cs) :: H) := by
  refine Does.of_body (args := [.pointer (some ⟨b, 0, none⟩)]) Try.func60 rfl Try.ntmps60 rfl ?_
  have hml : (B.l.map Stp.cs).length = B.l.length := by simp
  by_cases hp : B.p = [] <;> by_cases hd : B.d = []
  · (try (refine st ?_; intros))
    have e : B.close.l = B.l := by simp [Bld.close, hp, hd]
    rw [hp, hd]
    exact q_finNorm0 (H0 := .blk b (.cells [.slice c B.l.length cp, str [], str []].toArray 96 (0, 0)) :: .row c cp 55 3 (B.l.map Stp.cs) :: H) ⟨rfl, rfl, c, cp, by rw [e]⟩ (hd := zpk)
  · (try (refine st ?_; intros))
    refine WC.drawE 14 ([.blk b (.cells [.slice c B.l.length cp, str B.p, str B.d].toArray 96 (0, 0))]) (.row c cp 55 3 (B.l.map Stp.cs) :: H) rfl (by decide +kernel) zpk ?_
    (refine cm0 ?_)
    refine WE.act1 10 (by decide +kernel) rfl rfl (fun c h => by cases h) ?_
    (refine st ?_; intros; rename_i q0)
    refine WQ.acted (B := []) (U := .blk q0 (.cells [.int .i64 0, str B.d, str []].toArray 55 (0, 0)) :: .row c cp 55 3 (B.l.map Stp.cs) :: H) rfl (Mem.le.refl _) zpk ?_
    refine WE.act1 11 (by decide +kernel) rfl rfl (fun c h => by cases h) ?_
    (refine st ?_; intros; rename_i c2 cp2)
    refine WQ.acted (B := []) (U := .row c2 cp2 55 3 (B.l.map Stp.cs ++ [[.int .i64 0, str B.d, str []]]) :: H) rfl (Mem.le.refl _) zpk ?_
    (refine cm0 ?_)
    refine WE.done (by decide +kernel) ?_
    (try (refine st ?_; intros))
    rw [hml, hp]
    have e : B.close.l = B.l ++ [⟨0, B.d, []⟩] := by simp [Bld.close, hp, hd]
    exact q_finNorm0 (H0 := .blk b (.cells [.slice c2 (B.l.length + 1) cp2, str [], str []].toArray 96 (0, 0)) :: .row c2 cp2 55 3 (B.l.map Stp.cs ++ [[.int .i64 0, str B.d, str []]]) :: H) ⟨rfl, rfl, c2, cp2, by rw [e]; simp [Stp.cs]⟩ (hd := zpk)
  · (try (refine st ?_; intros))
    refine WC.drawE 14 ([.blk b (.cells [.slice c B.l.length cp, str B.p, str B.d].toArray 96 (0, 0))]) (.row c cp 55 3 (B.l.map Stp.cs) :: H) rfl (by decide +kernel) zpk ?_
    (refine cm0 ?_)
    refine WE.act1 10 (by decide +kernel) rfl rfl (fun c h => by cases h) ?_
    (refine st ?_; intros; rename_i q0)
    refine WQ.acted (B := []) (U := .blk q0 (.cells [.int .i64 0, str [], str B.p].toArray 55 (0, 0)) :: .row c cp 55 3 (B.l.map Stp.cs) :: H) rfl (Mem.le.refl _) zpk ?_
    refine WE.act1 11 (by decide +kernel) rfl rfl (fun c h => by cases h) ?_
    (refine st ?_; intros; rename_i c2 cp2)
    refine WQ.acted (B := []) (U := .row c2 cp2 55 3 (B.l.map Stp.cs ++ [[.int .i64 0, str [], str B.p]]) :: H) rfl (Mem.le.refl _) zpk ?_
    (refine cm0 ?_)
    refine WE.done (by decide +kernel) ?_
    (try (refine st ?_; intros))
    rw [hml, hd]
    have e : B.close.l = B.l ++ [⟨0, [], B.p⟩] := by simp [Bld.close, hp, hd]
    exact q_finNorm0 (H0 := .blk b (.cells [.slice c2 (B.l.length + 1) cp2, str [], str []].toArray 96 (0, 0)) :: .row c2 cp2 55 3 (B.l.map Stp.cs ++ [[.int .i64 0, str [], str B.p]]) :: H) ⟨rfl, rfl, c2, cp2, by rw [e]; simp [Stp.cs]⟩ (hd := zpk)
  · have hml1 : (B.l.map Stp.cs ++ [[.int .i64 0, str [], str B.p]]).length = B.l.length + 1 := by simp
    (try (refine st ?_; intros))
    refine WC.drawE 14 ([.blk b (.cells [.slice c B.l.length cp, str B.p, str B.d].toArray 96 (0, 0))]) (.row c cp 55 3 (B.l.map Stp.cs) :: H) rfl (by decide +kernel) zpk ?_
    (refine cm0 ?_)
    refine WE.act1 10 (by decide +kernel) rfl rfl (fun c h => by cases h) ?_
    (refine st ?_; intros; rename_i q0)
    refine WQ.acted (B := []) (U := .blk q0 (.cells [.int .i64 0, str [], str B.p].toArray 55 (0, 0)) :: .row c cp 55 3 (B.l.map Stp.cs) :: H) rfl (Mem.le.refl _) zpk ?_
    refine WE.act1 11 (by decide +kernel) rfl rfl (fun c h => by cases h) ?_
    (refine st ?_; intros; rename_i c2 cp2)
    refine WQ.acted (B := []) (U := .row c2 cp2 55 3 (B.l.map Stp.cs ++ [[.int .i64 0, str [], str B.p]]) :: H) rfl (Mem.le.refl _) zpk ?_
    (refine cm0 ?_)
    refine WE.done (by decide +kernel) ?_
    (try (refine st ?_; intros))
    rw [hml]
    refine WC.drawE 14 ([.blk b (.cells [.slice c2 (B.l.length + 1) cp2, str B.p, str B.d].toArray 96 (0, 0))]) (.row c2 cp2 55 3 (B.l.map Stp.cs ++ [[.int .i64 0, str [], str B.p]]) :: H) rfl (by decide +kernel) zpk ?_
    (refine cm0 ?_)
    refine WE.act1 10 (by decide +kernel) rfl rfl (fun c h => by cases h) ?_
    (refine st ?_; intros; rename_i q0)
    refine WQ.acted (B := []) (U := .blk q0 (.cells [.int .i64 0, str B.d, str []].toArray 55 (0, 0)) :: .row c2 cp2 55 3 (B.l.map Stp.cs ++ [[.int .i64 0, str [], str B.p]]) :: H) rfl (Mem.le.refl _) zpk ?_
    refine WE.act1 11 (by decide +kernel) rfl rfl (fun c h => by cases h) ?_
    (refine st ?_; intros; rename_i c3 cp3)
    refine WQ.acted (B := []) (U := .row c3 cp3 55 3 (B.l.map Stp.cs ++ [[.int .i64 0, str [], str B.p]] ++ [[.int .i64 0, str B.d, str []]]) :: H) rfl (Mem.le.refl _) zpk ?_
    (refine cm0 ?_)
    refine WE.done (by decide +kernel) ?_
    (try (refine st ?_; intros))
    rw [hml1]
    have e : B.close.l = B.l ++ [⟨0, [], B.p⟩] ++ [⟨0, B.d, []⟩] := by simp [Bld.close, hp, hd]
    exact q_finNorm0 (H0 := .blk b (.cells [.slice c3 (B.l.length + 1 + 1) cp3, str [], str []].toArray 96 (0, 0)) :: .row c3 cp3 55 3 (B.l.map Stp.cs ++ [[.int .i64 0, str [], str B.p]] ++ [[.int .i64 0, str B.d, str []]]) :: H) ⟨rfl, rfl, c3, cp3, by rw [e]; simp [Stp.cs]⟩ (hd := zpk)
end Go.Proofs.Ytieangfnjflfmaa

/-
  The walks of package edit, sixth part: the builder's keep, step and done. No condition.
-/
namespace Go.Proofs.Ytieangfnjflfmaa
open Go Go.Eng
set_option maxRecDepth 100000
set_option maxHeartbeats 4000000
set_option linter.all false
attribute [local irreducible] WL WC WQ QFun QLoop Does Q1 QRound QAssign Go.Addr.add
theorem keep_any {b : Nat} {c : Option Addr} {cp : Nat} (B : Bld) (n : Nat) (hn : n ≤ 100000000000) (hB : BFit 100000000000 B) (w0 : World) (m : Mem) (H : SHeap) :
    Does Try.prog 59 #[.pointer (some ⟨b, 0, none⟩), .int .i64 (n : Int)] w0 m (.blk b (.cells [.slice c B.l.length cp, str B.p, str B.d].toArray 96 (0, 0)) :: .row c cp 55 3 (B.l.map Stp.cs) :: H)
      (fun v m' H' => v = .tuple #[] ∧ m' = m ∧ ∃ c' cp', H' = .blk b (.cells [.slice c' (B.keep n).l.length cp', str (B.keep n).p, str (B.keep n).d].toArray 96 (0, 0)) :: .row c' cp' 55 3 ((B.keep n).l.map Stp.cs) :: H) := by
  refine Does.of_body (args := [.pointer (some ⟨b, 0, none⟩), .int .i64 (n : Int)]) Try.func59 rfl Try.ntmps59 rfl ?_
  have hlen := hB.len
  by_cases h0 : n = 0
  · subst h0
    (try (refine st ?_; intros))
    exact q_fin0 (H0 := .blk b (.cells [.slice c B.l.length cp, str B.p, str B.d].toArray 96 (0, 0)) :: .row c cp 55 3 (B.l.map Stp.cs) :: H) ⟨rfl, rfl, c, cp, rfl⟩ (hd := zpk)
  · (try (refine st ?_; intros))
    refine w_callF Try.func60 ?_ (hs := close_any B (by omega) _ _ _)
    rintro v m1 H1 ⟨rfl, rfl, c1, cp1, rfl⟩
    have hkeep : B.keep n = ⟨addKeep B.close.l n, [], []⟩ := by unfold Bld.keep; rw [if_neg (by omega)]
    have hc := hB.close
    rw [hkeep]
    have hcl := hc.len
    have hck := hc.k
    generalize B.close.l = L at *
    have hml : (L.map Stp.cs).length = L.length := by simp
    rcases snoc_cases L with hL | ⟨ys, s, hL⟩
    · have hl0 : L.length = 0 := by rw [hL]; rfl
      (refine st ?_; intros; rename_i x2 c2 cp2)
      rw [hml]
      have e : addKeep L n = L ++ [⟨n, [], []⟩] := by rw [hL]; rfl
      exact q_finNorm0 (H0 := .blk b (.cells [.slice c2 (L.length + 1) cp2, str [], str []].toArray 96 (0, 0)) :: .row c2 cp2 55 3 (L.map Stp.cs ++ [[.int .i64 n, str [], str []]]) :: H) ⟨rfl, rfl, c2, cp2, by rw [e]; simp [Stp.cs]⟩ (hd := zpk)
    · have hl1 : L.length = ys.length + 1 := by rw [hL]; simp
      have hget : (L.map Stp.cs)[L.length - 1]? = some s.cs := by rw [hL]; simp
      have hsk := hck s (by rw [hL]; simp)
      refine WL.rowSome (a := c1) zhs (by omega) ?_
      rintro c0 rfl
      by_cases hs : 0 < s.k
      · (try (refine st ?_; intros))
        have e : (addKeep L n).length = L.length ∧ (addKeep L n).map Stp.cs = (L.map Stp.cs).set (L.length - 1) [.int .i64 (s.k + n), str s.d, str s.p] := by
          rw [hL]; constructor <;> simp [addKeep, hs, Stp.cs]
        exact q_fin0 (H0 := .blk b (.cells [.slice (some c0) L.length cp1, str [], str []].toArray 96 (0, 0)) :: .row (some c0) cp1 55 3 ((L.map Stp.cs).set (L.length - 1) [.int .i64 (s.k + n), str s.d, str s.p]) :: H) ⟨rfl, rfl, some c0, cp1, by rw [e.1, e.2]⟩ (hd := zpk)
      · (refine st ?_; intros; rename_i x2 c2 cp2)
        rw [hml]
        have e : addKeep L n = L ++ [⟨n, [], []⟩] := by rw [hL]; simp [addKeep, hs]
        exact q_finNorm0 (H0 := .blk b (.cells [.slice c2 (L.length + 1) cp2, str [], str []].toArray 96 (0, 0)) :: .row c2 cp2 55 3 (L.map Stp.cs ++ [[.int .i64 n, str [], str []]]) :: H) ⟨rfl, rfl, c2, cp2, by rw [e]; simp [Stp.cs]⟩ (hd := zpk)
end Go.Proofs.Ytieangfnjflfmaa

/-
  The walks of package edit, eighth part: the builder's step and done, the one form of a change. No condition.
-/
namespace Go.Eng
def Stp.v (s : Stp) : Value := .agg #[.int .i64 s.k, str s.d, str s.p]
end Go.Eng
namespace Go.Proofs.Ytieangfnjflfmaa
open Go Go.Eng
set_option maxRecDepth 100000
set_option maxHeartbeats 4000000
set_option linter.all false
attribute [local irreducible] WL WC WQ QFun QLoop Does Q1 QRound QAssign Go.Addr.add
theorem step_any {b : Nat} {c : Option Addr} {cp : Nat} (B : Bld) (s : Stp) (hk : s.k ≤ 100000000000) (hd : s.d.length ≤ 100000000000) (hp : s.p.length ≤ 100000000000) (hB : BFit 100000000000 B) (w0 : World) (m : Mem) (H : SHeap) :
    Does Try.prog 40 #[.pointer (some ⟨b, 0, none⟩), s.v] w0 m (.blk b (.cells [.slice c B.l.length cp, str B.p, str B.d].toArray 96 (0, 0)) :: .row c cp 55 3 (B.l.map Stp.cs) :: H)
      (fun v m' H' => v = .tuple #[] ∧ m' = m ∧ ∃ c' cp', H' = .blk b (.cells [.slice c' (B.step s).l.length cp', str (B.step s).p, str (B.step s).d].toArray 96 (0, 0)) :: .row c' cp' 55 3 ((B.step s).l.map Stp.cs) :: H) := by
  refine Does.of_body (args := [.pointer (some ⟨b, 0, none⟩), .agg #[.int .i64 s.k, str s.d, str s.p]]) Try.func40 rfl Try.ntmps40 rfl ?_
  have h1 := hB.p
  have h2 := hB.d
  by_cases h0 : 0 < s.k
  · obtain ⟨n, hn⟩ : ∃ n : Nat, s.k = (n : Int) := ⟨s.k.toNat, by omega⟩
    have e : B.step s = B.keep n := by unfold Bld.step; rw [if_pos h0, hn]
    rw [e, hn]
    have h0' : 0 < (n : Int) := by omega
    (refine st ?_; intros; rename_i b3)
    refine WL.heap (H' := .blk b (.cells [.slice c B.l.length cp, str B.p, str B.d].toArray 96 (0, 0)) :: .row c cp 55 3 (B.l.map Stp.cs) :: H) zpk ?_
    refine w_callF Try.func59 ?_ (hs := keep_any B n (by omega) hB _ _ _)
    rintro v m1 H1 ⟨rfl, rfl, c1, cp1, rfl⟩
    (try (refine st ?_; intros))
    exact q_finNorm0 (H0 := _ :: _ :: H) ⟨rfl, rfl, c1, cp1, rfl⟩ (hd := zpk)
  · by_cases h3 : s.d = []
    · have e : B.step s = ⟨B.l, B.p ++ s.p, B.d⟩ := by unfold Bld.step; rw [if_neg h0, if_neg (fun h => h h3)]
      rw [e]
      (try (refine st ?_; intros))
      exact q_finNorm0 (H0 := .blk b (.cells [.slice c B.l.length cp, str (B.p ++ s.p), str B.d].toArray 96 (0, 0)) :: .row c cp 55 3 (B.l.map Stp.cs) :: H) ⟨rfl, rfl, c, cp, rfl⟩ (hd := zpk)
    · have e : B.step s = ⟨B.l, B.p, B.d ++ s.d⟩ := by unfold Bld.step; rw [if_neg h0, if_pos h3]
      rw [e]
      (try (refine st ?_; intros))
      exact q_finNorm0 (H0 := .blk b (.cells [.slice c B.l.length cp, str B.p, str (B.d ++ s.d)].toArray 96 (0, 0)) :: .row c cp 55 3 (B.l.map Stp.cs) :: H) ⟨rfl, rfl, c, cp, rfl⟩ (hd := zpk)
theorem done_any {b : Nat} {c : Option Addr} {cp : Nat} (B : Bld) (hB : B.l.length ≤ 1000000000000) (w0 : World) (m : Mem) (H : SHeap) :
    Does Try.prog 41 #[.pointer (some ⟨b, 0, none⟩)] w0 m (.blk b (.cells [.slice c B.l.length cp, str B.p, str B.d].toArray 96 (0, 0)) :: .row c cp 55 3 (B.l.map Stp.cs) :: H)
      (fun v m' H' => m' = m ∧ ∃ c' cp', v = .slice c' B.close.l.length cp' ∧ H' = .row c' cp' 55 3 (B.close.l.map Stp.cs) :: H) := by
  refine Does.of_body (args := [.pointer (some ⟨b, 0, none⟩)]) Try.func41 rfl Try.ntmps41 rfl ?_
  (try (refine st ?_; intros))
  refine w_callF Try.func60 ?_ (hs := close_any B hB _ _ _)
  rintro v m1 H1 ⟨rfl, rfl, c1, cp1, rfl⟩
  (try (refine st ?_; intros))
  exact q_fin0 (H0 := .row c1 cp1 55 3 (B.close.l.map Stp.cs) :: H) ⟨rfl, c1, cp1, rfl, rfl⟩ (hd := zpk)
theorem plain_any {a : Option Addr} {cap : Nat} {l : List Stp} (hok : ∀ s ∈ l, stpOk s) (hl : (atomsOf l).length ≤ 1000000000) (w0 : World) (m : Mem) (H : SHeap) (hr : RowR w0 m H 3 a (l.map Stp.cs)) :
    Does Try.prog 67 #[.slice a l.length cap] w0 m H (fun v m' H' => m' = m ∧ ∃ c' cp', v = .slice c' (plainOf l).length cp' ∧ H' = .row c' cp' 55 3 ((plainOf l).map Stp.cs) :: H) := by
  refine Does.of_body (args := [.slice a l.length cap]) Try.func67 rfl Try.ntmps67 rfl ?_
  have hln : (l.map Stp.cs).length = l.length := by simp
  have hlen := steps_le l hok
  (refine st ?_; intros; rename_i b)
  refine WC.newRow (T := 55) (sz := 3) ?_
  refine WC.loopH [(8, .int .i64 ((0) : Int)), (7, .int .i64 (l.length : Int)), (6, .slice a l.length cap), (3, .pointer (some ⟨b, 0, none⟩))] ?_ ?_ (fun j r ds m' H' => ∃ i c cp B, j = l.length - i ∧ r = [(8, .int .i64 (i : Int)), (7, .int .i64 (l.length : Int)), (6, .slice a l.length cap), (3, .pointer (some ⟨b, 0, none⟩))] ∧ ds = [] ∧ m = m' ∧ H' = .blk b (.cells [.slice c B.l.length cp, str B.p, str B.d].toArray 96 (0, 0)) :: .row c cp 55 3 (B.l.map Stp.cs) :: H ∧ (i ≤ l.length) ∧ (B = Bld.start.run (atomsOf (l.take i)))) (l.length - (0)) ⟨0, none, 0, Bld.start, rfl, rfl, rfl, rfl, rfl, by omega, by simp [atomsOf, Bld.run]⟩ ?_
  · (repeat (first | exact Env.Sub.nil | refine Env.Sub.cons rfl ?_))
  · exact zpk
  rintro j r ds m' H' ⟨i, c, cp, B, rfl, rfl, rfl, rfl, rfl, hi, hB⟩
  have htl : (atomsOf (l.take i)).length ≤ (atomsOf l).length := by
    have e : atomsOf l = atomsOf (l.take i) ++ atomsOf (l.drop i) := by rw [← atoms_append, List.take_append_drop]
    rw [e]; simp
  have hfit : BFit 10000000000 B := by rw [hB]; exact (BFit.runs _).mono (by omega)
  by_cases hlt : i < l.length
  · obtain ⟨x, hx, hget, htk, hmem, hdr⟩ := at_idx (f := Stp.cs) hlt
    have hr1 := (hr.more (i := .row c cp 55 3 (B.l.map Stp.cs))).more (i := .blk b (.cells [.slice c B.l.length cp, str B.p, str B.d].toArray 96 (0, 0)))
    have hxl : x.atoms.length ≤ (atomsOf l).length := by
      have e : atomsOf l = atomsOf (l.take (i + 1)) ++ atomsOf (l.drop (i + 1)) := by rw [← atoms_append, List.take_append_drop]
      rw [e, htk, atoms_append, atoms_one]; simp only [List.length_append]; omega
    rw [atoms_len] at hxl
    refine WC.rSome hr1 (by omega) ?_
    rintro a0 rfl
    (refine st ?_; intros; rename_i bx)
    refine WL.heap (H' := .blk b (.cells [.slice c B.l.length cp, str B.p, str B.d].toArray 96 (0, 0)) :: .row c cp 55 3 (B.l.map Stp.cs) :: H) zpk ?_
    refine w_callF Try.func40 ?_ (hs := step_any B x (by omega) (by omega) (by omega) (hfit.mono (by omega)) _ _ _)
    rintro v m1 H1 ⟨rfl, rfl, c1, cp1, rfl⟩
    (try (refine st ?_; intros))
    refine WQ.next (l.length - (i + 1)) ⟨i + 1, c1, cp1, B.step x, rfl, rfl, rfl, rfl, rfl, ?_, ?_⟩ (by omega) zsb zpk
    · omega
    · rw [htk, atoms_append, run_append, ← hB, atoms_one, run_step _ _ (hok x hmem)]
  · obtain rfl : i = l.length := by omega
    have hlen2 := hfit.len
    (try (refine st ?_; intros))
    refine w_callF Try.func41 ?_ (hs := done_any B (by omega) _ _ _)
    rintro v m1 H1 ⟨rfl, c1, cp1, rfl, rfl⟩
    (try (refine st ?_; intros))
    have e : B.close.l = plainOf l := by
      rw [hB, List.take_length, plainOf]
      have : ∀ (l : List Stp) (b : Bld), (∀ s ∈ l, stpOk s) → b.run (atomsOf l) = l.foldl Bld.step b := by
        intro l
        induction l with
        | nil => intro b _; rfl
        | cons s l ih => intro b h; rw [atoms_cons, run_append, run_step _ _ (h s List.mem_cons_self), ih _ (fun x hx => h x (List.mem_cons_of_mem _ hx)), List.foldl_cons]
      rw [this l _ hok]
    rw [e]
    exact q_fin0 (H0 := .row c1 cp1 55 3 ((plainOf l).map Stp.cs) :: H) ⟨rfl, c1, cp1, rfl, rfl⟩ (hd := zpk)
end Go.Proofs.Ytieangfnjflfmaa

/-
  What a change that may be bounds; the walk of edit.move. No condition.
-/
namespace Go.Eng
/-- what a change that may be bounds -/
theorem sized {l : List Stp} {f t : Int} (h : sizesOf l = some (f, t)) : (∀ s ∈ l, stpOk s) ∧ (atomsOf l).length ≤ 131072 ∧ (atomsOf (plainOf l)).length ≤ 131072 ∧ f = (fromA (atomsOf l) : Int) ∧ t = (toA (atomsOf l) : Int) ∧ 0 ≤ f ∧ f ≤ 65536 ∧ 0 ≤ t ∧ t ≤ 65536 := by
  obtain ⟨h1, h2, h3, h4, h5⟩ := sizesOf_some h
  have hok : ∀ s ∈ l, stpOk s := fun s hs => (h1 s hs).1
  have a1 := atoms_le (atomsOf l)
  have a2 := atoms_le (atomsOf (plainOf l))
  obtain ⟨n1, n2⟩ := nf_sizes l hok
  rw [plain_atoms, n1, n2] at a2
  unfold maxT at h4 h5
  rw [plain_atoms]
  exact ⟨hok, by omega, by omega, h2, h3, by omega, by omega, by omega, by omega⟩
end Go.Eng
namespace Go.Proofs.Ytieangfnjflfmaa
open Go Go.Eng
set_option maxRecDepth 100000
set_option maxHeartbeats 4000000
set_option linter.all false
attribute [local irreducible] WL WC WQ QFun QLoop Does Q1 QRound QAssign Go.Addr.add
end Go.Proofs.Ytieangfnjflfmaa

/-
  The walks of package edit, tenth part: what a change makes of a text; the law's example. No condition.
-/
namespace Go.Eng
open Go Go.RowKit
theorem RowR.blk {w0 : World} {m : Mem} {H : SHeap} {b sz : Nat} {T : TypeId} {fz : Nat × Nat} {es : List (List Value)} {L : List Value} (hm : Item.blk b (.cells L.toArray T fz) ∈ H) (h1 : ∀ e ∈ es, e.length = sz) (hL : es.flatten = L) : RowR w0 m H sz (.some ⟨b, 0, .none⟩) es := by
  subst hL
  intro w hs
  refine ⟨h1, fun j v hj => ?_⟩
  rw [add_none]
  exact Cell.blk hm (by simpa using hj) w hs
def bV (b : UInt8) : List Value := [.int .u8 (b.toNat : Int)]
def applyV (s : List UInt8) (l : List Stp) : Value := match sizesOf l with
  | none => .tuple #[str [], .int .i64 2]
  | some (f, _) => if f ≠ s.length then .tuple #[str [], .int .i64 5] else match applyA s (atomsOf l) with
    | none => .tuple #[str [], .int .i64 270]
    | some o => .tuple #[str o, .int .i64 0]
end Go.Eng
namespace Go.Proofs.Ytieangfnjflfmaa
open Go Go.Eng
set_option maxRecDepth 100000
set_option maxHeartbeats 4000000
set_option linter.all false
attribute [local irreducible] WL WC WQ QFun QLoop Does Q1 QRound QAssign Go.Addr.add
attribute [local irreducible] applyA sizesF sizesOf
end Go.Proofs.Ytieangfnjflfmaa

/-
  Plain facts on changes: lists that builders make, applied. No condition.
-/
namespace Go.Eng
open Go
theorem mem_atoms {l : List Stp} {s : Stp} (h : s ∈ l) : s.atoms.length ≤ (atomsOf l).length := by
  obtain ⟨x, y, rfl⟩ := List.append_of_mem h
  rw [atoms_append, atoms_cons, List.length_append, List.length_append]; omega
theorem fit_list {L : List Atm} (h1 : fromA L ≤ 65536) (h2 : toA L ≤ 65536) : Fit (listOf L) := by
  obtain ⟨e1, e2⟩ := list_sizes L
  have hok := (list_ok L).1
  have ha := atoms_le (atomsOf (listOf L))
  have hl := steps_le (listOf L) hok
  refine ⟨by omega, fun s hs => ?_, fun s hs => ?_, fun s hs => ?_⟩
  all_goals
    have := mem_atoms hs
    have hb := stp_bounds (hok s hs)
    omega
def okV (t : List UInt8) : Value := .tuple #[str t, .int .i64 0]
end Go.Eng

/-
  Plain facts on changes: how long what is carried is; a change carried over many. No condition.
-/
namespace Go.Eng
open Go
theorem fit_plain {l : List Stp} {f t : Int} (hs : sizesOf l = some (f, t)) : Fit (plainOf l) := by
  obtain ⟨hok, _, _, h1, h2, _, h4, _, h6⟩ := sized hs
  obtain ⟨n1, n2⟩ := nf_sizes l hok
  rw [plain_list]
  exact fit_list (by omega) (by omega)
/-- a change carried over a sent one -/
def overP (hand h : Int) (x c : List Stp) : Int ⊕ List Stp := if h ≤ hand then (match carP x c with | .inl e => .inl e | .inr (_, v) => .inr v) else (match carP c x with | .inl e => .inl e | .inr (u, _) => .inr u)
/-- a change carried over many -/
def carriedP (hand : Int) : List (Int × List Stp) → List Stp → Int ⊕ List Stp
  | [], c => .inr c
  | x :: K, c => match overP hand x.1 x.2 c with | .inl e => .inl e | .inr v => carriedP hand K v
end Go.Eng

/-
  The walks of edit.Plain, draft.Match and of a change's parts. No condition.
-/
namespace Go.Eng
open Go
theorem fit_sized {l : List Stp} {f t : Int} (hs : sizesOf l = some (f, t)) : Fit l := by
  obtain ⟨hok, hal, _⟩ := sized hs
  have hl := steps_le l hok
  refine ⟨by omega, fun x hx => ?_, fun x hx => ?_, fun x hx => ?_⟩
  all_goals
    have h1 := mem_atoms hx
    have h2 := stp_bounds (hok x hx)
    omega
end Go.Eng
namespace Go.Proofs.Ytieangfnjflfmaa
open Go Go.Eng
set_option maxRecDepth 100000
set_option maxHeartbeats 4000000
set_option linter.all false
attribute [local irreducible] WL WC WQ QFun QLoop Does Q1 QRound QAssign Go.Addr.add
attribute [local irreducible] sizesOf sizesF plainOf
theorem ePlain_any {a : Option Addr} {cap : Nat} {l : List Stp} {f t : Int} (hs : sizesOf l = some (f, t)) (w0 : World) (m : Mem) (H : SHeap) (hr : RowR w0 m H 3 a (l.map Stp.cs)) :
    Does Try.prog 49 #[.slice a l.length cap] w0 m H (fun v m' H' => m' = m ∧ ∃ c cp, v = .tuple #[.slice c (plainOf l).length cp, .int .i64 0] ∧ H' = .row c cp 55 3 ((plainOf l).map Stp.cs) :: H) := by
  refine Does.of_body (args := [.slice a l.length cap]) Try.func49 rfl Try.ntmps49 rfl ?_
  have hf := fit_sized hs
  (try (refine st ?_; intros))
  refine w_callF Try.func39 ?_ (hs := sizes_any hf _ _ _ hr)
  rintro v m H1 ⟨rfl, rfl, rfl⟩
  obtain ⟨hok, hal, _⟩ := sized hs
  rw [hs, show szP (some (f, t)) = .tuple #[.int .i64 f, .int .i64 t, .int .i64 0] from rfl]
  (try (refine st ?_; intros))
  refine w_callF Try.func67 ?_ (hs := plain_any hok (by omega) _ _ _ hr)
  rintro v m H2 ⟨rfl, c, cp, rfl, rfl⟩
  (try (refine st ?_; intros))
  exact q_fin0 (H0 := .row c cp 55 3 ((plainOf l).map Stp.cs) :: H1) ⟨rfl, c, cp, rfl, rfl⟩ (hd := zpk)
attribute [local irreducible] matchL toks strs jn
theorem dMatch_long {s t : Tx} (h : Long [s, t]) (w0 : World) (m : Mem) (H : SHeap) : Does Try.prog 13 #[str s, str t] w0 m H (Gives (.tuple #[.slice none 0 0, .int .i64 3]) m H) := by
  refine Does.of_body (args := [str s, str t]) Try.func13 rfl Try.ntmps13 rfl ?_
  (refine st ?_; intros; rename_i b3)
  refine w_callF Try.func23 ?_ (hs := long_any (L := [s, t]) (by simp) (rowR_blk (T := 9) (fz := (0, 0)) (L := [str s, str t]) zhs (by unfold strs; rfl) (by simp [strs])))
  rintro v m H9 ⟨rfl, rfl, rfl⟩
  rw [dcd_true h]
  (try (refine st ?_; intros))
  exact q_fin0 (H0 := H) (Gives.mk rfl) (hd := zpk)
theorem dMatch_any {s t : Tx} (h : ¬ Long [s, t]) (w0 : World) (m : Mem) (H : SHeap) : Does Try.prog 13 #[str s, str t] w0 m H
    (fun v m' H' => m.le m' ∧ ∃ a cp, v = .tuple #[.slice a (matchL (toks s) (toks t)).length cp, .int .i64 0] ∧ H' = .row a cp 44 2 ((matchL (toks s) (toks t)).map prE) :: H) := by
  refine Does.of_body (args := [str s, str t]) Try.func13 rfl Try.ntmps13 rfl ?_
  have hls : s.length ≤ 65536 := Nat.le_of_not_lt fun g => h ⟨s, by simp, g⟩
  have hlt : t.length ≤ 65536 := Nat.le_of_not_lt fun g => h ⟨t, by simp, g⟩
  have hXl := toks_length s
  have hYl := toks_length t
  (refine st ?_; intros; rename_i b3)
  refine w_callF Try.func23 ?_ (hs := long_any (L := [s, t]) (by simp) (rowR_blk (T := 9) (fz := (0, 0)) (L := [str s, str t]) zhs (by unfold strs; rfl) (by simp [strs])))
  rintro v m H9 ⟨rfl, rfl, rfl⟩
  rw [dcd_false h]
  (try (refine st ?_; intros))
  refine w_callF Try.func24 ?_ (hs := toks_any s (by omega) _ _ _)
  rintro v m1 H1 ⟨hle1, ax, cx, rfl, rfl⟩
  (try (refine st ?_; intros))
  refine w_callF Try.func24 ?_ (hs := toks_any t (by omega) _ _ _)
  rintro v m2 H1 ⟨hle2, ay, cy, rfl, rfl⟩
  generalize toks s = X at *
  generalize toks t = Y at *
  refine WL.rowCap (a := ax) (cap := cx) (T := 9) (sz := 1) (es := strs X) zhs ?_
  intro hcx
  refine WL.rowCap (a := ay) (cap := cy) (T := 9) (sz := 1) (es := strs Y) zhs ?_
  intro hcy
  rw [strs_length] at hcx hcy
  (try (refine st ?_; intros))
  refine w_callF Try.func25 ?_ (hs := match_any (A := X) (B := Y) (by omega) (by omega) hcx hcy (RowR.row (T := 9) (cap := cx) zhs) (RowR.row (T := 9) (cap := cy) zhs))
  rintro v m9 H9 ⟨rfl, a1, c1, rfl, rfl⟩
  (try (refine st ?_; intros))
  exact q_fin0 (H0 := .row a1 c1 44 2 ((matchL X Y).map prE) :: H) ⟨hle1.trans hle2, a1, c1, rfl, rfl⟩ (hd := zpk)
theorem sq_D35_1 {G : Prop} (h : G := by (repeat (first | (refine sp ?_; (repeat intro zzc)) | (refine WL.append1 (by':=40) rfl rfl rfl rfl (by (repeat (first | exact Out.here | apply Out.there))) zhs (by exact rfl) (by exact rfl) (by exact rfl) (by exact rfl) (by exact rfl) (by exact rfl) (by first | exact rfl | omega) (by first | omega | (simp; omega)) (by decide) (by exact rfl) ?_; intro zzc zzc))); exact WQ.q1 rfl) : G := h
theorem st_D35_1 {G G' : Prop} (next : G') (h : Bx G' → G := by intro zzn; (first | ((refine st ?_; (repeat intro zzc)); (try ((first | (refine WL.append1 (by':=40) rfl rfl rfl rfl (by (repeat (first | exact Out.here | apply Out.there))) zhs (by exact rfl) (by exact rfl) (by exact rfl) (by exact rfl) (by exact rfl) (by exact rfl) (by first | exact rfl | omega) (by first | omega | (simp; omega)) (by decide) (by exact rfl) ?_; intro zzc zzc) | ((refine iDraw ?_; (first | refine WC.drawAll rfl (by decide +kernel) ?_ | refine WC.draw 1 rfl (by decide +kernel) ?_ | refine WC.draw 2 rfl (by decide +kernel) ?_ | refine WC.draw 3 rfl (by decide +kernel) ?_ | refine WC.draw 4 rfl (by decide +kernel) ?_ | refine WC.draw 5 rfl (by decide +kernel) ?_ | refine WC.draw 6 rfl (by decide +kernel) ?_ | refine WC.draw 7 rfl (by decide +kernel) ?_ | refine WC.draw 8 rfl (by decide +kernel) ?_ | refine WC.draw 9 rfl (by decide +kernel) ?_ | refine WC.draw 10 rfl (by decide +kernel) ?_ | refine WC.draw 11 rfl (by decide +kernel) ?_ | refine WC.draw 12 rfl (by decide +kernel) ?_ | refine WC.draw 13 rfl (by decide +kernel) ?_ | refine WC.draw 14 rfl (by decide +kernel) ?_ | refine WC.draw 15 rfl (by decide +kernel) ?_ | refine WC.draw 16 rfl (by decide +kernel) ?_ | refine WC.draw 17 rfl (by decide +kernel) ?_ | refine WC.draw 18 rfl (by decide +kernel) ?_ | refine WC.draw 19 rfl (by decide +kernel) ?_ | refine WC.draw 20 rfl (by decide +kernel) ?_ | refine WC.draw 21 rfl (by decide +kernel) ?_ | refine WC.draw 22 rfl (by decide +kernel) ?_ | refine WC.draw 23 rfl (by decide +kernel) ?_ | refine WC.draw 24 rfl (by decide +kernel) ?_)); (repeat (refine WD.cons rfl (fun c h => by cases h) sq_D35_1 ?_)); refine WD.nil ?_)); (try (refine st ?_; (repeat intro zzc)))))) | ((first | (refine WL.append1 (by':=40) rfl rfl rfl rfl (by (repeat (first | exact Out.here | apply Out.there))) zhs (by exact rfl) (by exact rfl) (by exact rfl) (by exact rfl) (by exact rfl) (by exact rfl) (by first | exact rfl | omega) (by first | omega | (simp; omega)) (by decide) (by exact rfl) ?_; intro zzc zzc) | ((refine iDraw ?_; (first | refine WC.drawAll rfl (by decide +kernel) ?_ | refine WC.draw 1 rfl (by decide +kernel) ?_ | refine WC.draw 2 rfl (by decide +kernel) ?_ | refine WC.draw 3 rfl (by decide +kernel) ?_ | refine WC.draw 4 rfl (by decide +kernel) ?_ | refine WC.draw 5 rfl (by decide +kernel) ?_ | refine WC.draw 6 rfl (by decide +kernel) ?_ | refine WC.draw 7 rfl (by decide +kernel) ?_ | refine WC.draw 8 rfl (by decide +kernel) ?_ | refine WC.draw 9 rfl (by decide +kernel) ?_ | refine WC.draw 10 rfl (by decide +kernel) ?_ | refine WC.draw 11 rfl (by decide +kernel) ?_ | refine WC.draw 12 rfl (by decide +kernel) ?_ | refine WC.draw 13 rfl (by decide +kernel) ?_ | refine WC.draw 14 rfl (by decide +kernel) ?_ | refine WC.draw 15 rfl (by decide +kernel) ?_ | refine WC.draw 16 rfl (by decide +kernel) ?_ | refine WC.draw 17 rfl (by decide +kernel) ?_ | refine WC.draw 18 rfl (by decide +kernel) ?_ | refine WC.draw 19 rfl (by decide +kernel) ?_ | refine WC.draw 20 rfl (by decide +kernel) ?_ | refine WC.draw 21 rfl (by decide +kernel) ?_ | refine WC.draw 22 rfl (by decide +kernel) ?_ | refine WC.draw 23 rfl (by decide +kernel) ?_ | refine WC.draw 24 rfl (by decide +kernel) ?_)); (repeat (refine WD.cons rfl (fun c h => by cases h) sq_D35_1 ?_)); refine WD.nil ?_)); (try (refine st ?_; (repeat intro zzc))))); (repeat ((first | (refine WL.append1 (by':=40) rfl rfl rfl rfl (by (repeat (first | exact Out.here | apply Out.there))) zhs (by exact rfl) (by exact rfl) (by exact rfl) (by exact rfl) (by exact rfl) (by exact rfl) (by first | exact rfl | omega) (by first | omega | (simp; omega)) (by decide) (by exact rfl) ?_; intro zzc zzc) | ((refine iDraw ?_; (first | refine WC.drawAll rfl (by decide +kernel) ?_ | refine WC.draw 1 rfl (by decide +kernel) ?_ | refine WC.draw 2 rfl (by decide +kernel) ?_ | refine WC.draw 3 rfl (by decide +kernel) ?_ | refine WC.draw 4 rfl (by decide +kernel) ?_ | refine WC.draw 5 rfl (by decide +kernel) ?_ | refine WC.draw 6 rfl (by decide +kernel) ?_ | refine WC.draw 7 rfl (by decide +kernel) ?_ | refine WC.draw 8 rfl (by decide +kernel) ?_ | refine WC.draw 9 rfl (by decide +kernel) ?_ | refine WC.draw 10 rfl (by decide +kernel) ?_ | refine WC.draw 11 rfl (by decide +kernel) ?_ | refine WC.draw 12 rfl (by decide +kernel) ?_ | refine WC.draw 13 rfl (by decide +kernel) ?_ | refine WC.draw 14 rfl (by decide +kernel) ?_ | refine WC.draw 15 rfl (by decide +kernel) ?_ | refine WC.draw 16 rfl (by decide +kernel) ?_ | refine WC.draw 17 rfl (by decide +kernel) ?_ | refine WC.draw 18 rfl (by decide +kernel) ?_ | refine WC.draw 19 rfl (by decide +kernel) ?_ | refine WC.draw 20 rfl (by decide +kernel) ?_ | refine WC.draw 21 rfl (by decide +kernel) ?_ | refine WC.draw 22 rfl (by decide +kernel) ?_ | refine WC.draw 23 rfl (by decide +kernel) ?_ | refine WC.draw 24 rfl (by decide +kernel) ?_)); (repeat (refine WD.cons rfl (fun c h => by cases h) sq_D35_1 ?_)); refine WD.nil ?_)); (try (refine st ?_; (repeat intro zzc))))); (repeat revert zzc); exact zzn.out) : G := h ⟨next⟩
theorem part_any {X Y : List Tx} {L : List Stp} {bx by_ bk bc bi i k n mm cx cy cc : Nat} {ax ay ac : Option Addr} {w0 : World} {m : Mem} {H : SHeap}
    (hX : X.length ≤ 4194304 ∧ X.flatten.length ≤ 4194304 ∧ X.length ≤ cx) (hY : Y.length ≤ 4194304 ∧ Y.flatten.length ≤ 4194304 ∧ Y.length ≤ cy) (hn : i ≤ n ∧ n ≤ X.length) (hm : k ≤ mm ∧ mm ≤ Y.length) (hL : L.length ≤ 4194304) :
    Does Try.prog 48 #[.int .i64 (n : Int), .int .i64 (mm : Int), .pointer (some ⟨by_, 0, none⟩), .pointer (some ⟨bk, 0, none⟩), .pointer (some ⟨bc, 0, none⟩), .pointer (some ⟨bx, 0, none⟩), .pointer (some ⟨bi, 0, none⟩)] w0 m
      ([.blk bx (.cells [.slice ax X.length cx].toArray 49 (0, 0)), .row ax cx 9 1 (strs X), .blk by_ (.cells [.slice ay Y.length cy].toArray 49 (0, 0)), .row ay cy 9 1 (strs Y), .blk bk (.cells [.int .i64 (k : Int)].toArray 3 (0, 0)), .blk bi (.cells [.int .i64 (i : Int)].toArray 3 (0, 0)), .blk bc (.cells [.slice ac L.length cc].toArray 40 (0, 0)), .row ac cc 55 3 (L.map Stp.cs)] ++ H)
      (fun _ m' H' => m' = m ∧ ∃ (ac2 : Option Addr) (cc2 : Nat), H' = [.blk bx (.cells [.slice ax X.length cx].toArray 49 (0, 0)), .row ax cx 9 1 (strs X), .blk by_ (.cells [.slice ay Y.length cy].toArray 49 (0, 0)), .row ay cy 9 1 (strs Y), .blk bk (.cells [.int .i64 ((mm + 1 : Nat) : Int)].toArray 3 (0, 0)), .blk bi (.cells [.int .i64 ((n + 1 : Nat) : Int)].toArray 3 (0, 0)),
        .blk bc (.cells [.slice ac2 (L ++ (putT (jn Y k mm) ++ dropT (jn X i n))).length cc2].toArray 40 (0, 0)), .row ac2 cc2 55 3 ((L ++ (putT (jn Y k mm) ++ dropT (jn X i n))).map Stp.cs)] ++ H) := by
  refine Does.of_body Try.func48 rfl Try.ntmps48 rfl ?_
  simp only [List.cons_append, List.nil_append]
  have hn1 : (n : Int) + 1 = ((n + 1 : Nat) : Int) := by omega
  have hm1 : (mm : Int) + 1 = ((mm + 1 : Nat) : Int) := by omega
  (try (refine st_D35_1 ?_; intros))
  refine w_callF Try.func27 ?_ (hs := joinSub_any (l := Y) zhs hm (by omega) (by omega))
  rintro v m9 H9 ⟨rfl, rfl, rfl⟩
  have hLm : (L.map Stp.cs).length = L.length := List.length_map _
  have hLp : ∀ t : Tx, (L ++ [(⟨0, [], t⟩ : Stp)]).map Stp.cs = L.map Stp.cs ++ [[.int .i64 0, str [], str t]] := fun t => by simp [Stp.cs]
  by_cases h1 : jn Y k mm = []
  · rw [h1, show putT [] = [] from rfl, List.nil_append]
    (try (refine st_D35_1 ?_; intros))
    refine w_callF Try.func27 ?_ (hs := joinSub_any (l := X) zhs hn (by omega) (by omega))
    rintro v m9 H9 ⟨rfl, rfl, rfl⟩
    generalize jn X i n = tX at *
    by_cases h2 : tX = []
    · rw [show dropT tX = [] from if_pos h2, List.append_nil]
      (try (refine st_D35_1 ?_; intros))
      rw [hn1, hm1]
      exact q_finNorm0 (H0 := [.blk bx (.cells [.slice ax X.length cx].toArray 49 (0, 0)), .row ax cx 9 1 (strs X), .blk by_ (.cells [.slice ay Y.length cy].toArray 49 (0, 0)), .row ay cy 9 1 (strs Y), .blk bk (.cells [.int .i64 ((mm + 1 : Nat) : Int)].toArray 3 (0, 0)), .blk bi (.cells [.int .i64 ((n + 1 : Nat) : Int)].toArray 3 (0, 0)), .blk bc (.cells [.slice ac L.length cc].toArray 40 (0, 0)), .row ac cc 55 3 (L.map Stp.cs)] ++ H) ⟨rfl, ac, cc, rfl⟩ (hd := zpk)
    · rw [show dropT tX = [⟨0, tX, []⟩] from if_neg h2]
      (refine st_D35_1 ?_; intros; rename_i b9 ac2 cc2)
      rw [hLm, hn1, hm1, show L.length + 1 = (L ++ [(⟨0, tX, []⟩ : Stp)]).length by simp, show L.map Stp.cs ++ [[.int .i64 0, str tX, str []]] = (L ++ [(⟨0, tX, []⟩ : Stp)]).map Stp.cs by simp [Stp.cs]]
      exact q_finNorm0 (H0 := [.blk bx (.cells [.slice ax X.length cx].toArray 49 (0, 0)), .row ax cx 9 1 (strs X), .blk by_ (.cells [.slice ay Y.length cy].toArray 49 (0, 0)), .row ay cy 9 1 (strs Y), .blk bk (.cells [.int .i64 ((mm + 1 : Nat) : Int)].toArray 3 (0, 0)), .blk bi (.cells [.int .i64 ((n + 1 : Nat) : Int)].toArray 3 (0, 0)), .blk bc (.cells [.slice ac2 (L ++ [(⟨0, tX, []⟩ : Stp)]).length cc2].toArray 40 (0, 0)), .row ac2 cc2 55 3 ((L ++ [(⟨0, tX, []⟩ : Stp)]).map Stp.cs)] ++ H) ⟨rfl, ac2, cc2, rfl⟩ (hd := zpk)
  · rw [show putT (jn Y k mm) = [⟨0, [], jn Y k mm⟩] from if_neg h1]
    generalize jn Y k mm = tY at *
    have hLp1 := hLp tY
    obtain ⟨L1, hL1⟩ : ∃ L1, L1 = L ++ [(⟨0, [], tY⟩ : Stp)] := ⟨_, rfl⟩
    have hl1 : L1.length = L.length + 1 := by rw [hL1]; simp
    have hl1m : (L1.map Stp.cs).length = L1.length := List.length_map _
    rw [← hL1] at hLp1
    rw [← List.append_assoc, ← hL1]
    clear hL1
    (refine st_D35_1 ?_; intros; rename_i b9 ac1 cc1)
    refine w_callF Try.func27 ?_ (hs := joinSub_any (l := X) zhs hn (by omega) (by omega))
    rintro v m9 H9 ⟨rfl, rfl, rfl⟩
    rw [hLm, ← hl1, ← hLp1]
    generalize jn X i n = tX at *
    by_cases h2 : tX = []
    · rw [show dropT tX = [] from if_pos h2, List.append_nil]
      (try (refine st_D35_1 ?_; intros))
      rw [hn1, hm1]
      exact q_finNorm0 (H0 := [.blk bx (.cells [.slice ax X.length cx].toArray 49 (0, 0)), .row ax cx 9 1 (strs X), .blk by_ (.cells [.slice ay Y.length cy].toArray 49 (0, 0)), .row ay cy 9 1 (strs Y), .blk bk (.cells [.int .i64 ((mm + 1 : Nat) : Int)].toArray 3 (0, 0)), .blk bi (.cells [.int .i64 ((n + 1 : Nat) : Int)].toArray 3 (0, 0)), .blk bc (.cells [.slice ac1 L1.length cc1].toArray 40 (0, 0)), .row ac1 cc1 55 3 (L1.map Stp.cs)] ++ H) ⟨rfl, ac1, cc1, rfl⟩ (hd := zpk)
    · rw [show dropT tX = [⟨0, tX, []⟩] from if_neg h2]
      (refine st_D35_1 ?_; intros; rename_i b8 ac2 cc2)
      rw [hl1m, hn1, hm1, show L1.length + 1 = (L1 ++ [(⟨0, tX, []⟩ : Stp)]).length by simp, show L1.map Stp.cs ++ [[.int .i64 0, str tX, str []]] = (L1 ++ [(⟨0, tX, []⟩ : Stp)]).map Stp.cs by simp [Stp.cs]]
      exact q_finNorm0 (H0 := [.blk bx (.cells [.slice ax X.length cx].toArray 49 (0, 0)), .row ax cx 9 1 (strs X), .blk by_ (.cells [.slice ay Y.length cy].toArray 49 (0, 0)), .row ay cy 9 1 (strs Y), .blk bk (.cells [.int .i64 ((mm + 1 : Nat) : Int)].toArray 3 (0, 0)), .blk bi (.cells [.int .i64 ((n + 1 : Nat) : Int)].toArray 3 (0, 0)), .blk bc (.cells [.slice ac2 (L1 ++ [(⟨0, tX, []⟩ : Stp)]).length cc2].toArray 40 (0, 0)), .row ac2 cc2 55 3 ((L1 ++ [(⟨0, tX, []⟩ : Stp)]).map Stp.cs)] ++ H) ⟨rfl, ac2, cc2, rfl⟩ (hd := zpk)
end Go.Proofs.Ytieangfnjflfmaa

/-
  The walk of draft.change: its loop over the pairs. No condition.
-/
namespace Go.Proofs.Ytieangfnjflfmaa
open Go Go.Eng
set_option maxRecDepth 100000
set_option maxHeartbeats 4000000
set_option linter.all false
attribute [local irreducible] WL WC WQ QFun QLoop Does Q1 QRound QAssign Go.Addr.add
attribute [local irreducible] strs jn putT dropT chGo
theorem sq_D36_1 {G : Prop} (h : G := by (repeat (first | (refine sp ?_; (repeat intro zzc)) | (refine WL.append1 (by':=40) rfl rfl rfl rfl (by (repeat (first | exact Out.here | apply Out.there))) zhs (by exact rfl) (by exact rfl) (by exact rfl) (by exact rfl) (by exact rfl) (by exact rfl) (by first | exact rfl | omega) (by first | omega | (simp; omega)) (by decide) (by exact rfl) ?_; intro zzc zzc) | (refine WL.indexAddrA rfl rfl (by (first | with_reducible exact natz _ | with_reducible exact natz0 | with_reducible exact natz1 | with_reducible exact natz2 | with_reducible exact natz3 | with_reducible exact natz4 | with_reducible exact natz8 | (apply natz_add; (· first | with_reducible exact natz _ | with_reducible exact natz0 | with_reducible exact natz1 | with_reducible exact natz2 | with_reducible exact natz3 | with_reducible exact natz4 | with_reducible exact natz8); (· first | with_reducible exact natz _ | with_reducible exact natz0 | with_reducible exact natz1 | with_reducible exact natz2 | with_reducible exact natz3 | with_reducible exact natz4 | with_reducible exact natz8)) | (apply natz_sub; (· first | with_reducible exact natz _ | with_reducible exact natz0 | with_reducible exact natz1 | with_reducible exact natz2 | with_reducible exact natz3 | with_reducible exact natz4 | with_reducible exact natz8); (· first | with_reducible exact natz _ | with_reducible exact natz0 | with_reducible exact natz1 | with_reducible exact natz2 | with_reducible exact natz3 | with_reducible exact natz4 | with_reducible exact natz8); (· omega)) | exact (Int.toNat_of_nonneg (by omega)).symm)) rfl rfl (by omega) rfl rfl ?_))); exact WQ.q1 rfl) : G := h
theorem cm_D36_1 {G G' : Prop} (next : G') (h : Bx G' → G := by intro zzn; (try (refine wcal 0 ?_ (hwl := by intro zm zF zle; exact sq_D36_1))); (try (refine wcal 1 ?_ (hwl := by intro zm zF zle; exact sq_D36_1))); (try (refine wcal 2 ?_ (hwl := by intro zm zF zle; exact sq_D36_1))); (try (refine wcal 3 ?_ (hwl := by intro zm zF zle; exact sq_D36_1))); (try (refine wcal 4 ?_ (hwl := by intro zm zF zle; exact sq_D36_1))); (try (refine wcal 5 ?_ (hwl := by intro zm zF zle; exact sq_D36_1))); (try (refine wcal 6 ?_ (hwl := by intro zm zF zle; exact sq_D36_1))); (try (refine wcal 7 ?_ (hwl := by intro zm zF zle; exact sq_D36_1))); (try (refine wcal 8 ?_ (hwl := by intro zm zF zle; exact sq_D36_1))); (try (refine wcal 9 ?_ (hwl := by intro zm zF zle; exact sq_D36_1))); (try (refine wcal 10 ?_ (hwl := by intro zm zF zle; exact sq_D36_1))); (try (refine wcal 11 ?_ (hwl := by intro zm zF zle; exact sq_D36_1))); (try (refine wcal 12 ?_ (hwl := by intro zm zF zle; exact sq_D36_1))); (try (refine wcal 13 ?_ (hwl := by intro zm zF zle; exact sq_D36_1))); (try (refine wcal 14 ?_ (hwl := by intro zm zF zle; exact sq_D36_1))); (try (refine wcal 15 ?_ (hwl := by intro zm zF zle; exact sq_D36_1))); (try (refine wcal 16 ?_ (hwl := by intro zm zF zle; exact sq_D36_1))); (try (refine wcal 17 ?_ (hwl := by intro zm zF zle; exact sq_D36_1))); (try (refine wcal 18 ?_ (hwl := by intro zm zF zle; exact sq_D36_1))); (try (refine wcal 19 ?_ (hwl := by intro zm zF zle; exact sq_D36_1))); (try (refine wcal 20 ?_ (hwl := by intro zm zF zle; exact sq_D36_1))); (try (refine wcal 21 ?_ (hwl := by intro zm zF zle; exact sq_D36_1))); (try (refine wcal 22 ?_ (hwl := by intro zm zF zle; exact sq_D36_1))); (try (refine wcal 23 ?_ (hwl := by intro zm zF zle; exact sq_D36_1))); (try (refine wcal 24 ?_ (hwl := by intro zm zF zle; exact sq_D36_1))); (try (refine wcal 25 ?_ (hwl := by intro zm zF zle; exact sq_D36_1))); (try (refine wcal 26 ?_ (hwl := by intro zm zF zle; exact sq_D36_1))); (try (refine wcal 27 ?_ (hwl := by intro zm zF zle; exact sq_D36_1))); (try (refine wcal 28 ?_ (hwl := by intro zm zF zle; exact sq_D36_1))); (try (refine wcal 29 ?_ (hwl := by intro zm zF zle; exact sq_D36_1))); (try (refine wcal 30 ?_ (hwl := by intro zm zF zle; exact sq_D36_1))); (try (refine wcal 31 ?_ (hwl := by intro zm zF zle; exact sq_D36_1))); (try (refine wcal 32 ?_ (hwl := by intro zm zF zle; exact sq_D36_1))); (try (refine wcal 33 ?_ (hwl := by intro zm zF zle; exact sq_D36_1))); (try (refine wcal 34 ?_ (hwl := by intro zm zF zle; exact sq_D36_1))); (try (refine wcal 35 ?_ (hwl := by intro zm zF zle; exact sq_D36_1))); (try (refine wcal 36 ?_ (hwl := by intro zm zF zle; exact sq_D36_1))); (try (refine wcal 37 ?_ (hwl := by intro zm zF zle; exact sq_D36_1))); (try (refine wcal 38 ?_ (hwl := by intro zm zF zle; exact sq_D36_1))); (try (refine wcal 39 ?_ (hwl := by intro zm zF zle; exact sq_D36_1))); (try (refine wcal 40 ?_ (hwl := by intro zm zF zle; exact sq_D36_1))); (try (refine wcal 41 ?_ (hwl := by intro zm zF zle; exact sq_D36_1))); exact zzn.out) : G := h ⟨next⟩
theorem st_D36_1 {G G' : Prop} (next : G') (h : Bx G' → G := by intro zzn; (first | ((refine st ?_; (repeat intro zzc)); (try ((first | (refine WL.append1 (by':=40) rfl rfl rfl rfl (by (repeat (first | exact Out.here | apply Out.there))) zhs (by exact rfl) (by exact rfl) (by exact rfl) (by exact rfl) (by exact rfl) (by exact rfl) (by first | exact rfl | omega) (by first | omega | (simp; omega)) (by decide) (by exact rfl) ?_; intro zzc zzc) | (refine WL.indexAddrA rfl rfl (by (first | with_reducible exact natz _ | with_reducible exact natz0 | with_reducible exact natz1 | with_reducible exact natz2 | with_reducible exact natz3 | with_reducible exact natz4 | with_reducible exact natz8 | (apply natz_add; (· first | with_reducible exact natz _ | with_reducible exact natz0 | with_reducible exact natz1 | with_reducible exact natz2 | with_reducible exact natz3 | with_reducible exact natz4 | with_reducible exact natz8); (· first | with_reducible exact natz _ | with_reducible exact natz0 | with_reducible exact natz1 | with_reducible exact natz2 | with_reducible exact natz3 | with_reducible exact natz4 | with_reducible exact natz8)) | (apply natz_sub; (· first | with_reducible exact natz _ | with_reducible exact natz0 | with_reducible exact natz1 | with_reducible exact natz2 | with_reducible exact natz3 | with_reducible exact natz4 | with_reducible exact natz8); (· first | with_reducible exact natz _ | with_reducible exact natz0 | with_reducible exact natz1 | with_reducible exact natz2 | with_reducible exact natz3 | with_reducible exact natz4 | with_reducible exact natz8); (· omega)) | exact (Int.toNat_of_nonneg (by omega)).symm)) rfl rfl (by omega) rfl rfl ?_) | ((refine iDraw ?_; (first | refine WC.drawAll rfl (by decide +kernel) ?_ | refine WC.draw 1 rfl (by decide +kernel) ?_ | refine WC.draw 2 rfl (by decide +kernel) ?_ | refine WC.draw 3 rfl (by decide +kernel) ?_ | refine WC.draw 4 rfl (by decide +kernel) ?_ | refine WC.draw 5 rfl (by decide +kernel) ?_ | refine WC.draw 6 rfl (by decide +kernel) ?_ | refine WC.draw 7 rfl (by decide +kernel) ?_ | refine WC.draw 8 rfl (by decide +kernel) ?_ | refine WC.draw 9 rfl (by decide +kernel) ?_ | refine WC.draw 10 rfl (by decide +kernel) ?_ | refine WC.draw 11 rfl (by decide +kernel) ?_ | refine WC.draw 12 rfl (by decide +kernel) ?_ | refine WC.draw 13 rfl (by decide +kernel) ?_ | refine WC.draw 14 rfl (by decide +kernel) ?_ | refine WC.draw 15 rfl (by decide +kernel) ?_ | refine WC.draw 16 rfl (by decide +kernel) ?_ | refine WC.draw 17 rfl (by decide +kernel) ?_ | refine WC.draw 18 rfl (by decide +kernel) ?_ | refine WC.draw 19 rfl (by decide +kernel) ?_ | refine WC.draw 20 rfl (by decide +kernel) ?_ | refine WC.draw 21 rfl (by decide +kernel) ?_ | refine WC.draw 22 rfl (by decide +kernel) ?_ | refine WC.draw 23 rfl (by decide +kernel) ?_ | refine WC.draw 24 rfl (by decide +kernel) ?_)); (repeat (refine WD.cons rfl (fun c h => by cases h) sq_D36_1 ?_)); refine WD.nil ?_)); (try (refine st ?_; (repeat intro zzc)))))) | ((first | (refine WL.append1 (by':=40) rfl rfl rfl rfl (by (repeat (first | exact Out.here | apply Out.there))) zhs (by exact rfl) (by exact rfl) (by exact rfl) (by exact rfl) (by exact rfl) (by exact rfl) (by first | exact rfl | omega) (by first | omega | (simp; omega)) (by decide) (by exact rfl) ?_; intro zzc zzc) | (refine WL.indexAddrA rfl rfl (by (first | with_reducible exact natz _ | with_reducible exact natz0 | with_reducible exact natz1 | with_reducible exact natz2 | with_reducible exact natz3 | with_reducible exact natz4 | with_reducible exact natz8 | (apply natz_add; (· first | with_reducible exact natz _ | with_reducible exact natz0 | with_reducible exact natz1 | with_reducible exact natz2 | with_reducible exact natz3 | with_reducible exact natz4 | with_reducible exact natz8); (· first | with_reducible exact natz _ | with_reducible exact natz0 | with_reducible exact natz1 | with_reducible exact natz2 | with_reducible exact natz3 | with_reducible exact natz4 | with_reducible exact natz8)) | (apply natz_sub; (· first | with_reducible exact natz _ | with_reducible exact natz0 | with_reducible exact natz1 | with_reducible exact natz2 | with_reducible exact natz3 | with_reducible exact natz4 | with_reducible exact natz8); (· first | with_reducible exact natz _ | with_reducible exact natz0 | with_reducible exact natz1 | with_reducible exact natz2 | with_reducible exact natz3 | with_reducible exact natz4 | with_reducible exact natz8); (· omega)) | exact (Int.toNat_of_nonneg (by omega)).symm)) rfl rfl (by omega) rfl rfl ?_) | ((refine iDraw ?_; (first | refine WC.drawAll rfl (by decide +kernel) ?_ | refine WC.draw 1 rfl (by decide +kernel) ?_ | refine WC.draw 2 rfl (by decide +kernel) ?_ | refine WC.draw 3 rfl (by decide +kernel) ?_ | refine WC.draw 4 rfl (by decide +kernel) ?_ | refine WC.draw 5 rfl (by decide +kernel) ?_ | refine WC.draw 6 rfl (by decide +kernel) ?_ | refine WC.draw 7 rfl (by decide +kernel) ?_ | refine WC.draw 8 rfl (by decide +kernel) ?_ | refine WC.draw 9 rfl (by decide +kernel) ?_ | refine WC.draw 10 rfl (by decide +kernel) ?_ | refine WC.draw 11 rfl (by decide +kernel) ?_ | refine WC.draw 12 rfl (by decide +kernel) ?_ | refine WC.draw 13 rfl (by decide +kernel) ?_ | refine WC.draw 14 rfl (by decide +kernel) ?_ | refine WC.draw 15 rfl (by decide +kernel) ?_ | refine WC.draw 16 rfl (by decide +kernel) ?_ | refine WC.draw 17 rfl (by decide +kernel) ?_ | refine WC.draw 18 rfl (by decide +kernel) ?_ | refine WC.draw 19 rfl (by decide +kernel) ?_ | refine WC.draw 20 rfl (by decide +kernel) ?_ | refine WC.draw 21 rfl (by decide +kernel) ?_ | refine WC.draw 22 rfl (by decide +kernel) ?_ | refine WC.draw 23 rfl (by decide +kernel) ?_ | refine WC.draw 24 rfl (by decide +kernel) ?_)); (repeat (refine WD.cons rfl (fun c h => by cases h) sq_D36_1 ?_)); refine WD.nil ?_)); (try (refine st ?_; (repeat intro zzc))))); (repeat ((first | (refine WL.append1 (by':=40) rfl rfl rfl rfl (by (repeat (first | exact Out.here | apply Out.there))) zhs (by exact rfl) (by exact rfl) (by exact rfl) (by exact rfl) (by exact rfl) (by exact rfl) (by first | exact rfl | omega) (by first | omega | (simp; omega)) (by decide) (by exact rfl) ?_; intro zzc zzc) | (refine WL.indexAddrA rfl rfl (by (first | with_reducible exact natz _ | with_reducible exact natz0 | with_reducible exact natz1 | with_reducible exact natz2 | with_reducible exact natz3 | with_reducible exact natz4 | with_reducible exact natz8 | (apply natz_add; (· first | with_reducible exact natz _ | with_reducible exact natz0 | with_reducible exact natz1 | with_reducible exact natz2 | with_reducible exact natz3 | with_reducible exact natz4 | with_reducible exact natz8); (· first | with_reducible exact natz _ | with_reducible exact natz0 | with_reducible exact natz1 | with_reducible exact natz2 | with_reducible exact natz3 | with_reducible exact natz4 | with_reducible exact natz8)) | (apply natz_sub; (· first | with_reducible exact natz _ | with_reducible exact natz0 | with_reducible exact natz1 | with_reducible exact natz2 | with_reducible exact natz3 | with_reducible exact natz4 | with_reducible exact natz8); (· first | with_reducible exact natz _ | with_reducible exact natz0 | with_reducible exact natz1 | with_reducible exact natz2 | with_reducible exact natz3 | with_reducible exact natz4 | with_reducible exact natz8); (· omega)) | exact (Int.toNat_of_nonneg (by omega)).symm)) rfl rfl (by omega) rfl rfl ?_) | ((refine iDraw ?_; (first | refine WC.drawAll rfl (by decide +kernel) ?_ | refine WC.draw 1 rfl (by decide +kernel) ?_ | refine WC.draw 2 rfl (by decide +kernel) ?_ | refine WC.draw 3 rfl (by decide +kernel) ?_ | refine WC.draw 4 rfl (by decide +kernel) ?_ | refine WC.draw 5 rfl (by decide +kernel) ?_ | refine WC.draw 6 rfl (by decide +kernel) ?_ | refine WC.draw 7 rfl (by decide +kernel) ?_ | refine WC.draw 8 rfl (by decide +kernel) ?_ | refine WC.draw 9 rfl (by decide +kernel) ?_ | refine WC.draw 10 rfl (by decide +kernel) ?_ | refine WC.draw 11 rfl (by decide +kernel) ?_ | refine WC.draw 12 rfl (by decide +kernel) ?_ | refine WC.draw 13 rfl (by decide +kernel) ?_ | refine WC.draw 14 rfl (by decide +kernel) ?_ | refine WC.draw 15 rfl (by decide +kernel) ?_ | refine WC.draw 16 rfl (by decide +kernel) ?_ | refine WC.draw 17 rfl (by decide +kernel) ?_ | refine WC.draw 18 rfl (by decide +kernel) ?_ | refine WC.draw 19 rfl (by decide +kernel) ?_ | refine WC.draw 20 rfl (by decide +kernel) ?_ | refine WC.draw 21 rfl (by decide +kernel) ?_ | refine WC.draw 22 rfl (by decide +kernel) ?_ | refine WC.draw 23 rfl (by decide +kernel) ?_ | refine WC.draw 24 rfl (by decide +kernel) ?_)); (repeat (refine WD.cons rfl (fun c h => by cases h) sq_D36_1 ?_)); refine WD.nil ?_)); (try (refine st ?_; (repeat intro zzc))))); (repeat revert zzc); exact zzn.out) : G := h ⟨next⟩
theorem change_loop {X Y : List Tx} {M : List (Nat × Nat)} {F : List Stp} {bx by_ bk bc bi cx cy cp : Nat} {ax ay a : Option Addr} {w0 : World} {m : Mem} {H : SHeap} {Q : Exit → Act → World → Prop}
    (hX : X.length ≤ 65536 ∧ X.flatten.length ≤ 65536 ∧ X.length ≤ cx) (hY : Y.length ≤ 65536 ∧ Y.flatten.length ≤ 65536 ∧ Y.length ≤ cy) (hM : PrOk X Y 0 0 M X.length Y.length) (hMl : M.length ≤ 65536) (hF : chGo X Y M 0 0 = F)
    (hK : ∀ (L : List Stp) (i k : Nat) (ac : Option Addr) (cc : Nat), L ++ chGo X Y [] i k = F → i ≤ X.length → k ≤ Y.length → L.length ≤ 200000 →
      WQ 55 w0 Q (.exit 0) [(5, .pointer (some ⟨bx, 0, none⟩)), (6, .pointer (some ⟨by_, 0, none⟩)), (7, .pointer (some ⟨bc, 0, none⟩)), (10, .func (.func 48) #[] [.pointer (some ⟨by_, 0, none⟩), .pointer (some ⟨bk, 0, none⟩), .pointer (some ⟨bc, 0, none⟩), .pointer (some ⟨bx, 0, none⟩), .pointer (some ⟨bi, 0, none⟩)].toArray)] [] m (.blk bx (.cells [.slice ax X.length cx].toArray 49 (0, 0)) :: .row ax cx 9 1 (strs X) :: .blk by_ (.cells [.slice ay Y.length cy].toArray 49 (0, 0)) :: .row ay cy 9 1 (strs Y) :: .blk bk (.cells [.int .i64 (k : Int)].toArray 3 (0, 0)) :: .blk bi (.cells [.int .i64 (i : Int)].toArray 3 (0, 0)) :: .blk bc (.cells [.slice ac L.length cc].toArray 40 (0, 0)) :: .row ac cc 55 3 (L.map Stp.cs) :: H)) :
    WC Try.prog none 55 w0 ((loopsIn (Try.f33.body.getD .skip)).getD 0 .skip) Q [(22, .int .i64 0), (21, .int .i64 (M.length : Int)), (20, .slice a M.length cp), (5, .pointer (some ⟨bx, 0, none⟩)), (6, .pointer (some ⟨by_, 0, none⟩)), (7, .pointer (some ⟨bc, 0, none⟩)), (10, .func (.func 48) #[] [.pointer (some ⟨by_, 0, none⟩), .pointer (some ⟨bk, 0, none⟩), .pointer (some ⟨bc, 0, none⟩), .pointer (some ⟨bx, 0, none⟩), .pointer (some ⟨bi, 0, none⟩)].toArray)] [] m
      (.blk bx (.cells [.slice ax X.length cx].toArray 49 (0, 0)) :: .row ax cx 9 1 (strs X) :: .blk by_ (.cells [.slice ay Y.length cy].toArray 49 (0, 0)) :: .row ay cy 9 1 (strs Y) :: .blk bk (.cells [.int .i64 0].toArray 3 (0, 0)) :: .blk bi (.cells [.int .i64 0].toArray 3 (0, 0)) :: .blk bc (.cells [.slice none 0 0].toArray 40 (0, 0)) :: .row none 0 55 3 (([] : List Stp).map Stp.cs) :: .row a cp 44 2 (M.map prE) :: H) := by
  have hXs : (strs X).length = X.length := by simp [strs]
  have hml : (M.map prE).length = M.length := List.length_map _
  refine WC.loopH [(22, .int .i64 ((0) : Int)), (21, .int .i64 (M.length : Int)), (20, .slice a M.length cp), (5, .pointer (some ⟨bx, 0, none⟩)), (6, .pointer (some ⟨by_, 0, none⟩)), (7, .pointer (some ⟨bc, 0, none⟩)), (10, .func (.func 48) #[] [.pointer (some ⟨by_, 0, none⟩), .pointer (some ⟨bk, 0, none⟩), .pointer (some ⟨bc, 0, none⟩), .pointer (some ⟨bx, 0, none⟩), .pointer (some ⟨bi, 0, none⟩)].toArray)] ?_ ?_ (fun j r ds m' H' => ∃ (q : Nat) (i : Nat) (k : Nat) (L : List Stp) (ac : Option Addr) (cc : Nat), j = M.length - q ∧ r = [(22, .int .i64 (q : Int)), (21, .int .i64 (M.length : Int)), (20, .slice a M.length cp), (5, .pointer (some ⟨bx, 0, none⟩)), (6, .pointer (some ⟨by_, 0, none⟩)), (7, .pointer (some ⟨bc, 0, none⟩)), (10, .func (.func 48) #[] [.pointer (some ⟨by_, 0, none⟩), .pointer (some ⟨bk, 0, none⟩), .pointer (some ⟨bc, 0, none⟩), .pointer (some ⟨bx, 0, none⟩), .pointer (some ⟨bi, 0, none⟩)].toArray)] ∧ ds = [] ∧ m = m' ∧ H' = .blk bx (.cells [.slice ax X.length cx].toArray 49 (0, 0)) :: .row ax cx 9 1 (strs X) :: .blk by_ (.cells [.slice ay Y.length cy].toArray 49 (0, 0)) :: .row ay cy 9 1 (strs Y) :: .blk bk (.cells [.int .i64 (k : Int)].toArray 3 (0, 0)) :: .blk bi (.cells [.int .i64 (i : Int)].toArray 3 (0, 0)) :: .blk bc (.cells [.slice ac L.length cc].toArray 40 (0, 0)) :: .row ac cc 55 3 (L.map Stp.cs) :: .row a cp 44 2 (M.map prE) :: H ∧ (q ≤ M.length) ∧ (PrOk X Y i k (M.drop q) X.length Y.length) ∧ (L ++ chGo X Y (M.drop q) i k = F) ∧ (L.length ≤ 3 * q)) (M.length - (0)) ⟨0, 0, 0, ([] : List Stp), none, 0, rfl, rfl, rfl, rfl, rfl, Nat.zero_le _, hM, hF, Nat.zero_le _⟩ ?_
  · (repeat (first | exact Env.Sub.nil | refine Env.Sub.cons rfl ?_))
  · exact zpk
  rintro j r ds m' H' ⟨q, i, k, L, ac, cc, rfl, rfl, rfl, rfl, rfl, hq, hP, hgo, hL⟩
  by_cases hlt : q < M.length
  · obtain ⟨p, hp⟩ : ∃ p, M[q]? = some p := ⟨_, List.getElem?_eq_getElem hlt⟩
    have hdr : M.drop q = p :: M.drop (q + 1) := by
      obtain ⟨h1, h2⟩ := List.getElem?_eq_some_iff.1 hp
      rw [List.drop_eq_getElem_cons h1, h2]
    rw [hdr] at hP hgo
    obtain ⟨h1, h2, h3, h4, ⟨t, e1, e2⟩, h6⟩ := hP
    have hgt := strs_get e1
    have htl : t.length ≤ 65536 := by have := mem_le_flat (List.mem_of_getElem? e1); omega
    have hgp : (M.map prE)[q]? = some [.int .i64 (p.1 : Int), .int .i64 (p.2 : Int)] := by rw [List.getElem?_map, hp]; rfl
    rw [chGo_cons, getD_of e1] at hgo
    generalize hME : M.map prE = ME at *
    refine WC.rowSome (a := a) (es := ME) zhs (by omega) ?_
    rintro a0 rfl
    (refine st_D36_1 ?_; intros; rename_i bp)
    refine WL.heap (H' := [.blk bx (.cells [.slice ax X.length cx].toArray 49 (0, 0)), .row ax cx 9 1 (strs X), .blk by_ (.cells [.slice ay Y.length cy].toArray 49 (0, 0)), .row ay cy 9 1 (strs Y), .blk bk (.cells [.int .i64 (k : Int)].toArray 3 (0, 0)), .blk bi (.cells [.int .i64 (i : Int)].toArray 3 (0, 0)), .blk bc (.cells [.slice ac L.length cc].toArray 40 (0, 0)), .row ac cc 55 3 (L.map Stp.cs)] ++ (.blk bp (.cells [.int .i64 (p.1 : Int), .int .i64 (p.2 : Int)].toArray 44 (0, 0)) :: .row (some a0) cp 44 2 ME :: H)) zpk ?_
    refine WL.callV rfl Try.func48 rfl rfl (by exact rfl) (by exact rfl) (part_any (X := X) (Y := Y) (L := L) (n := p.1) (mm := p.2) ⟨by omega, by omega, hX.2.2⟩ ⟨by omega, by omega, hY.2.2⟩ ⟨h1, by omega⟩ ⟨h2, by omega⟩ (by omega)) ?_
    rintro v m9 H9 ⟨rfl, ac2, cc2, rfl⟩
    have hp1 := putT_le (jn Y k p.2)
    have hp2 := dropT_le (jn X i p.1)
    obtain ⟨L2, hL2⟩ : ∃ L2, L2 = L ++ (putT (jn Y k p.2) ++ dropT (jn X i p.1)) := ⟨_, rfl⟩
    have hl2 := congrArg List.length hL2
    rw [List.length_append, List.length_append] at hl2
    rw [show L ++ (putT (jn Y k p.2) ++ (dropT (jn X i p.1) ++ (keepT t ++ chGo X Y (M.drop (q + 1)) (p.1 + 1) (p.2 + 1)))) = (L2 ++ keepT t) ++ chGo X Y (M.drop (q + 1)) (p.1 + 1) (p.2 + 1) by rw [hL2]; simp] at hgo
    rw [← hL2]
    clear hL2
    have hLm : (L2.map Stp.cs).length = L2.length := List.length_map _
    have hl3 : L2.length + 1 = (L2 ++ keepT t).length := by unfold keepT; simp
    have hm3 : L2.map Stp.cs ++ [[.int .i64 (t.length : Int), str [], str []]] = (L2 ++ keepT t).map Stp.cs := by unfold keepT; simp [Stp.cs]
    simp only [List.cons_append, List.nil_append]
    (try (refine st_D36_1 ?_; intros))
    refine WC.rowSome (a := ax) (es := strs X) zhs (by omega) ?_
    rintro x0 rfl
    refine WC.drawE 9 ([.blk bc (.cells [.slice ac2 L2.length cc2].toArray 40 (0, 0)), .blk bx (.cells [.slice (some x0) X.length cx].toArray 49 (0, 0)), .row (some x0) cx 9 1 (strs X), .blk bp (.cells [.int .i64 (p.1 : Int), .int .i64 (p.2 : Int)].toArray 44 (0, 0))]) (.row ac2 cc2 55 3 (L2.map Stp.cs) :: .blk by_ (.cells [.slice ay Y.length cy].toArray 49 (0, 0)) :: .row ay cy 9 1 (strs Y) :: .blk bk (.cells [.int .i64 ((p.2 + 1 : Nat) : Int)].toArray 3 (0, 0)) :: .blk bi (.cells [.int .i64 ((p.1 + 1 : Nat) : Int)].toArray 3 (0, 0)) :: .row (some a0) cp 44 2 ME :: H) rfl (by decide +kernel) zpk ?_
    (refine cm_D36_1 ?_)
    refine WE.act1 8 (by decide +kernel) rfl rfl (fun c h => by cases h) ?_
    (refine st_D36_1 ?_; intros; rename_i b9)
    refine WQ.acted (B := [.blk b9 (.cells [.int .i64 (t.length : Int), str [], str []].toArray 55 (0, 0))]) (U := .row ac2 cc2 55 3 (L2.map Stp.cs) :: .blk by_ (.cells [.slice ay Y.length cy].toArray 49 (0, 0)) :: .row ay cy 9 1 (strs Y) :: .blk bk (.cells [.int .i64 ((p.2 + 1 : Nat) : Int)].toArray 3 (0, 0)) :: .blk bi (.cells [.int .i64 ((p.1 + 1 : Nat) : Int)].toArray 3 (0, 0)) :: .row (some a0) cp 44 2 ME :: H) rfl (Mem.le.refl _) zpk ?_
    (refine cm_D36_1 ?_)
    refine WE.done (by decide +kernel) ?_
    (refine st_D36_1 ?_; intros; rename_i ac3 cc3)
    subst hME
    rw [hLm, hl3, hm3]
    refine WQ.next (M.length - (q + 1)) ⟨q + 1, p.1 + 1, p.2 + 1, L2 ++ keepT t, ac3, cc3, rfl, rfl, rfl, rfl, rfl, ?_, ?_, ?_, ?_⟩ (by omega) zsb zpk
    · omega
    · exact h6
    · exact hgo
    · omega
  · have hd : M.drop q = [] := List.drop_of_length_le (by omega)
    rw [hd] at hgo hP
    have hle := hP.le
    have hfin := hK L i k ac cc hgo hle.1 hle.2 (by omega)
    (try (refine st_D36_1 ?_; intros))
    exact WQ.weak zsb zpk hfin
end Go.Proofs.Ytieangfnjflfmaa

/-
  The walks of draft.change and draft.Change. No condition.
-/
namespace Go.Proofs.Ytieangfnjflfmaa
open Go Go.Eng
set_option maxRecDepth 100000
set_option maxHeartbeats 4000000
set_option linter.all false
attribute [local irreducible] WL WC WQ QFun QLoop Does Q1 QRound QAssign Go.Addr.add
attribute [local irreducible] strs jn matchL toks plainOf sizesOf chL
theorem change_any {s t : Tx} (hs : s.length ≤ 65536) (ht : t.length ≤ 65536) (w0 : World) (m : Mem) (H : SHeap) : Does Try.prog 33 #[str s, str t] w0 m H
    (fun v m' H' => m.le m' ∧ ∃ c cp, v = .slice c (plainOf (chL s t)).length cp ∧ H' = .row c cp 55 3 ((plainOf (chL s t)).map Stp.cs) :: H) := by
  refine Does.of_body (args := [str s, str t]) Try.func33 rfl Try.ntmps33 rfl ?_
  have hXl := toks_length s
  have hYl := toks_length t
  have hXf := congrArg List.length (toks_join s)
  have hYf := congrArg List.length (toks_join t)
  have hF : chGo (toks s) (toks t) (matchL (toks s) (toks t)) 0 0 = chL s t := by unfold chL; rfl
  have hsz := chL_sizes hs ht
  have hM := match_ok (toks s) (toks t)
  have hMl := hM.len
  (try (refine st ?_; intros))
  refine w_callF Try.func24 ?_ (hs := toks_any s (by omega) _ _ _)
  rintro v m1 H1 ⟨hle1, ax, cx, rfl, rfl⟩
  (try (refine st ?_; intros))
  refine w_callF Try.func24 ?_ (hs := toks_any t (by omega) _ _ _)
  rintro v m2 H1 ⟨hle2, ay, cy, rfl, rfl⟩
  generalize toks s = X at *
  generalize toks t = Y at *
  generalize chL s t = F at *
  refine WL.rowCap (a := ax) (cap := cx) (T := 9) (sz := 1) (es := strs X) zhs ?_
  intro hcx
  refine WL.rowCap (a := ay) (cap := cy) (T := 9) (sz := 1) (es := strs Y) zhs ?_
  intro hcy
  rw [strs_length] at hcx hcy
  (refine st ?_; intros; rename_i bx by_ bc bi bk)
  refine w_callF Try.func25 ?_ (hs := match_any (A := X) (B := Y) (by omega) (by omega) hcx hcy (RowR.row (T := 9) (cap := cx) zhs) (RowR.row (T := 9) (cap := cy) zhs))
  rintro v m9 H9 ⟨rfl, a1, c1, rfl, rfl⟩
  (try (refine st ?_; intros))
  refine WC.newRow (T := 55) (sz := 3) ?_
  refine WC.weak zsb zpk (change_loop (X := X) (Y := Y) (M := matchL X Y) (F := F) (bx := bx) (by_ := by_) (bk := bk) (bc := bc) (bi := bi) (H := H) ⟨by omega, by omega, hcx⟩ ⟨by omega, by omega, hcy⟩ hM (by omega) hF ?_)
  intro L i k ac cc hgo hi hk hL
  (try (refine st ?_; intros))
  refine WL.heap (H' := [.blk bx (.cells [.slice ax X.length cx].toArray 49 (0, 0)), .row ax cx 9 1 (strs X), .blk by_ (.cells [.slice ay Y.length cy].toArray 49 (0, 0)), .row ay cy 9 1 (strs Y), .blk bk (.cells [.int .i64 (k : Int)].toArray 3 (0, 0)), .blk bi (.cells [.int .i64 (i : Int)].toArray 3 (0, 0)), .blk bc (.cells [.slice ac L.length cc].toArray 40 (0, 0)), .row ac cc 55 3 (L.map Stp.cs)] ++ H) zpk ?_
  refine WL.callV rfl Try.func48 rfl rfl (by exact rfl) (by exact rfl) (part_any (X := X) (Y := Y) (L := L) (n := X.length) (mm := Y.length) ⟨by omega, by omega, hcx⟩ ⟨by omega, by omega, hcy⟩ ⟨hi, Nat.le_refl _⟩ ⟨hk, Nat.le_refl _⟩ (by omega)) ?_
  rintro v m9 H9 ⟨rfl, ac2, cc2, rfl⟩
  rw [show L ++ (putT (jn Y k Y.length) ++ dropT (jn X i X.length)) = F from hgo]
  simp only [List.cons_append, List.nil_append]
  (try (refine st ?_; intros))
  refine w_callF Try.func49 ?_ (hs := ePlain_any hsz _ _ _ (RowR.row (a := ac2) zhs))
  rintro v m9 H9 ⟨rfl, c3, p3, rfl, rfl⟩
  (try (refine st ?_; intros))
  exact q_fin0 (H0 := .row c3 p3 55 3 ((plainOf F).map Stp.cs) :: H) ⟨hle1.trans hle2, c3, p3, rfl, rfl⟩ (hd := zpk)
theorem dChange_long {s t : Tx} (h : Long [s, t]) (w0 : World) (m : Mem) (H : SHeap) : Does Try.prog 14 #[str s, str t] w0 m H (Gives (.tuple #[.slice none 0 0, .int .i64 3]) m H) := by
  refine Does.of_body (args := [str s, str t]) Try.func14 rfl Try.ntmps14 rfl ?_
  (refine st ?_; intros; rename_i b3)
  refine w_callF Try.func23 ?_ (hs := long_any (L := [s, t]) (by simp) (rowR_blk (T := 9) (fz := (0, 0)) (L := [str s, str t]) zhs (by unfold strs; rfl) (by simp [strs])))
  rintro v m H9 ⟨rfl, rfl, rfl⟩
  rw [dcd_true h]
  (try (refine st ?_; intros))
  exact q_fin0 (H0 := H) (Gives.mk rfl) (hd := zpk)
theorem dChange_any {s t : Tx} (h : ¬ Long [s, t]) (w0 : World) (m : Mem) (H : SHeap) : Does Try.prog 14 #[str s, str t] w0 m H
    (fun v m' H' => m.le m' ∧ ∃ c cp, v = .tuple #[.slice c (plainOf (chL s t)).length cp, .int .i64 0] ∧ H' = .row c cp 55 3 ((plainOf (chL s t)).map Stp.cs) :: H) := by
  refine Does.of_body (args := [str s, str t]) Try.func14 rfl Try.ntmps14 rfl ?_
  have hls : s.length ≤ 65536 := Nat.le_of_not_lt fun g => h ⟨s, by simp, g⟩
  have hlt : t.length ≤ 65536 := Nat.le_of_not_lt fun g => h ⟨t, by simp, g⟩
  (refine st ?_; intros; rename_i b3)
  refine w_callF Try.func23 ?_ (hs := long_any (L := [s, t]) (by simp) (rowR_blk (T := 9) (fz := (0, 0)) (L := [str s, str t]) zhs (by unfold strs; rfl) (by simp [strs])))
  rintro v m H9 ⟨rfl, rfl, rfl⟩
  rw [dcd_false h]
  (try (refine st ?_; intros))
  refine w_callF Try.func33 ?_ (hs := change_any hls hlt _ _ _)
  rintro v m1 H1 ⟨hle1, c, cp, rfl, rfl⟩
  (try (refine st ?_; intros))
  exact q_fin0 (H0 := .row c cp 55 3 ((plainOf (chL s t)).map Stp.cs) :: H) ⟨hle1, c, cp, rfl, rfl⟩ (hd := zpk)
end Go.Proofs.Ytieangfnjflfmaa

/-
  The walk of the reference's longest: a row of the table. No condition.
-/
namespace Go.Eng
open Go Go.RowKit
/-- a row of the reference's table, reckoned from a place on -/
def rowQ (A B : List Tx) (i k : Nat) : List (List Value) := (List.range (B.length + 1)).map fun j => [.int .i64 (cut16 A B i k j)]
theorem rowQ_length (A B : List Tx) (i k : Nat) : (rowQ A B i k).length = B.length + 1 := by simp [rowQ]
theorem rowQ_get {A B : List Tx} {i k j : Nat} (hj : j ≤ B.length) : (rowQ A B i k)[j]? = some [.int .i64 (cut16 A B i k j)] := by
  unfold rowQ
  rw [List.getElem?_map, List.getElem?_range (by omega)]; rfl
theorem rowQ_set {A B : List Tx} {i k : Nat} {v : Int} (hv : v = (lcs (A.drop i) (B.drop k) : Int)) : (rowQ A B i (k + 1)).set k [.int .i64 v] = rowQ A B i k := by
  apply List.ext_getElem? 
  intro j
  rw [List.getElem?_set]
  by_cases hj : j ≤ B.length
  · rw [rowQ_get hj, rowQ_get hj, rowQ_length]
    by_cases e : k = j
    · subst e
      rw [if_pos rfl, if_pos (by omega), cut16_ge (Nat.le_refl _), hv]
    · rw [if_neg e]
      unfold cut16
      by_cases h : k + 1 ≤ j
      · rw [if_pos h, if_pos (by omega)]
      · rw [if_neg h, if_neg (by omega)]
  · have h0 : ∀ k, (rowQ A B i k)[j]? = none := fun k => List.getElem?_eq_none (by rw [rowQ_length]; omega)
    rw [h0, h0, rowQ_length]
    split
    · rw [if_neg (by omega)]
    · rfl
theorem rowQ_zero {A B : List Tx} {i k : Nat} (h : B.length ≤ k ∨ A.length ≤ i) : rowQ A B i k = List.replicate (B.length + 1) [.int .i64 0] := by
  apply List.ext_getElem?
  intro j
  by_cases hj : j ≤ B.length
  · rw [rowQ_get hj, List.getElem?_replicate, if_pos (by omega)]
    congr 3
    unfold cut16
    split
    · rcases h with h | h
      · rw [List.drop_of_length_le (l := B) (by omega), lcs_nil]; rfl
      · rw [List.drop_of_length_le (l := A) (by omega), lcs_nil']; rfl
    · rfl
  · rw [List.getElem?_eq_none (by rw [rowQ_length]; omega), List.getElem?_eq_none (by rw [List.length_replicate]; omega)]
end Go.Eng
namespace Go.Proofs.Ytieangfnjflfmaa
open Go Go.Eng
set_option maxRecDepth 100000
set_option maxHeartbeats 4000000
set_option linter.all false
attribute [local irreducible] WL WC WQ QFun QLoop Does Q1 QRound QAssign Go.Addr.add
attribute [local irreducible] midL firstJ rowQ outE tabL strs
theorem long_row {A B : List Tx} {aa ab : Option Addr} {ca cb i' q bi b1 bo : Nat} {x : Tx} {E : List (List Value)} {w0 : World} {m : Mem} {Y : SHeap} {Q : Exit → Act → World → Prop} (hA : A.length ≤ 1024) (hB : B.length ≤ 1024) (hx : A[i']? = some x) (hq : A.length + 1 = q)
    (hEl : E.length = q) (hE0 : E[i']? = some [Value.slice (some ⟨bi, 0, none⟩) (B.length + 1) (B.length + 1)]) (hE1 : E[i' + 1]? = some [Value.slice (some ⟨b1, 0, none⟩) (B.length + 1) (B.length + 1)])
    (hr1 : RowR w0 m Y 1 (some ⟨b1, 0, none⟩) (rowQ A B (i' + 1) 0)) (hra : RowR w0 m Y 1 aa (strs A)) (hrb : RowR w0 m Y 1 ab (strs B))
    (hK : WQ 163 w0 Q (.exit 4) [(7, .int .i64 (i' : Int)), (5, .slice (some ⟨bo, 0, none⟩) q q), (0, .slice aa A.length ca), (1, .slice ab B.length cb)] [] m (.row (some ⟨bi, 0, none⟩) (B.length + 1) 3 1 (rowQ A B i' 0) :: .row (some ⟨bo, 0, none⟩) q 51 1 E :: Y)) :
    WC Try.prog none 163 w0 ((loopsIn (Try.f34.body.getD .skip)).getD 2 .skip) Q [(8, .int .i64 ((B.length : Int) - 1)), (7, .int .i64 (i' : Int)), (5, .slice (some ⟨bo, 0, none⟩) q q), (0, .slice aa A.length ca), (1, .slice ab B.length cb)] [] m
      (.row (some ⟨bi, 0, none⟩) (B.length + 1) 3 1 (rowQ A B i' B.length) :: .row (some ⟨bo, 0, none⟩) q 51 1 E :: Y) := by
  have hxd := drop_get hx
  have hxi := (List.getElem?_eq_some_iff.1 hx).1
  have hgx : (strs A)[i']? = some [str x] := strs_get hx
  have hal : (strs A).length = A.length := by simp [strs]
  have hbl2 : (strs B).length = B.length := by simp [strs]
  refine WC.loopH [(8, .int .i64 (((B.length) : Int) - 1)), (7, .int .i64 (i' : Int)), (5, .slice (some ⟨bo, 0, none⟩) q q), (0, .slice aa A.length ca), (1, .slice ab B.length cb)] ?_ ?_ (fun j r ds m' H' => ∃ k, j = 2 * k ∧ r = [(8, .int .i64 ((k : Int) - 1)), (7, .int .i64 (i' : Int)), (5, .slice (some ⟨bo, 0, none⟩) q q), (0, .slice aa A.length ca), (1, .slice ab B.length cb)] ∧ ds = [] ∧ m = m' ∧ H' = .row (some ⟨bi, 0, none⟩) (B.length + 1) 3 1 (rowQ A B i' k) :: .row (some ⟨bo, 0, none⟩) q 51 1 E :: Y ∧ (k ≤ B.length)) (2 * (B.length)) ⟨B.length, rfl, rfl, rfl, rfl, rfl, by omega⟩ ?_
  · (repeat (first | exact Env.Sub.nil | refine Env.Sub.cons rfl ?_))
  · exact zpk
  rintro j r ds m' H' ⟨k, rfl, rfl, rfl, rfl, rfl, hk⟩
  by_cases hkz : k = 0
  · subst hkz
    (try (refine st ?_; intros))
    exact WQ.weak zsb zpk hK
  · obtain ⟨k', rfl⟩ : ∃ k', k = k' + 1 := ⟨k - 1, by omega⟩
    rw [show ((k' + 1 : Nat) : Int) - 1 = (k' : Int) by omega]
    obtain ⟨y, hy⟩ : ∃ y, B[k']? = some y := ⟨_, List.getElem?_eq_getElem (by omega : k' < B.length)⟩
    have hyd := drop_get hy
    have hgy : (strs B)[k']? = some [str y] := strs_get hy
    have hq0 := rowQ_get (A := A) (B := B) (i := i') (k := k' + 1) (j := k' + 1) (by omega)
    have hq1 := rowQ_get (A := A) (B := B) (i := i' + 1) (k := 0) (j := k') (by omega)
    have hq2 := rowQ_get (A := A) (B := B) (i := i' + 1) (k := 0) (j := k' + 1) (by omega)
    rw [cut16_ge (Nat.le_refl _)] at hq0
    rw [cut16_ge (Nat.zero_le _)] at hq1 hq2
    have hst : ∀ v : Int, v = (lcs (A.drop i') (B.drop k') : Int) → (rowQ A B i' (k' + 1)).set k' [.int .i64 v] = rowQ A B i' k' := fun v hv => rowQ_set hv
    have hP0 := rowQ_length A B i' (k' + 1)
    have hP1 := rowQ_length A B (i' + 1) 0
    have hl0 := (lcs_le (A.drop i') (B.drop (k' + 1))).2
    have hl1 := (lcs_le (A.drop (i' + 1)) (B.drop k')).2
    have hl2 := (lcs_le (A.drop (i' + 1)) (B.drop (k' + 1))).2
    rw [List.length_drop] at hl0 hl1 hl2
    rw [hxd, hyd] at hst
    rw [hyd] at hq1 hl1
    rw [hxd] at hq0 hl0
    have hmx : ¬ x = y → max (lcs (A.drop (i' + 1)) (y :: B.drop (k' + 1)) : Int) (lcs (x :: A.drop (i' + 1)) (B.drop (k' + 1)) : Int) = (lcs (x :: A.drop (i' + 1)) (y :: B.drop (k' + 1)) : Int) := fun h => by rw [lcs_ne h]; omega
    have heq : x = y → max (max (lcs (A.drop (i' + 1)) (y :: B.drop (k' + 1)) : Int) (lcs (x :: A.drop (i' + 1)) (B.drop (k' + 1)) : Int)) ((lcs (A.drop (i' + 1)) (B.drop (k' + 1)) : Int) + 1) = (lcs (x :: A.drop (i' + 1)) (y :: B.drop (k' + 1)) : Int) := fun h => by rw [lcs_max, if_pos h]; omega
    generalize lcs (x :: A.drop (i' + 1)) (B.drop (k' + 1)) = n0 at *
    generalize lcs (A.drop (i' + 1)) (y :: B.drop (k' + 1)) = n1 at *
    generalize lcs (A.drop (i' + 1)) (B.drop (k' + 1)) = n2 at *
    generalize hP0e : rowQ A B i' (k' + 1) = P0 at *
    generalize rowQ A B (i' + 1) 0 = P1 at *
    generalize strs A = SA at *
    generalize strs B = SB at *
    have up : ∀ {a es P}, RowR w0 m Y 1 a es → RowR w0 m (.row (some ⟨bi, 0, none⟩) (B.length + 1) 3 1 P :: .row (some ⟨bo, 0, none⟩) q 51 1 E :: Y) 1 a es := fun h => h.more.more
    have hr1' := up (P := P0) hr1
    have hra' := up (P := P0) hra
    have hrb' := up (P := P0) hrb
    refine WC.rSome hra' (by omega) ?_
    rintro a0 rfl
    refine WC.rSome hrb' (by omega) ?_
    rintro b0 rfl
    obtain ⟨M1, hM1⟩ : ∃ M1 : Int, M1 = max (n1 : Int) (n0 : Int) := ⟨_, rfl⟩
    have hr2' := up (P := P0.set k' [.int .i64 M1]) hr1
    have hra2' := up (P := P0.set k' [.int .i64 M1]) hra
    have hrb2' := up (P := P0.set k' [.int .i64 M1]) hrb
    have hg2 : (P0.set k' [.int .i64 M1])[k']? = some [.int .i64 M1] := List.getElem?_set_self (by omega)
    have hP2 : (P0.set k' [.int .i64 M1]).length = B.length + 1 := by rw [List.length_set]; exact hP0
    rw [hM1] at hr2' hra2' hrb2' hg2 hP2
    by_cases hxy : x = y
    · (try (refine st ?_; intros))
      rw [List.set_set, hst _ (heq hxy)]
      refine WQ.next (2 * (k')) ⟨k', rfl, rfl, rfl, rfl, rfl, ?_⟩ (by omega) zsb zpk
      · omega
    · (try (refine st ?_; intros))
      rw [hst _ (hmx hxy)]
      refine WQ.next (2 * (k')) ⟨k', rfl, rfl, rfl, rfl, rfl, ?_⟩ (by omega) zsb zpk
      · omega
end Go.Proofs.Ytieangfnjflfmaa

/-
  The walk of the reference's longest: the search for a pair. No condition.
-/
namespace Go.Proofs.Ytieangfnjflfmaa
open Go Go.Eng
set_option maxRecDepth 100000
set_option maxHeartbeats 4000000
set_option linter.all false
attribute [local irreducible] WL WC WQ QFun QLoop Does Q1 QRound QAssign Go.Addr.add
attribute [local irreducible] midL firstJ rowQ outE tabL strs
theorem long_z {A B : List Tx} {aa ab a : Option Addr} {ca cb cp i k x n q bi b1 bo : Nat} {X : Tx} {E : List (List Value)} {L : List (Nat × Nat)} {w0 : World} {m : Mem} {Y : SHeap} {Q : Exit → Act → World → Prop} (hA : A.length ≤ 1024) (hB : B.length ≤ 1024) (hx : A[x]? = some X) (hk : k ≤ B.length) (hi : i ≤ A.length) (hn : n = lcs (A.drop i) (B.drop k)) (hq : A.length + 1 = q)
    (hEl : E.length = q) (hE0 : E[i]? = some [Value.slice (some ⟨bi, 0, none⟩) (B.length + 1) (B.length + 1)]) (hE1 : E[x + 1]? = some [Value.slice (some ⟨b1, 0, none⟩) (B.length + 1) (B.length + 1)])
    (hr0 : RowR w0 m Y 1 (some ⟨bi, 0, none⟩) (rowQ A B i 0)) (hr1 : RowR w0 m Y 1 (some ⟨b1, 0, none⟩) (rowQ A B (x + 1) 0)) (hra : RowR w0 m Y 1 aa (strs A)) (hrb : RowR w0 m Y 1 ab (strs B))
    (hno : firstJ X (A.drop (x + 1)) n (B.drop k) = none → WQ 163 w0 Q (.exit 10) [(13, .int .i64 (-1)), (12, .int .i64 (x : Int)), (11, .int .i64 (k : Int)), (10, .int .i64 (i : Int)), (9, .slice a L.length cp), (5, .slice (some ⟨bo, 0, none⟩) q q), (0, .slice aa A.length ca), (1, .slice ab B.length cb)] [] m (.row a cp 44 2 (L.map prE) :: .row (some ⟨bo, 0, none⟩) q 51 1 E :: Y))
    (hyes : ∀ p : Nat, k ≤ p → p < B.length → firstJ X (A.drop (x + 1)) n (B.drop k) = some (p - k) → WQ 163 w0 Q (.exit 10) [(13, .int .i64 (p : Int)), (12, .int .i64 (x : Int)), (11, .int .i64 (k : Int)), (10, .int .i64 (i : Int)), (9, .slice a L.length cp), (5, .slice (some ⟨bo, 0, none⟩) q q), (0, .slice aa A.length ca), (1, .slice ab B.length cb)] [] m (.row a cp 44 2 (L.map prE) :: .row (some ⟨bo, 0, none⟩) q 51 1 E :: Y)) :
    WC Try.prog none 163 w0 ((loopsIn (Try.f34.body.getD .skip)).getD 5 .skip) Q [(14, .int .i64 (k : Int)), (13, .int .i64 (-1)), (12, .int .i64 (x : Int)), (11, .int .i64 (k : Int)), (10, .int .i64 (i : Int)), (9, .slice a L.length cp), (5, .slice (some ⟨bo, 0, none⟩) q q), (0, .slice aa A.length ca), (1, .slice ab B.length cb)] [] m (.row a cp 44 2 (L.map prE) :: .row (some ⟨bo, 0, none⟩) q 51 1 E :: Y) := by
  have hxi := (List.getElem?_eq_some_iff.1 hx).1
  have hgx : (strs A)[x]? = some [str X] := strs_get hx
  have hal : (strs A).length = A.length := by simp [strs]
  have hbl2 : (strs B).length = B.length := by simp [strs]
  have hn1 := rowQ_get (A := A) (B := B) (i := i) (k := 0) (j := k) (by omega)
  rw [cut16_ge (Nat.zero_le _), ← hn] at hn1
  have hnl := (lcs_le (A.drop i) (B.drop k)).2
  rw [List.length_drop, ← hn] at hnl
  have hP0 := rowQ_length A B i 0
  have hP1 := rowQ_length A B (x + 1) 0
  have hqs : ∀ p, p + 1 ≤ B.length → (rowQ A B (x + 1) 0)[p + 1]? = some [.int .i64 (lcs (A.drop (x + 1)) (B.drop (p + 1)) : Int)] := fun p hp => by
    rw [rowQ_get hp, cut16_ge (Nat.zero_le _)]
  clear hn
  generalize rowQ A B (x + 1) 0 = P1 at *
  generalize rowQ A B i 0 = P0 at *
  generalize L.map prE = LE at *
  have hr0' : RowR w0 m (.row a cp 44 2 LE :: .row (some ⟨bo, 0, none⟩) q 51 1 E :: Y) 1 (some ⟨bi, 0, none⟩) P0 := hr0.more.more
  have hr1' : RowR w0 m (.row a cp 44 2 LE :: .row (some ⟨bo, 0, none⟩) q 51 1 E :: Y) 1 (some ⟨b1, 0, none⟩) P1 := hr1.more.more
  have hra' : RowR w0 m (.row a cp 44 2 LE :: .row (some ⟨bo, 0, none⟩) q 51 1 E :: Y) 1 aa (strs A) := hra.more.more
  have hrb' : RowR w0 m (.row a cp 44 2 LE :: .row (some ⟨bo, 0, none⟩) q 51 1 E :: Y) 1 ab (strs B) := hrb.more.more
  have hgys : ∀ p y, B[p]? = some y → (strs B)[p]? = some [str y] := fun p y h => strs_get h
  generalize strs A = SA at *
  generalize strs B = SB at *
  refine WC.rSome hra' (by omega) ?_
  rintro a0 rfl
  refine WC.loopH [(14, .int .i64 ((k) : Int)), (13, .int .i64 (-1)), (12, .int .i64 (x : Int)), (11, .int .i64 (k : Int)), (10, .int .i64 (i : Int)), (9, .slice a L.length cp), (5, .slice (some ⟨bo, 0, none⟩) q q), (0, .slice (some a0) A.length ca), (1, .slice ab B.length cb)] ?_ ?_ (fun j r ds m' H' => ∃ p, j = B.length - p ∧ r = [(14, .int .i64 (p : Int)), (13, .int .i64 (-1)), (12, .int .i64 (x : Int)), (11, .int .i64 (k : Int)), (10, .int .i64 (i : Int)), (9, .slice a L.length cp), (5, .slice (some ⟨bo, 0, none⟩) q q), (0, .slice (some a0) A.length ca), (1, .slice ab B.length cb)] ∧ ds = [] ∧ m = m' ∧ H' = .row a cp 44 2 LE :: .row (some ⟨bo, 0, none⟩) q 51 1 E :: Y ∧ (k ≤ p) ∧ (p ≤ B.length) ∧ (firstJ X (A.drop (x + 1)) n (B.drop k) = (firstJ X (A.drop (x + 1)) n (B.drop p)).map (· + (p - k)))) (B.length - (k)) ⟨k, rfl, rfl, rfl, rfl, rfl, by omega, by omega, by rw [Nat.sub_self]; cases firstJ X (A.drop (x + 1)) n (B.drop k) <;> rfl⟩ ?_
  · (repeat (first | exact Env.Sub.nil | refine Env.Sub.cons rfl ?_))
  · exact zpk
  rintro j r ds m' H' ⟨p, rfl, rfl, rfl, rfl, rfl, hkp, hpB, hf⟩
  by_cases hlt : p < B.length
  · obtain ⟨y, hy⟩ : ∃ y, B[p]? = some y := ⟨_, List.getElem?_eq_getElem hlt⟩
    have hyd := drop_get hy
    have hgy := hgys p y hy
    have hq1 := hqs p (by omega)
    rw [hyd, firstJ_cons] at hf
    have hl1 := (lcs_le (A.drop (x + 1)) (B.drop (p + 1))).2
    rw [List.length_drop] at hl1
    generalize hv : lcs (A.drop (x + 1)) (B.drop (p + 1)) = v at *
    refine WC.rSome hrb' (by omega) ?_
    rintro b0 rfl
    by_cases hxy : X = y
    · by_cases hvn : v + 1 = n
      · rw [if_pos ⟨hxy, hvn⟩] at hf
        have hfin := hyes p hkp hlt (by rw [hf]; simp)
        have hvn' : (v : Int) + 1 = (n : Int) := by omega
        (try (refine st ?_; intros))
        exact WQ.weak zsb zpk hfin
      · rw [if_neg (fun g => hvn g.2), map_shift (show 1 + (p - k) = p + 1 - k by omega)] at hf
        have hvn' : (v : Int) + 1 ≠ (n : Int) := by omega
        (try (refine st ?_; intros))
        refine WQ.next (B.length - (p + 1)) ⟨p + 1, rfl, rfl, rfl, rfl, rfl, ?_, ?_, ?_⟩ (by omega) zsb zpk
        · omega
        · omega
        · exact hf
    · rw [if_neg (fun g => hxy g.1), map_shift (show 1 + (p - k) = p + 1 - k by omega)] at hf
      (try (refine st ?_; intros))
      refine WQ.next (B.length - (p + 1)) ⟨p + 1, rfl, rfl, rfl, rfl, rfl, ?_, ?_, ?_⟩ (by omega) zsb zpk
      · omega
      · omega
      · exact hf
  · rw [List.drop_of_length_le (by omega : B.length ≤ p), show firstJ X (A.drop (x + 1)) n [] = none by unfold firstJ; rfl] at hf
    (try (refine st ?_; intros))
    exact WQ.weak zsb zpk (hno hf)
theorem long_x {A B : List Tx} {aa ab a : Option Addr} {ca cb cp i k q bi bo : Nat} {bs : List Nat} {E : List (List Value)} {L : List (Nat × Nat)} {w0 : World} {m : Mem} {Y : SHeap} {Q : Exit → Act → World → Prop} (hA : A.length ≤ 1024) (hB : B.length ≤ 1024) (hk : k ≤ B.length) (hi : i ≤ A.length) (hpos : 0 < lcs (A.drop i) (B.drop k)) (hq : A.length + 1 = q)
    (hEl : E.length = q) (hE0 : E[i]? = some [Value.slice (some ⟨bi, 0, none⟩) (B.length + 1) (B.length + 1)]) (hbs : bs.length = q) (hEg : ∀ (i b : Nat), bs[i]? = some b → E[i]? = some [Value.slice (some ⟨b, 0, none⟩) (B.length + 1) (B.length + 1)])
    (hr0 : RowR w0 m Y 1 (some ⟨bi, 0, none⟩) (rowQ A B i 0)) (hrows : ∀ (i b : Nat), bs[i]? = some b → RowR w0 m Y 1 (some ⟨b, 0, none⟩) (rowQ A B i 0)) (hra : RowR w0 m Y 1 aa (strs A)) (hrb : RowR w0 m Y 1 ab (strs B))
    (hK : ∀ x p : Nat, i ≤ x → x < A.length → k ≤ p → p < B.length → midL (A.drop i) (B.drop k) i k = (x, p) :: midL (A.drop (x + 1)) (B.drop (p + 1)) (x + 1) (p + 1) → WQ 163 w0 Q (.exit 8) [(13, .int .i64 (p : Int)), (12, .int .i64 ((x + 1 : Nat) : Int)), (11, .int .i64 (k : Int)), (10, .int .i64 (i : Int)), (9, .slice a L.length cp), (5, .slice (some ⟨bo, 0, none⟩) q q), (0, .slice aa A.length ca), (1, .slice ab B.length cb)] [] m (.row a cp 44 2 (L.map prE) :: .row (some ⟨bo, 0, none⟩) q 51 1 E :: Y)) :
    WC Try.prog none 163 w0 ((loopsIn (Try.f34.body.getD .skip)).getD 4 .skip) Q [(13, .int .i64 (-1)), (12, .int .i64 (i : Int)), (11, .int .i64 (k : Int)), (10, .int .i64 (i : Int)), (9, .slice a L.length cp), (5, .slice (some ⟨bo, 0, none⟩) q q), (0, .slice aa A.length ca), (1, .slice ab B.length cb)] [] m (.row a cp 44 2 (L.map prE) :: .row (some ⟨bo, 0, none⟩) q 51 1 E :: Y) := by
  refine WC.loopH [(13, .int .i64 (-1)), (12, .int .i64 ((i) : Int)), (11, .int .i64 (k : Int)), (10, .int .i64 (i : Int)), (9, .slice a L.length cp), (5, .slice (some ⟨bo, 0, none⟩) q q), (0, .slice aa A.length ca), (1, .slice ab B.length cb)] ?_ ?_ (fun j r ds m' H' => ∃ (x : Nat) (y : Int), j = (A.length + 1 - x) ∧ r = [(13, .int .i64 y), (12, .int .i64 (x : Int)), (11, .int .i64 (k : Int)), (10, .int .i64 (i : Int)), (9, .slice a L.length cp), (5, .slice (some ⟨bo, 0, none⟩) q q), (0, .slice aa A.length ca), (1, .slice ab B.length cb)] ∧ ds = [] ∧ m = m' ∧ H' = .row a cp 44 2 (L.map prE) :: .row (some ⟨bo, 0, none⟩) q 51 1 E :: Y ∧ (i ≤ x) ∧ ((y = -1 ∧ lcs (A.drop x) (B.drop k) = lcs (A.drop i) (B.drop k) ∧ midL (A.drop i) (B.drop k) i k = midL (A.drop x) (B.drop k) x k) ∨ (∃ p x' : Nat, y = (p : Int) ∧ x = x' + 1 ∧ i ≤ x' ∧ x' < A.length ∧ k ≤ p ∧ p < B.length ∧ midL (A.drop i) (B.drop k) i k = (x', p) :: midL (A.drop (x' + 1)) (B.drop (p + 1)) (x' + 1) (p + 1)))) ((A.length + 1 - (i))) ⟨i, -1, rfl, rfl, rfl, rfl, rfl, by omega, .inl ⟨by omega, rfl, rfl⟩⟩ ?_
  · (repeat (first | exact Env.Sub.nil | refine Env.Sub.cons rfl ?_))
  · exact zpk
  rintro j r ds m' H' ⟨x, y, rfl, rfl, rfl, rfl, rfl, hix, hy⟩
  rcases hy with ⟨rfl, hl, hm⟩ | ⟨p, x', rfl, rfl, hix', hx', hkp, hpB, hm⟩
  · have hxA : x < A.length := by
      rcases Nat.lt_or_ge x A.length with h | h
      · exact h
      · rw [List.drop_of_length_le h, lcs_nil'] at hl; omega
    obtain ⟨X, hX⟩ : ∃ X, A[x]? = some X := ⟨_, List.getElem?_eq_getElem hxA⟩
    obtain ⟨b1, hb1⟩ : ∃ b, bs[x + 1]? = some b := ⟨_, List.getElem?_eq_getElem (by omega : x + 1 < bs.length)⟩
    have hstep := hm
    rw [drop_get hX, midL, ← drop_get hX] at hstep
    have hnone := firstJ_none (x := X) (xs := A.drop (x + 1)) (bs := B.drop k)
    rw [← drop_get hX, hl] at hnone
    rw [hl] at hstep
    (try (refine st ?_; intros))
    refine WC.weak zsb zpk (long_z (L := L) (a := a) (cp := cp) (k := k) (i := i) (x := x) (ca := ca) (cb := cb) (bo := bo) hA hB hX hk hi rfl hq hEl hE0 (hEg (x + 1) b1 hb1) hr0 (hrows (x + 1) b1 hb1) hra hrb ?_ ?_)
    · intro hno
      rw [hno] at hstep
      have h2 := hnone hno
      (try (refine st ?_; intros))
      refine WQ.next ((A.length + 1 - (x + 1))) ⟨x + 1, -1, rfl, rfl, rfl, rfl, rfl, ?_, ?_⟩ (by omega) zsb zpk
      · omega
      · exact .inl ⟨rfl, h2.symm, hstep⟩
    · intro p hkp hpB hyes
      rw [hyes] at hstep
      simp only [List.drop_drop] at hstep
      rw [show k + (p - k) = p by omega, show k + (p - k + 1) = p + 1 by omega] at hstep
      (try (refine st ?_; intros))
      refine WQ.next ((A.length + 1 - (x + 1))) ⟨x + 1, (p : Int), rfl, rfl, rfl, rfl, rfl, ?_, ?_⟩ (by omega) zsb zpk
      · omega
      · exact .inr ⟨p, x, rfl, rfl, hix, hxA, hkp, hpB, hstep⟩
  · have hfin := hK x' p hix' hx' hkp hpB hm
    (try (refine st ?_; intros))
    exact WQ.weak zsb zpk hfin
end Go.Proofs.Ytieangfnjflfmaa

/-
  The walk of the reference's longest, put together. No condition.
-/
namespace Go.Proofs.Ytieangfnjflfmaa
open Go Go.Eng
set_option maxRecDepth 100000
set_option maxHeartbeats 4000000
set_option linter.all false
attribute [local irreducible] WL WC WQ QFun QLoop Does Q1 QRound QAssign Go.Addr.add
attribute [local irreducible] midL firstJ rowQ outE tabL strs
theorem sq_D27_1 {G : Prop} (h : G := by (repeat (first | (refine sp ?_; (repeat intro zzc)) | (refine WL.makeRow (sz:=1) (by':=8) (zs:=[.int .i64 0]) rfl rfl (by (first | with_reducible exact natz _ | with_reducible exact natz0 | with_reducible exact natz1 | with_reducible exact natz2 | with_reducible exact natz3 | with_reducible exact natz4 | with_reducible exact natz8 | (apply natz_add; (· first | with_reducible exact natz _ | with_reducible exact natz0 | with_reducible exact natz1 | with_reducible exact natz2 | with_reducible exact natz3 | with_reducible exact natz4 | with_reducible exact natz8); (· first | with_reducible exact natz _ | with_reducible exact natz0 | with_reducible exact natz1 | with_reducible exact natz2 | with_reducible exact natz3 | with_reducible exact natz4 | with_reducible exact natz8)) | (apply natz_sub; (· first | with_reducible exact natz _ | with_reducible exact natz0 | with_reducible exact natz1 | with_reducible exact natz2 | with_reducible exact natz3 | with_reducible exact natz4 | with_reducible exact natz8); (· first | with_reducible exact natz _ | with_reducible exact natz0 | with_reducible exact natz1 | with_reducible exact natz2 | with_reducible exact natz3 | with_reducible exact natz4 | with_reducible exact natz8); (· omega)) | exact (Int.toNat_of_nonneg (by omega)).symm)) (by (first | with_reducible exact natz _ | with_reducible exact natz0 | with_reducible exact natz1 | with_reducible exact natz2 | with_reducible exact natz3 | with_reducible exact natz4 | with_reducible exact natz8 | (apply natz_add; (· first | with_reducible exact natz _ | with_reducible exact natz0 | with_reducible exact natz1 | with_reducible exact natz2 | with_reducible exact natz3 | with_reducible exact natz4 | with_reducible exact natz8); (· first | with_reducible exact natz _ | with_reducible exact natz0 | with_reducible exact natz1 | with_reducible exact natz2 | with_reducible exact natz3 | with_reducible exact natz4 | with_reducible exact natz8)) | (apply natz_sub; (· first | with_reducible exact natz _ | with_reducible exact natz0 | with_reducible exact natz1 | with_reducible exact natz2 | with_reducible exact natz3 | with_reducible exact natz4 | with_reducible exact natz8); (· first | with_reducible exact natz _ | with_reducible exact natz0 | with_reducible exact natz1 | with_reducible exact natz2 | with_reducible exact natz3 | with_reducible exact natz4 | with_reducible exact natz8); (· omega)) | exact (Int.toNat_of_nonneg (by omega)).symm)) rfl rfl rfl rfl rfl rfl (by decide) (by omega) (by omega) rfl ?_; intro zzc) | (refine WL.makeRow (sz:=1) (by':=24) (zs:=[.slice none 0 0]) rfl rfl (by (first | with_reducible exact natz _ | with_reducible exact natz0 | with_reducible exact natz1 | with_reducible exact natz2 | with_reducible exact natz3 | with_reducible exact natz4 | with_reducible exact natz8 | (apply natz_add; (· first | with_reducible exact natz _ | with_reducible exact natz0 | with_reducible exact natz1 | with_reducible exact natz2 | with_reducible exact natz3 | with_reducible exact natz4 | with_reducible exact natz8); (· first | with_reducible exact natz _ | with_reducible exact natz0 | with_reducible exact natz1 | with_reducible exact natz2 | with_reducible exact natz3 | with_reducible exact natz4 | with_reducible exact natz8)) | (apply natz_sub; (· first | with_reducible exact natz _ | with_reducible exact natz0 | with_reducible exact natz1 | with_reducible exact natz2 | with_reducible exact natz3 | with_reducible exact natz4 | with_reducible exact natz8); (· first | with_reducible exact natz _ | with_reducible exact natz0 | with_reducible exact natz1 | with_reducible exact natz2 | with_reducible exact natz3 | with_reducible exact natz4 | with_reducible exact natz8); (· omega)) | exact (Int.toNat_of_nonneg (by omega)).symm)) (by (first | with_reducible exact natz _ | with_reducible exact natz0 | with_reducible exact natz1 | with_reducible exact natz2 | with_reducible exact natz3 | with_reducible exact natz4 | with_reducible exact natz8 | (apply natz_add; (· first | with_reducible exact natz _ | with_reducible exact natz0 | with_reducible exact natz1 | with_reducible exact natz2 | with_reducible exact natz3 | with_reducible exact natz4 | with_reducible exact natz8); (· first | with_reducible exact natz _ | with_reducible exact natz0 | with_reducible exact natz1 | with_reducible exact natz2 | with_reducible exact natz3 | with_reducible exact natz4 | with_reducible exact natz8)) | (apply natz_sub; (· first | with_reducible exact natz _ | with_reducible exact natz0 | with_reducible exact natz1 | with_reducible exact natz2 | with_reducible exact natz3 | with_reducible exact natz4 | with_reducible exact natz8); (· first | with_reducible exact natz _ | with_reducible exact natz0 | with_reducible exact natz1 | with_reducible exact natz2 | with_reducible exact natz3 | with_reducible exact natz4 | with_reducible exact natz8); (· omega)) | exact (Int.toNat_of_nonneg (by omega)).symm)) rfl rfl rfl rfl rfl rfl (by decide) (by omega) (by omega) rfl ?_; intro zzc))); exact WQ.q1 rfl) : G := h
theorem st_D27_1 {G G' : Prop} (next : G') (h : Bx G' → G := by intro zzn; (first | ((refine st ?_; (repeat intro zzc)); (try ((first | (refine WL.makeRow (sz:=1) (by':=8) (zs:=[.int .i64 0]) rfl rfl (by (first | with_reducible exact natz _ | with_reducible exact natz0 | with_reducible exact natz1 | with_reducible exact natz2 | with_reducible exact natz3 | with_reducible exact natz4 | with_reducible exact natz8 | (apply natz_add; (· first | with_reducible exact natz _ | with_reducible exact natz0 | with_reducible exact natz1 | with_reducible exact natz2 | with_reducible exact natz3 | with_reducible exact natz4 | with_reducible exact natz8); (· first | with_reducible exact natz _ | with_reducible exact natz0 | with_reducible exact natz1 | with_reducible exact natz2 | with_reducible exact natz3 | with_reducible exact natz4 | with_reducible exact natz8)) | (apply natz_sub; (· first | with_reducible exact natz _ | with_reducible exact natz0 | with_reducible exact natz1 | with_reducible exact natz2 | with_reducible exact natz3 | with_reducible exact natz4 | with_reducible exact natz8); (· first | with_reducible exact natz _ | with_reducible exact natz0 | with_reducible exact natz1 | with_reducible exact natz2 | with_reducible exact natz3 | with_reducible exact natz4 | with_reducible exact natz8); (· omega)) | exact (Int.toNat_of_nonneg (by omega)).symm)) (by (first | with_reducible exact natz _ | with_reducible exact natz0 | with_reducible exact natz1 | with_reducible exact natz2 | with_reducible exact natz3 | with_reducible exact natz4 | with_reducible exact natz8 | (apply natz_add; (· first | with_reducible exact natz _ | with_reducible exact natz0 | with_reducible exact natz1 | with_reducible exact natz2 | with_reducible exact natz3 | with_reducible exact natz4 | with_reducible exact natz8); (· first | with_reducible exact natz _ | with_reducible exact natz0 | with_reducible exact natz1 | with_reducible exact natz2 | with_reducible exact natz3 | with_reducible exact natz4 | with_reducible exact natz8)) | (apply natz_sub; (· first | with_reducible exact natz _ | with_reducible exact natz0 | with_reducible exact natz1 | with_reducible exact natz2 | with_reducible exact natz3 | with_reducible exact natz4 | with_reducible exact natz8); (· first | with_reducible exact natz _ | with_reducible exact natz0 | with_reducible exact natz1 | with_reducible exact natz2 | with_reducible exact natz3 | with_reducible exact natz4 | with_reducible exact natz8); (· omega)) | exact (Int.toNat_of_nonneg (by omega)).symm)) rfl rfl rfl rfl rfl rfl (by decide) (by omega) (by omega) rfl ?_; intro zzc) | (refine WL.makeRow (sz:=1) (by':=24) (zs:=[.slice none 0 0]) rfl rfl (by (first | with_reducible exact natz _ | with_reducible exact natz0 | with_reducible exact natz1 | with_reducible exact natz2 | with_reducible exact natz3 | with_reducible exact natz4 | with_reducible exact natz8 | (apply natz_add; (· first | with_reducible exact natz _ | with_reducible exact natz0 | with_reducible exact natz1 | with_reducible exact natz2 | with_reducible exact natz3 | with_reducible exact natz4 | with_reducible exact natz8); (· first | with_reducible exact natz _ | with_reducible exact natz0 | with_reducible exact natz1 | with_reducible exact natz2 | with_reducible exact natz3 | with_reducible exact natz4 | with_reducible exact natz8)) | (apply natz_sub; (· first | with_reducible exact natz _ | with_reducible exact natz0 | with_reducible exact natz1 | with_reducible exact natz2 | with_reducible exact natz3 | with_reducible exact natz4 | with_reducible exact natz8); (· first | with_reducible exact natz _ | with_reducible exact natz0 | with_reducible exact natz1 | with_reducible exact natz2 | with_reducible exact natz3 | with_reducible exact natz4 | with_reducible exact natz8); (· omega)) | exact (Int.toNat_of_nonneg (by omega)).symm)) (by (first | with_reducible exact natz _ | with_reducible exact natz0 | with_reducible exact natz1 | with_reducible exact natz2 | with_reducible exact natz3 | with_reducible exact natz4 | with_reducible exact natz8 | (apply natz_add; (· first | with_reducible exact natz _ | with_reducible exact natz0 | with_reducible exact natz1 | with_reducible exact natz2 | with_reducible exact natz3 | with_reducible exact natz4 | with_reducible exact natz8); (· first | with_reducible exact natz _ | with_reducible exact natz0 | with_reducible exact natz1 | with_reducible exact natz2 | with_reducible exact natz3 | with_reducible exact natz4 | with_reducible exact natz8)) | (apply natz_sub; (· first | with_reducible exact natz _ | with_reducible exact natz0 | with_reducible exact natz1 | with_reducible exact natz2 | with_reducible exact natz3 | with_reducible exact natz4 | with_reducible exact natz8); (· first | with_reducible exact natz _ | with_reducible exact natz0 | with_reducible exact natz1 | with_reducible exact natz2 | with_reducible exact natz3 | with_reducible exact natz4 | with_reducible exact natz8); (· omega)) | exact (Int.toNat_of_nonneg (by omega)).symm)) rfl rfl rfl rfl rfl rfl (by decide) (by omega) (by omega) rfl ?_; intro zzc) | ((refine iDraw ?_; (first | refine WC.drawAll rfl (by decide +kernel) ?_ | refine WC.draw 1 rfl (by decide +kernel) ?_ | refine WC.draw 2 rfl (by decide +kernel) ?_ | refine WC.draw 3 rfl (by decide +kernel) ?_ | refine WC.draw 4 rfl (by decide +kernel) ?_ | refine WC.draw 5 rfl (by decide +kernel) ?_ | refine WC.draw 6 rfl (by decide +kernel) ?_ | refine WC.draw 7 rfl (by decide +kernel) ?_ | refine WC.draw 8 rfl (by decide +kernel) ?_ | refine WC.draw 9 rfl (by decide +kernel) ?_ | refine WC.draw 10 rfl (by decide +kernel) ?_ | refine WC.draw 11 rfl (by decide +kernel) ?_ | refine WC.draw 12 rfl (by decide +kernel) ?_ | refine WC.draw 13 rfl (by decide +kernel) ?_ | refine WC.draw 14 rfl (by decide +kernel) ?_ | refine WC.draw 15 rfl (by decide +kernel) ?_ | refine WC.draw 16 rfl (by decide +kernel) ?_ | refine WC.draw 17 rfl (by decide +kernel) ?_ | refine WC.draw 18 rfl (by decide +kernel) ?_ | refine WC.draw 19 rfl (by decide +kernel) ?_ | refine WC.draw 20 rfl (by decide +kernel) ?_ | refine WC.draw 21 rfl (by decide +kernel) ?_ | refine WC.draw 22 rfl (by decide +kernel) ?_ | refine WC.draw 23 rfl (by decide +kernel) ?_ | refine WC.draw 24 rfl (by decide +kernel) ?_)); (repeat (refine WD.cons rfl (fun c h => by cases h) sq_D27_1 ?_)); refine WD.nil ?_)); (try (refine st ?_; (repeat intro zzc)))))) | ((first | (refine WL.makeRow (sz:=1) (by':=8) (zs:=[.int .i64 0]) rfl rfl (by (first | with_reducible exact natz _ | with_reducible exact natz0 | with_reducible exact natz1 | with_reducible exact natz2 | with_reducible exact natz3 | with_reducible exact natz4 | with_reducible exact natz8 | (apply natz_add; (· first | with_reducible exact natz _ | with_reducible exact natz0 | with_reducible exact natz1 | with_reducible exact natz2 | with_reducible exact natz3 | with_reducible exact natz4 | with_reducible exact natz8); (· first | with_reducible exact natz _ | with_reducible exact natz0 | with_reducible exact natz1 | with_reducible exact natz2 | with_reducible exact natz3 | with_reducible exact natz4 | with_reducible exact natz8)) | (apply natz_sub; (· first | with_reducible exact natz _ | with_reducible exact natz0 | with_reducible exact natz1 | with_reducible exact natz2 | with_reducible exact natz3 | with_reducible exact natz4 | with_reducible exact natz8); (· first | with_reducible exact natz _ | with_reducible exact natz0 | with_reducible exact natz1 | with_reducible exact natz2 | with_reducible exact natz3 | with_reducible exact natz4 | with_reducible exact natz8); (· omega)) | exact (Int.toNat_of_nonneg (by omega)).symm)) (by (first | with_reducible exact natz _ | with_reducible exact natz0 | with_reducible exact natz1 | with_reducible exact natz2 | with_reducible exact natz3 | with_reducible exact natz4 | with_reducible exact natz8 | (apply natz_add; (· first | with_reducible exact natz _ | with_reducible exact natz0 | with_reducible exact natz1 | with_reducible exact natz2 | with_reducible exact natz3 | with_reducible exact natz4 | with_reducible exact natz8); (· first | with_reducible exact natz _ | with_reducible exact natz0 | with_reducible exact natz1 | with_reducible exact natz2 | with_reducible exact natz3 | with_reducible exact natz4 | with_reducible exact natz8)) | (apply natz_sub; (· first | with_reducible exact natz _ | with_reducible exact natz0 | with_reducible exact natz1 | with_reducible exact natz2 | with_reducible exact natz3 | with_reducible exact natz4 | with_reducible exact natz8); (· first | with_reducible exact natz _ | with_reducible exact natz0 | with_reducible exact natz1 | with_reducible exact natz2 | with_reducible exact natz3 | with_reducible exact natz4 | with_reducible exact natz8); (· omega)) | exact (Int.toNat_of_nonneg (by omega)).symm)) rfl rfl rfl rfl rfl rfl (by decide) (by omega) (by omega) rfl ?_; intro zzc) | (refine WL.makeRow (sz:=1) (by':=24) (zs:=[.slice none 0 0]) rfl rfl (by (first | with_reducible exact natz _ | with_reducible exact natz0 | with_reducible exact natz1 | with_reducible exact natz2 | with_reducible exact natz3 | with_reducible exact natz4 | with_reducible exact natz8 | (apply natz_add; (· first | with_reducible exact natz _ | with_reducible exact natz0 | with_reducible exact natz1 | with_reducible exact natz2 | with_reducible exact natz3 | with_reducible exact natz4 | with_reducible exact natz8); (· first | with_reducible exact natz _ | with_reducible exact natz0 | with_reducible exact natz1 | with_reducible exact natz2 | with_reducible exact natz3 | with_reducible exact natz4 | with_reducible exact natz8)) | (apply natz_sub; (· first | with_reducible exact natz _ | with_reducible exact natz0 | with_reducible exact natz1 | with_reducible exact natz2 | with_reducible exact natz3 | with_reducible exact natz4 | with_reducible exact natz8); (· first | with_reducible exact natz _ | with_reducible exact natz0 | with_reducible exact natz1 | with_reducible exact natz2 | with_reducible exact natz3 | with_reducible exact natz4 | with_reducible exact natz8); (· omega)) | exact (Int.toNat_of_nonneg (by omega)).symm)) (by (first | with_reducible exact natz _ | with_reducible exact natz0 | with_reducible exact natz1 | with_reducible exact natz2 | with_reducible exact natz3 | with_reducible exact natz4 | with_reducible exact natz8 | (apply natz_add; (· first | with_reducible exact natz _ | with_reducible exact natz0 | with_reducible exact natz1 | with_reducible exact natz2 | with_reducible exact natz3 | with_reducible exact natz4 | with_reducible exact natz8); (· first | with_reducible exact natz _ | with_reducible exact natz0 | with_reducible exact natz1 | with_reducible exact natz2 | with_reducible exact natz3 | with_reducible exact natz4 | with_reducible exact natz8)) | (apply natz_sub; (· first | with_reducible exact natz _ | with_reducible exact natz0 | with_reducible exact natz1 | with_reducible exact natz2 | with_reducible exact natz3 | with_reducible exact natz4 | with_reducible exact natz8); (· first | with_reducible exact natz _ | with_reducible exact natz0 | with_reducible exact natz1 | with_reducible exact natz2 | with_reducible exact natz3 | with_reducible exact natz4 | with_reducible exact natz8); (· omega)) | exact (Int.toNat_of_nonneg (by omega)).symm)) rfl rfl rfl rfl rfl rfl (by decide) (by omega) (by omega) rfl ?_; intro zzc) | ((refine iDraw ?_; (first | refine WC.drawAll rfl (by decide +kernel) ?_ | refine WC.draw 1 rfl (by decide +kernel) ?_ | refine WC.draw 2 rfl (by decide +kernel) ?_ | refine WC.draw 3 rfl (by decide +kernel) ?_ | refine WC.draw 4 rfl (by decide +kernel) ?_ | refine WC.draw 5 rfl (by decide +kernel) ?_ | refine WC.draw 6 rfl (by decide +kernel) ?_ | refine WC.draw 7 rfl (by decide +kernel) ?_ | refine WC.draw 8 rfl (by decide +kernel) ?_ | refine WC.draw 9 rfl (by decide +kernel) ?_ | refine WC.draw 10 rfl (by decide +kernel) ?_ | refine WC.draw 11 rfl (by decide +kernel) ?_ | refine WC.draw 12 rfl (by decide +kernel) ?_ | refine WC.draw 13 rfl (by decide +kernel) ?_ | refine WC.draw 14 rfl (by decide +kernel) ?_ | refine WC.draw 15 rfl (by decide +kernel) ?_ | refine WC.draw 16 rfl (by decide +kernel) ?_ | refine WC.draw 17 rfl (by decide +kernel) ?_ | refine WC.draw 18 rfl (by decide +kernel) ?_ | refine WC.draw 19 rfl (by decide +kernel) ?_ | refine WC.draw 20 rfl (by decide +kernel) ?_ | refine WC.draw 21 rfl (by decide +kernel) ?_ | refine WC.draw 22 rfl (by decide +kernel) ?_ | refine WC.draw 23 rfl (by decide +kernel) ?_ | refine WC.draw 24 rfl (by decide +kernel) ?_)); (repeat (refine WD.cons rfl (fun c h => by cases h) sq_D27_1 ?_)); refine WD.nil ?_)); (try (refine st ?_; (repeat intro zzc))))); (repeat ((first | (refine WL.makeRow (sz:=1) (by':=8) (zs:=[.int .i64 0]) rfl rfl (by (first | with_reducible exact natz _ | with_reducible exact natz0 | with_reducible exact natz1 | with_reducible exact natz2 | with_reducible exact natz3 | with_reducible exact natz4 | with_reducible exact natz8 | (apply natz_add; (· first | with_reducible exact natz _ | with_reducible exact natz0 | with_reducible exact natz1 | with_reducible exact natz2 | with_reducible exact natz3 | with_reducible exact natz4 | with_reducible exact natz8); (· first | with_reducible exact natz _ | with_reducible exact natz0 | with_reducible exact natz1 | with_reducible exact natz2 | with_reducible exact natz3 | with_reducible exact natz4 | with_reducible exact natz8)) | (apply natz_sub; (· first | with_reducible exact natz _ | with_reducible exact natz0 | with_reducible exact natz1 | with_reducible exact natz2 | with_reducible exact natz3 | with_reducible exact natz4 | with_reducible exact natz8); (· first | with_reducible exact natz _ | with_reducible exact natz0 | with_reducible exact natz1 | with_reducible exact natz2 | with_reducible exact natz3 | with_reducible exact natz4 | with_reducible exact natz8); (· omega)) | exact (Int.toNat_of_nonneg (by omega)).symm)) (by (first | with_reducible exact natz _ | with_reducible exact natz0 | with_reducible exact natz1 | with_reducible exact natz2 | with_reducible exact natz3 | with_reducible exact natz4 | with_reducible exact natz8 | (apply natz_add; (· first | with_reducible exact natz _ | with_reducible exact natz0 | with_reducible exact natz1 | with_reducible exact natz2 | with_reducible exact natz3 | with_reducible exact natz4 | with_reducible exact natz8); (· first | with_reducible exact natz _ | with_reducible exact natz0 | with_reducible exact natz1 | with_reducible exact natz2 | with_reducible exact natz3 | with_reducible exact natz4 | with_reducible exact natz8)) | (apply natz_sub; (· first | with_reducible exact natz _ | with_reducible exact natz0 | with_reducible exact natz1 | with_reducible exact natz2 | with_reducible exact natz3 | with_reducible exact natz4 | with_reducible exact natz8); (· first | with_reducible exact natz _ | with_reducible exact natz0 | with_reducible exact natz1 | with_reducible exact natz2 | with_reducible exact natz3 | with_reducible exact natz4 | with_reducible exact natz8); (· omega)) | exact (Int.toNat_of_nonneg (by omega)).symm)) rfl rfl rfl rfl rfl rfl (by decide) (by omega) (by omega) rfl ?_; intro zzc) | (refine WL.makeRow (sz:=1) (by':=24) (zs:=[.slice none 0 0]) rfl rfl (by (first | with_reducible exact natz _ | with_reducible exact natz0 | with_reducible exact natz1 | with_reducible exact natz2 | with_reducible exact natz3 | with_reducible exact natz4 | with_reducible exact natz8 | (apply natz_add; (· first | with_reducible exact natz _ | with_reducible exact natz0 | with_reducible exact natz1 | with_reducible exact natz2 | with_reducible exact natz3 | with_reducible exact natz4 | with_reducible exact natz8); (· first | with_reducible exact natz _ | with_reducible exact natz0 | with_reducible exact natz1 | with_reducible exact natz2 | with_reducible exact natz3 | with_reducible exact natz4 | with_reducible exact natz8)) | (apply natz_sub; (· first | with_reducible exact natz _ | with_reducible exact natz0 | with_reducible exact natz1 | with_reducible exact natz2 | with_reducible exact natz3 | with_reducible exact natz4 | with_reducible exact natz8); (· first | with_reducible exact natz _ | with_reducible exact natz0 | with_reducible exact natz1 | with_reducible exact natz2 | with_reducible exact natz3 | with_reducible exact natz4 | with_reducible exact natz8); (· omega)) | exact (Int.toNat_of_nonneg (by omega)).symm)) (by (first | with_reducible exact natz _ | with_reducible exact natz0 | with_reducible exact natz1 | with_reducible exact natz2 | with_reducible exact natz3 | with_reducible exact natz4 | with_reducible exact natz8 | (apply natz_add; (· first | with_reducible exact natz _ | with_reducible exact natz0 | with_reducible exact natz1 | with_reducible exact natz2 | with_reducible exact natz3 | with_reducible exact natz4 | with_reducible exact natz8); (· first | with_reducible exact natz _ | with_reducible exact natz0 | with_reducible exact natz1 | with_reducible exact natz2 | with_reducible exact natz3 | with_reducible exact natz4 | with_reducible exact natz8)) | (apply natz_sub; (· first | with_reducible exact natz _ | with_reducible exact natz0 | with_reducible exact natz1 | with_reducible exact natz2 | with_reducible exact natz3 | with_reducible exact natz4 | with_reducible exact natz8); (· first | with_reducible exact natz _ | with_reducible exact natz0 | with_reducible exact natz1 | with_reducible exact natz2 | with_reducible exact natz3 | with_reducible exact natz4 | with_reducible exact natz8); (· omega)) | exact (Int.toNat_of_nonneg (by omega)).symm)) rfl rfl rfl rfl rfl rfl (by decide) (by omega) (by omega) rfl ?_; intro zzc) | ((refine iDraw ?_; (first | refine WC.drawAll rfl (by decide +kernel) ?_ | refine WC.draw 1 rfl (by decide +kernel) ?_ | refine WC.draw 2 rfl (by decide +kernel) ?_ | refine WC.draw 3 rfl (by decide +kernel) ?_ | refine WC.draw 4 rfl (by decide +kernel) ?_ | refine WC.draw 5 rfl (by decide +kernel) ?_ | refine WC.draw 6 rfl (by decide +kernel) ?_ | refine WC.draw 7 rfl (by decide +kernel) ?_ | refine WC.draw 8 rfl (by decide +kernel) ?_ | refine WC.draw 9 rfl (by decide +kernel) ?_ | refine WC.draw 10 rfl (by decide +kernel) ?_ | refine WC.draw 11 rfl (by decide +kernel) ?_ | refine WC.draw 12 rfl (by decide +kernel) ?_ | refine WC.draw 13 rfl (by decide +kernel) ?_ | refine WC.draw 14 rfl (by decide +kernel) ?_ | refine WC.draw 15 rfl (by decide +kernel) ?_ | refine WC.draw 16 rfl (by decide +kernel) ?_ | refine WC.draw 17 rfl (by decide +kernel) ?_ | refine WC.draw 18 rfl (by decide +kernel) ?_ | refine WC.draw 19 rfl (by decide +kernel) ?_ | refine WC.draw 20 rfl (by decide +kernel) ?_ | refine WC.draw 21 rfl (by decide +kernel) ?_ | refine WC.draw 22 rfl (by decide +kernel) ?_ | refine WC.draw 23 rfl (by decide +kernel) ?_ | refine WC.draw 24 rfl (by decide +kernel) ?_)); (repeat (refine WD.cons rfl (fun c h => by cases h) sq_D27_1 ?_)); refine WD.nil ?_)); (try (refine st ?_; (repeat intro zzc))))); (repeat revert zzc); exact zzn.out) : G := h ⟨next⟩
theorem longest_any {A B : List Tx} {aa ab : Option Addr} {ca cb : Nat} {w0 : World} {m : Mem} {H : SHeap} (hA : A.length ≤ 1024) (hB : B.length ≤ 1024) (ha : RowR w0 m H 1 aa (strs A)) (hb : RowR w0 m H 1 ab (strs B)) :
    Does Try.prog 34 #[.slice aa A.length ca, .slice ab B.length cb] w0 m H (fun v m' H' => m' = m ∧ ∃ a cp, v = .slice a (midL A B 0 0).length cp ∧ H' = .row a cp 44 2 ((midL A B 0 0).map prE) :: H) := by
  refine Does.of_body (args := [.slice aa A.length ca, .slice ab B.length cb]) Try.func34 rfl Try.ntmps34 rfl ?_
  have hcA : (A.length : Int) + 1 = ((A.length + 1 : Nat) : Int) := by omega
  have hcB : (B.length : Int) + 1 = ((B.length + 1 : Nat) : Int) := by omega
  (refine st_D27_1 ?_; intros; rename_i bo)
  generalize hN : A.length + 1 = N at *
  rw [show List.replicate N [Value.slice none 0 0] = outE [] (B.length + 1) N by unfold outE; rfl]
  refine WC.heap (H' := .row (some ⟨bo, 0, none⟩) N 51 1 (outE [] (B.length + 1) N) :: (tabL 3 (B.length + 1) (fun _ => List.replicate (B.length + 1) [.int .i64 0]) [] ++ H)) (fun w h => by unfold tabL; exact h) ?_
  refine WC.loopH [(21, .int .i64 ((0) : Int)), (20, .int .i64 (N : Int)), (5, .slice (some ⟨bo, 0, none⟩) N N), (0, .slice aa A.length ca), (1, .slice ab B.length cb)] ?_ ?_ (fun j r ds m' H' => ∃ (q : _) (bs : List Nat), j = N - q ∧ r = [(21, .int .i64 (q : Int)), (20, .int .i64 (N : Int)), (5, .slice (some ⟨bo, 0, none⟩) N N), (0, .slice aa A.length ca), (1, .slice ab B.length cb)] ∧ ds = [] ∧ m = m' ∧ H' = .row (some ⟨bo, 0, none⟩) N 51 1 (outE bs (B.length + 1) N) :: (tabL 3 (B.length + 1) (fun _ => List.replicate (B.length + 1) [.int .i64 0]) bs ++ H) ∧ (bs.length = q) ∧ (q ≤ N)) (N - (0)) ⟨0, [], rfl, rfl, rfl, rfl, rfl, rfl, by omega⟩ ?_
  · (repeat (first | exact Env.Sub.nil | refine Env.Sub.cons rfl ?_))
  · exact zpk
  rintro j r ds m' H' ⟨q, bs, rfl, rfl, rfl, rfl, rfl, hbl, hjN⟩
  by_cases hlt : q < N
  · have hol : (outE bs (B.length + 1) N).length = N := outE_length (by omega)
    have hset : ∀ b, (outE bs (B.length + 1) N).set q [.slice (some ⟨b, 0, none⟩) (B.length + 1) (B.length + 1)] = outE (bs ++ [b]) (B.length + 1) N := fun b => by rw [← hbl]; exact outE_set (by omega)
    generalize hOE : outE bs (B.length + 1) N = OE at *
    (refine st_D27_1 ?_; intros; rename_i bn)
    rw [hset]
    refine WQ.heapX (H' := .row (some ⟨bo, 0, none⟩) N 51 1 (outE (bs ++ [bn]) (B.length + 1) N) :: (tabL 3 (B.length + 1) (fun _ => List.replicate (B.length + 1) [.int .i64 0]) (bs ++ [bn]) ++ H)) (fun w h => h.perm ?_) ?_
    · rw [tabL_snoc]
      exact (List.Perm.swap _ _ _).trans (List.Perm.cons _ ((List.perm_append_singleton _ _).symm.append_right H))
    · refine WQ.next (N - (q + 1)) ⟨q + 1, bs ++ [bn], rfl, rfl, rfl, rfl, rfl, ?_, ?_⟩ (by omega) zsb zpk
      · rw [List.length_append, List.length_singleton]; omega
      · omega
  · obtain rfl : q = N := by omega
    rw [tabL_congr (G := fun i => rowQ A B i (if i < A.length then B.length else 0)) (fun i hi => by
      split
      · exact (rowQ_zero (.inl (Nat.le_refl _))).symm
      · exact (rowQ_zero (.inr (by omega))).symm)]
    obtain ⟨E, hE⟩ : ∃ E, E = outE bs (B.length + 1) q := ⟨_, rfl⟩
    have hEl : E.length = q := by rw [hE]; exact outE_length (by omega)
    have hEg : ∀ i b, bs[i]? = some b → E[i]? = some [Value.slice (some ⟨b, 0, none⟩) (B.length + 1) (B.length + 1)] := fun i b h => by rw [hE]; exact outE_get h
    rw [← hE]
    clear hE
    (try (refine st_D27_1 ?_; intros))
    refine WC.loopH [(7, .int .i64 (((A.length) : Int) - 1)), (5, .slice (some ⟨bo, 0, none⟩) q q), (0, .slice aa A.length ca), (1, .slice ab B.length cb)] ?_ ?_ (fun j r ds m' H' => ∃ i, j = 2 * i ∧ r = [(7, .int .i64 ((i : Int) - 1)), (5, .slice (some ⟨bo, 0, none⟩) q q), (0, .slice aa A.length ca), (1, .slice ab B.length cb)] ∧ ds = [] ∧ m = m' ∧ H' = .row (some ⟨bo, 0, none⟩) q 51 1 E :: (tabL 3 (B.length + 1) (fun k => rowQ A B k (if k < i then B.length else 0)) bs ++ H) ∧ (i ≤ A.length)) (2 * (A.length)) ⟨A.length, rfl, rfl, rfl, rfl, rfl, by omega⟩ ?_
    · (repeat (first | exact Env.Sub.nil | refine Env.Sub.cons rfl ?_))
    · exact zpk
    rintro j r ds m' H' ⟨i, rfl, rfl, rfl, rfl, rfl, hi⟩
    by_cases hz : i = 0
    · subst hz
      clear hi
      have hrows : ∀ i b, bs[i]? = some b → RowR w0 m (tabL 3 (B.length + 1) (fun k => rowQ A B k (if k < 0 then B.length else 0)) bs ++ H) 1 (some ⟨b, 0, none⟩) (rowQ A B i 0) := fun i b h => RowR.row (List.mem_append.2 (.inl (tabL_mem h)))
      have hra : RowR w0 m (tabL 3 (B.length + 1) (fun k => rowQ A B k (if k < 0 then B.length else 0)) bs ++ H) 1 aa (strs A) := ha.weak (fun w h => drops_app h)
      have hrb : RowR w0 m (tabL 3 (B.length + 1) (fun k => rowQ A B k (if k < 0 then B.length else 0)) bs ++ H) 1 ab (strs B) := hb.weak (fun w h => drops_app h)
      have hdrop : ∀ w i, Sat w0 m (i :: .row (some ⟨bo, 0, none⟩) q 51 1 E :: (tabL 3 (B.length + 1) (fun k => rowQ A B k (if k < 0 then B.length else 0)) bs ++ H)) w → Sat w0 m (i :: H) w := fun w i h => by
        have h2 := h.perm ((List.Perm.swap _ _ _).trans (List.Perm.cons _ (List.perm_middle (a := i)).symm))
        exact drops_app h2.drop
      generalize tabL 3 (B.length + 1) (fun k => rowQ A B k (if k < 0 then B.length else 0)) bs ++ H = Y at hrows hra hrb hdrop ⊢
      clear ha hb
      refine WC.newRow (T := 44) (sz := 2) ?_
      (try (refine st_D27_1 ?_; intros))
      refine WC.loopH [(11, .int .i64 ((0) : Int)), (10, .int .i64 ((0) : Int)), (9, .slice (none) ([]).length (0)), (5, .slice (some ⟨bo, 0, none⟩) q q), (0, .slice aa A.length ca), (1, .slice ab B.length cb)] ?_ ?_ (fun j r ds m' H' => ∃ (i : Nat) (k : Nat) (a : Option Addr) (cp : Nat) (L : List (Nat × Nat)), j = A.length - i ∧ r = [(11, .int .i64 (k : Int)), (10, .int .i64 (i : Int)), (9, .slice a L.length cp), (5, .slice (some ⟨bo, 0, none⟩) q q), (0, .slice aa A.length ca), (1, .slice ab B.length cb)] ∧ ds = [] ∧ m = m' ∧ H' = .row a cp 44 2 (L.map prE) :: .row (some ⟨bo, 0, none⟩) q 51 1 E :: Y ∧ (i ≤ A.length) ∧ (k ≤ B.length) ∧ (L.length ≤ i) ∧ (L ++ midL (A.drop i) (B.drop k) i k = midL A B 0 0)) (A.length - (0)) ⟨0, 0, none, 0, [], rfl, rfl, rfl, rfl, rfl, by omega, by omega, by simp, by simp⟩ ?_
      · (repeat (first | exact Env.Sub.nil | refine Env.Sub.cons rfl ?_))
      · exact zpk
      rintro j r ds m' H' ⟨i, k, a, cp, L, rfl, rfl, rfl, rfl, rfl, hi, hk, hLl, hL⟩
      obtain ⟨bi, hbi⟩ : ∃ b, bs[i]? = some b := ⟨_, List.getElem?_eq_getElem (by omega : i < bs.length)⟩
      have hE0 := hEg i bi hbi
      have hr0 := hrows i bi hbi
      have hr0' : RowR w0 m (.row a cp 44 2 (L.map prE) :: .row (some ⟨bo, 0, none⟩) q 51 1 E :: Y) 1 (some ⟨bi, 0, none⟩) (rowQ A B i 0) := hr0.more.more
      have hg0 := rowQ_get (A := A) (B := B) (i := i) (k := 0) (j := k) (by omega)
      rw [cut16_ge (Nat.zero_le _)] at hg0
      have hP0 := rowQ_length A B i 0
      by_cases hz : lcs (A.drop i) (B.drop k) = 0
      · rw [midL_zero hz, List.append_nil] at hL
        subst hL
        rw [hz] at hg0
        (try (refine st_D27_1 ?_; intros))
        exact q_fin0 (H0 := .row a cp 44 2 ((midL A B 0 0).map prE) :: H) ⟨rfl, a, cp, rfl, rfl⟩ (hd := fun w h => hdrop w _ h)
      · have hzl := (lcs_le (A.drop i) (B.drop k)).1
        rw [List.length_drop] at hzl
        have hpos : (0 : Int) < (lcs (A.drop i) (B.drop k) : Int) := by omega
        (try (refine st_D27_1 ?_; intros))
        refine WC.weak zsb zpk (long_x (L := L) (a := a) (cp := cp) (k := k) (i := i) (ca := ca) (cb := cb) (bo := bo) (bs := bs) hA hB hk hi (by omega) hN hEl hE0 (by omega) hEg hr0 hrows hra hrb ?_)
        intro x p hix hxA hkp hpB hmid
        rw [hmid] at hL
        have hLm : (L.map prE).length = L.length := List.length_map _
        have hsn : L.map prE ++ [[Value.int .i64 (x : Int), .int .i64 (p : Int)]] = (L ++ [(x, p)]).map prE := by simp [prE]
        generalize L.map prE = LE at *
        (refine st_D27_1 ?_; intros; rename_i b9 a2 cp2)
        rw [show ((x + 1 : Nat) : Int) - 1 = (x : Int) by omega, hsn, hLm, show (p : Int) + 1 = ((p + 1 : Nat) : Int) by omega, show L.length + 1 = (L ++ [(x, p)]).length by simp]
        refine WQ.next (A.length - (x + 1)) ⟨x + 1, p + 1, a2, cp2, L ++ [(x, p)], rfl, rfl, rfl, rfl, rfl, ?_, ?_, ?_, ?_⟩ (by omega) zsb zpk
        · omega
        · omega
        · rw [List.length_append, List.length_singleton]; omega
        · rw [List.append_assoc, List.singleton_append]; exact hL
    · obtain ⟨i', rfl⟩ : ∃ i', i = i' + 1 := ⟨i - 1, by omega⟩
      obtain ⟨x, hx⟩ : ∃ x, A[i']? = some x := ⟨_, List.getElem?_eq_getElem (by omega : i' < A.length)⟩
      obtain ⟨bi, hbi⟩ : ∃ b, bs[i']? = some b := ⟨_, List.getElem?_eq_getElem (by omega : i' < bs.length)⟩
      obtain ⟨b1, hb1⟩ : ∃ b, bs[i' + 1]? = some b := ⟨_, List.getElem?_eq_getElem (by omega : i' + 1 < bs.length)⟩
      obtain ⟨X, p1, p2, pX⟩ := tabL_out (T := 3) (c := B.length + 1) (F := fun k => rowQ A B k (if k < i' + 1 then B.length else 0)) (G := fun k => rowQ A B k (if k < i' then B.length else 0)) hbi (fun k hk => by
        show rowQ A B k _ = rowQ A B k _
        congr 1
        split <;> split <;> omega)
      have pX1 := pX (i' + 1) b1 (by omega) hb1
      simp only [if_neg (Nat.lt_irrefl _), if_pos (Nat.lt_succ_self _)] at p1 p2 pX1
      rw [show ((i' + 1 : Nat) : Int) - 1 = (i' : Int) by omega]
      have hE0 := hEg i' bi hbi
      have hE1 := hEg (i' + 1) b1 hb1
      refine WC.heap (H' := .row (some ⟨bi, 0, none⟩) (B.length + 1) 3 1 (rowQ A B i' B.length) :: .row (some ⟨bo, 0, none⟩) q 51 1 E :: (X ++ H)) (fun w h => h.perm ((List.Perm.cons _ (p1.append_right H)).trans (List.Perm.swap _ _ _))) ?_
      have hback : ∀ w, Sat w0 m (.row (some ⟨bi, 0, none⟩) (B.length + 1) 3 1 (rowQ A B i' 0) :: .row (some ⟨bo, 0, none⟩) q 51 1 E :: (X ++ H)) w → Sat w0 m (.row (some ⟨bo, 0, none⟩) q 51 1 E :: (tabL 3 (B.length + 1) (fun k => rowQ A B k (if k < i' then B.length else 0)) bs ++ H)) w :=
        fun w h => h.perm ((List.Perm.swap _ _ _).trans (List.Perm.cons _ (p2.append_right H).symm))
      have hr1 : RowR w0 m (X ++ H) 1 (some ⟨b1, 0, none⟩) (rowQ A B (i' + 1) 0) := RowR.row (List.mem_append.2 (.inl pX1))
      have hra : RowR w0 m (X ++ H) 1 aa (strs A) := ha.weak (fun w h => drops_app h)
      have hrb : RowR w0 m (X ++ H) 1 ab (strs B) := hb.weak (fun w h => drops_app h)
      clear pX pX1 p1 p2 hEg ha hb
      generalize X ++ H = Y at hback hr1 hra hrb ⊢
      (try (refine st_D27_1 ?_; intros))
      refine WC.weak zsb zpk (long_row (by omega) (by omega) hx hN hEl hE0 hE1 hr1 hra hrb ?_)
      (try (refine st_D27_1 ?_; intros))
      refine WQ.heapX hback ?_
      refine WQ.next (2 * (i')) ⟨i', rfl, rfl, rfl, rfl, rfl, ?_⟩ (by omega) zsb zpk
      · omega
end Go.Proofs.Ytieangfnjflfmaa

