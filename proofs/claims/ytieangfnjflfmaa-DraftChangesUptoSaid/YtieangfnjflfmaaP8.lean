/-
  Parts of a walk, joined: E1 E2 E4 E6 E8 E9a E10 ET19 ET26 D35 D36 D37 EL D43 DT13 EngMD D18 DT8 D19 EngAR D44. No condition.
-/
import Derived.Test.YtieangfnjflfmaaP4
import Derived.Test.YtieangfnjflfmaaP5
import Derived.Test.YtieangfnjflfmaaP7
import Derived.Test.YtieangfnjflfmaaProg
import Derived.Test.YtieangfnjflfmaaP6
set_option linter.all false
/-
  The walks of package edit, first part: the law's own copy of a change, the sizes of a change. No condition.
-/
namespace Go.Eng
def Stp.cs (s : Stp) : List Value := [.int .i64 s.k, str s.d, str s.p]
/-- how much of a change the law goes through -/
def refN : List Stp → Nat → Int → Bool
  | [], _, _ => true
  | s :: l, i, n =>
    let n' := n + ((s.d.length : Int) + (s.p.length : Int)) + (if 0 < s.k ∧ s.k ≤ 65536 then s.k / 8 else 0)
    if 5000 < n' ∨ 5000 < i then false else refN l (i + 1) n'
def smallOf (l : List Stp) : Bool := refN l 0 0
/-- of such size that no number grows too large -/
structure Fit (l : List Stp) : Prop where
  len : l.length ≤ 1048576
  k : ∀ s ∈ l, -9223372036854775808 ≤ s.k ∧ s.k ≤ 9223372036854775807
  d : ∀ s ∈ l, s.d.length ≤ 1048576
  p : ∀ s ∈ l, s.p.length ≤ 1048576
theorem sizesF_good {x : Stp} {l : List Stp} {f t : Int} (h1 : stpOk x) (h2 : x.k ≤ 65536) (h3 : f + x.k + x.d.length ≤ 65536) (h4 : t + x.k + x.p.length ≤ 65536) : sizesF (x :: l) f t = sizesF l (f + x.k + x.d.length) (t + x.k + x.p.length) := if_pos ⟨h1, h2, h3, h4⟩
theorem sizesF_bad {x : Stp} {l : List Stp} {f t : Int} (h : ¬ (stpOk x ∧ x.k ≤ 65536 ∧ f + x.k + x.d.length ≤ 65536 ∧ t + x.k + x.p.length ≤ 65536)) : sizesF (x :: l) f t = none := if_neg h
def szR : Option (Int × Int) → Value
  | some (a, b) => .tuple #[.int .i64 a, .int .i64 b, .bool true]
  | none => .tuple #[.int .i64 0, .int .i64 0, .bool false]
def szP : Option (Int × Int) → Value
  | some (a, b) => .tuple #[.int .i64 a, .int .i64 b, .int .i64 0]
  | none => .tuple #[.int .i64 0, .int .i64 0, .int .i64 2]
end Go.Eng
namespace Go.Proofs.Ytieangfnjflfmaa
open Go Go.Eng
set_option maxRecDepth 100000
set_option maxHeartbeats 4000000
set_option linter.all false
attribute [local irreducible] WL WC WQ QFun QLoop Does Q1 QRound QAssign Go.Addr.add
end Go.Proofs.Ytieangfnjflfmaa

/-
  The walks of package edit, second part: the sizes of a change, by the program and by the reference. No condition.
-/
namespace Go.Proofs.Ytieangfnjflfmaa
open Go Go.Eng
set_option maxRecDepth 100000
set_option maxHeartbeats 4000000
set_option linter.all false
attribute [local irreducible] WL WC WQ QFun QLoop Does Q1 QRound QAssign Go.Addr.add
attribute [local irreducible] sizesF sizesOf
theorem sizes_any {a : Option Addr} {cap : Nat} {l : List Stp} (hf : Fit l) (w0 : World) (m : Mem) (H : SHeap) (hr : RowR w0 m H 3 a (l.map Stp.cs)) :
    Does Try.prog 39 #[.slice a l.length cap] w0 m H (Gives (szP (sizesOf l)) m H) := by
  refine Does.of_body (args := [.slice a l.length cap]) Try.func39 rfl Try.ntmps39 rfl ?_
  have hln : (l.map Stp.cs).length = l.length := by simp
  have hlen := hf.len
  (try (refine st ?_; intros))
  refine WC.loopH [(12, .int .i64 ((0) : Int)), (11, .int .i64 (l.length : Int)), (10, .slice a l.length cap), (5, .int .i64 (0)), (6, .int .i64 (0))] ?_ ?_ (fun j r ds m' H' => ∃ (i : _) (f : Int) (t : Int), j = l.length - i ∧ r = [(12, .int .i64 (i : Int)), (11, .int .i64 (l.length : Int)), (10, .slice a l.length cap), (5, .int .i64 f), (6, .int .i64 t)] ∧ ds = [] ∧ m = m' ∧ H' = H ∧ (i ≤ l.length) ∧ (0 ≤ f ∧ f ≤ 65536 ∧ 0 ≤ t ∧ t ≤ 65536) ∧ (sizesF (l.drop i) f t = sizesOf l) ∧ (RowR w0 m H 3 a (l.map Stp.cs))) (l.length - (0)) ⟨0, 0, 0, rfl, rfl, rfl, rfl, rfl, by omega, by omega, by rw [sizesOf]; rfl, hr⟩ ?_
  · (repeat (first | exact Env.Sub.nil | refine Env.Sub.cons rfl ?_))
  · exact zpk
  rintro j r ds m' H' ⟨i, f, t, rfl, rfl, rfl, rfl, rfl, hi, hn, hs, hr⟩
  generalize H' = H at *
  by_cases hlt : i < l.length
  · obtain ⟨x, hx, hget, htk, hmem, hdr⟩ := at_idx (f := Stp.cs) hlt
    have hk := hf.k x hmem
    have hd := hf.d x hmem
    have hp := hf.p x hmem
    rw [hdr] at hs
    refine WC.rSome hr (by omega) ?_
    rintro a0 rfl
    have hdl : x.d = [] → x.d.length = 0 := fun h => by rw [h]; rfl
    have hpl : x.p = [] → x.p.length = 0 := fun h => by rw [h]; rfl
    by_cases h1 : x.k = 0 <;> by_cases h2 : x.d = [] <;> by_cases h3 : x.p = []
    · rw [sizesF_bad (fun h => by simp [stpOk, h1, h2, h3] at h)] at hs
      (try (refine st ?_; intros))
      exact q_fin0 (H0 := H) (Gives.mk (by rw [← hs]; try rfl)) (hd := zpk)
    · have hok : stpOk x := .inr (.inr ⟨h1, h2, h3⟩)
      have h2' := hdl h2
      by_cases h4 : t + (x.k + (x.p.length : Int)) ≤ 65536
      · rw [sizesF_good hok (by omega) (by omega) (by omega)] at hs
        (try (refine st ?_; intros))
        refine WQ.next (l.length - (i + 1)) ⟨i + 1, _, _, rfl, rfl, rfl, rfl, rfl, ?_, ?_, ?_, ?_⟩ (by omega) zsb zpk
        · omega
        · omega
        · rw [← hs]; congr 1 <;> omega
        · assumption
      · rw [sizesF_bad (by omega)] at hs
        (try (refine st ?_; intros))
        exact q_fin0 (H0 := H) (Gives.mk (by rw [← hs]; try rfl)) (hd := zpk)
    · have hok : stpOk x := .inr (.inl ⟨h1, h2, h3⟩)
      have h3' := hpl h3
      by_cases h4 : f + (x.k + (x.d.length : Int)) ≤ 65536
      · rw [sizesF_good hok (by omega) (by omega) (by omega)] at hs
        (try (refine st ?_; intros))
        refine WQ.next (l.length - (i + 1)) ⟨i + 1, _, _, rfl, rfl, rfl, rfl, rfl, ?_, ?_, ?_, ?_⟩ (by omega) zsb zpk
        · omega
        · omega
        · rw [← hs]; congr 1 <;> omega
        · assumption
      · rw [sizesF_bad (by omega)] at hs
        (try (refine st ?_; intros))
        exact q_fin0 (H0 := H) (Gives.mk (by rw [← hs]; try rfl)) (hd := zpk)
    · rw [sizesF_bad (fun h => by simp [stpOk, h1, h2, h3] at h)] at hs
      (try (refine st ?_; intros))
      exact q_fin0 (H0 := H) (Gives.mk (by rw [← hs]; try rfl)) (hd := zpk)
    · have h2' := hdl h2
      have h3' := hpl h3
      by_cases h5 : x.k < 0
      · rw [sizesF_bad (fun h => by rcases h.1 with g | g | g <;> omega)] at hs
        (try (refine st ?_; intros))
        exact q_fin0 (H0 := H) (Gives.mk (by rw [← hs]; try rfl)) (hd := zpk)
      · by_cases h6 : 65536 < x.k
        · rw [sizesF_bad (by omega)] at hs
          (try (refine st ?_; intros))
          exact q_fin0 (H0 := H) (Gives.mk (by rw [← hs]; try rfl)) (hd := zpk)
        · have hok : stpOk x := .inl ⟨by omega, h2, h3⟩
          by_cases h4 : f + (x.k + (x.d.length : Int)) ≤ 65536
          · by_cases h7 : t + (x.k + (x.p.length : Int)) ≤ 65536
            · rw [sizesF_good hok (by omega) (by omega) (by omega)] at hs
              (try (refine st ?_; intros))
              refine WQ.next (l.length - (i + 1)) ⟨i + 1, _, _, rfl, rfl, rfl, rfl, rfl, ?_, ?_, ?_, ?_⟩ (by omega) zsb zpk
              · omega
              · omega
              · rw [← hs]; congr 1 <;> omega
              · assumption
            · rw [sizesF_bad (by omega)] at hs
              (try (refine st ?_; intros))
              exact q_fin0 (H0 := H) (Gives.mk (by rw [← hs]; try rfl)) (hd := zpk)
          · rw [sizesF_bad (by omega)] at hs
            (try (refine st ?_; intros))
            exact q_fin0 (H0 := H) (Gives.mk (by rw [← hs]; try rfl)) (hd := zpk)
    all_goals
      rw [sizesF_bad (fun h => by simp [stpOk, h1, h2, h3] at h)] at hs
      (try (refine st ?_; intros))
      exact q_fin0 (H0 := H) (Gives.mk (by rw [← hs]; try rfl)) (hd := zpk)
  · obtain rfl : i = l.length := by omega
    rw [List.drop_length, sizesF] at hs
    (try (refine st ?_; intros))
    exact q_fin0 (H0 := H) (Gives.mk (by rw [← hs]; try rfl)) (hd := zpk)
end Go.Proofs.Ytieangfnjflfmaa

/-
  The walks of package edit, fourth part: the builder's close. No condition.
-/
namespace Go.Proofs.Ytieangfnjflfmaa
open Go Go.Eng
set_option maxRecDepth 100000
set_option maxHeartbeats 4000000
set_option linter.all false
attribute [local irreducible] WL WC WQ QFun QLoop Does Q1 QRound QAssign Go.Addr.add
theorem close_any {b : Nat} {c : Option Addr} {cp : Nat} (B : Bld) (hB : B.l.length ≤ 1000000000000) (w0 : World) (m : Mem) (H : SHeap) :
    Does Try.prog 60 #[.pointer (some ⟨b, 0, none⟩)] w0 m (.blk b (.cells [.slice c B.l.length cp, str B.p, str B.d].toArray 96 (0, 0)) :: .row c cp 55 3 (B.l.map Stp.cs) :: H)
      (fun v m' H' => v = .tuple #[] ∧ m' = m ∧ ∃ c' cp', H' = .blk b (.cells [.slice c' B.close.l.length cp', str [], str []].toArray 96 (0, 0)) :: .row c' cp' 55 3 (B.close.l.map Stp.cs) :: H) := by
  refine Does.of_body (args := [.pointer (some ⟨b, 0, none⟩)]) Try.func60 rfl Try.ntmps60 rfl ?_
  have hml : (B.l.map Stp.cs).length = B.l.length := by simp
  by_cases hp : B.p = [] <;> by_cases hd : B.d = []
  · (try (refine st ?_; intros))
    have e : B.close.l = B.l := by simp [Bld.close, hp, hd]
    rw [hp, hd]
    exact q_finNorm0 (H0 := .blk b (.cells [.slice c B.l.length cp, str [], str []].toArray 96 (0, 0)) :: .row c cp 55 3 (B.l.map Stp.cs) :: H) ⟨rfl, rfl, c, cp, by rw [e]⟩ (hd := zpk)
  · (try (refine st ?_; intros))
    refine WC.drawE 14 ([.blk b (.cells [.slice c B.l.length cp, str B.p, str B.d].toArray 96 (0, 0))]) (.row c cp 55 3 (B.l.map Stp.cs) :: H) rfl (by decide +kernel) zpk ?_
    (refine cm0 ?_)
    refine WE.act1 10 (by decide +kernel) rfl rfl (fun c h => by cases h) ?_
    (refine st ?_; intros; rename_i q0)
    refine WQ.acted (B := []) (U := .blk q0 (.cells [.int .i64 0, str B.d, str []].toArray 55 (0, 0)) :: .row c cp 55 3 (B.l.map Stp.cs) :: H) rfl (Mem.le.refl _) zpk ?_
    refine WE.act1 11 (by decide +kernel) rfl rfl (fun c h => by cases h) ?_
    (refine st ?_; intros; rename_i c2 cp2)
    refine WQ.acted (B := []) (U := .row c2 cp2 55 3 (B.l.map Stp.cs ++ [[.int .i64 0, str B.d, str []]]) :: H) rfl (Mem.le.refl _) zpk ?_
    (refine cm0 ?_)
    refine WE.done (by decide +kernel) ?_
    (try (refine st ?_; intros))
    rw [hml, hp]
    have e : B.close.l = B.l ++ [⟨0, B.d, []⟩] := by simp [Bld.close, hp, hd]
    exact q_finNorm0 (H0 := .blk b (.cells [.slice c2 (B.l.length + 1) cp2, str [], str []].toArray 96 (0, 0)) :: .row c2 cp2 55 3 (B.l.map Stp.cs ++ [[.int .i64 0, str B.d, str []]]) :: H) ⟨rfl, rfl, c2, cp2, by rw [e]; simp [Stp.cs]⟩ (hd := zpk)
  · (try (refine st ?_; intros))
    refine WC.drawE 14 ([.blk b (.cells [.slice c B.l.length cp, str B.p, str B.d].toArray 96 (0, 0))]) (.row c cp 55 3 (B.l.map Stp.cs) :: H) rfl (by decide +kernel) zpk ?_
    (refine cm0 ?_)
    refine WE.act1 10 (by decide +kernel) rfl rfl (fun c h => by cases h) ?_
    (refine st ?_; intros; rename_i q0)
    refine WQ.acted (B := []) (U := .blk q0 (.cells [.int .i64 0, str [], str B.p].toArray 55 (0, 0)) :: .row c cp 55 3 (B.l.map Stp.cs) :: H) rfl (Mem.le.refl _) zpk ?_
    refine WE.act1 11 (by decide +kernel) rfl rfl (fun c h => by cases h) ?_
    (refine st ?_; intros; rename_i c2 cp2)
    refine WQ.acted (B := []) (U := .row c2 cp2 55 3 (B.l.map Stp.cs ++ [[.int .i64 0, str [], str B.p]]) :: H) rfl (Mem.le.refl _) zpk ?_
    (refine cm0 ?_)
    refine WE.done (by decide +kernel) ?_
    (try (refine st ?_; intros))
    rw [hml, hd]
    have e : B.close.l = B.l ++ [⟨0, [], B.p⟩] := by simp [Bld.close, hp, hd]
    exact q_finNorm0 (H0 := .blk b (.cells [.slice c2 (B.l.length + 1) cp2, str [], str []].toArray 96 (0, 0)) :: .row c2 cp2 55 3 (B.l.map Stp.cs ++ [[.int .i64 0, str [], str B.p]]) :: H) ⟨rfl, rfl, c2, cp2, by rw [e]; simp [Stp.cs]⟩ (hd := zpk)
  · have hml1 : (B.l.map Stp.cs ++ [[.int .i64 0, str [], str B.p]]).length = B.l.length + 1 := by simp
    (try (refine st ?_; intros))
    refine WC.drawE 14 ([.blk b (.cells [.slice c B.l.length cp, str B.p, str B.d].toArray 96 (0, 0))]) (.row c cp 55 3 (B.l.map Stp.cs) :: H) rfl (by decide +kernel) zpk ?_
    (refine cm0 ?_)
    refine WE.act1 10 (by decide +kernel) rfl rfl (fun c h => by cases h) ?_
    (refine st ?_; intros; rename_i q0)
    refine WQ.acted (B := []) (U := .blk q0 (.cells [.int .i64 0, str [], str B.p].toArray 55 (0, 0)) :: .row c cp 55 3 (B.l.map Stp.cs) :: H) rfl (Mem.le.refl _) zpk ?_
    refine WE.act1 11 (by decide +kernel) rfl rfl (fun c h => by cases h) ?_
    (refine st ?_; intros; rename_i c2 cp2)
    refine WQ.acted (B := []) (U := .row c2 cp2 55 3 (B.l.map Stp.cs ++ [[.int .i64 0, str [], str B.p]]) :: H) rfl (Mem.le.refl _) zpk ?_
    (refine cm0 ?_)
    refine WE.done (by decide +kernel) ?_
    (try (refine st ?_; intros))
    rw [hml]
    refine WC.drawE 14 ([.blk b (.cells [.slice c2 (B.l.length + 1) cp2, str B.p, str B.d].toArray 96 (0, 0))]) (.row c2 cp2 55 3 (B.l.map Stp.cs ++ [[.int .i64 0, str [], str B.p]]) :: H) rfl (by decide +kernel) zpk ?_
    (refine cm0 ?_)
    refine WE.act1 10 (by decide +kernel) rfl rfl (fun c h => by cases h) ?_
    (refine st ?_; intros; rename_i q0)
    refine WQ.acted (B := []) (U := .blk q0 (.cells [.int .i64 0, str B.d, str []].toArray 55 (0, 0)) :: .row c2 cp2 55 3 (B.l.map Stp.cs ++ [[.int .i64 0, str [], str B.p]]) :: H) rfl (Mem.le.refl _) zpk ?_
    refine WE.act1 11 (by decide +kernel) rfl rfl (fun c h => by cases h) ?_
    (refine st ?_; intros; rename_i c3 cp3)
    refine WQ.acted (B := []) (U := .row c3 cp3 55 3 (B.l.map Stp.cs ++ [[.int .i64 0, str [], str B.p]] ++ [[.int .i64 0, str B.d, str []]]) :: H) rfl (Mem.le.refl _) zpk ?_
    (refine cm0 ?_)
    refine WE.done (by decide +kernel) ?_
    (try (refine st ?_; intros))
    rw [hml1]
    have e : B.close.l = B.l ++ [⟨0, [], B.p⟩] ++ [⟨0, B.d, []⟩] := by simp [Bld.close, hp, hd]
    exact q_finNorm0 (H0 := .blk b (.cells [.slice c3 (B.l.length + 1 + 1) cp3, str [], str []].toArray 96 (0, 0)) :: .row c3 cp3 55 3 (B.l.map Stp.cs ++ [[.int .i64 0, str [], str B.p]] ++ [[.int .i64 0, str B.d, str []]]) :: H) ⟨rfl, rfl, c3, cp3, by rw [e]; simp [Stp.cs]⟩ (hd := zpk)
end Go.Proofs.Ytieangfnjflfmaa

/-
  The walks of package edit, sixth part: the builder's keep, step and done. No condition.
-/
namespace Go.Proofs.Ytieangfnjflfmaa
open Go Go.Eng
set_option maxRecDepth 100000
set_option maxHeartbeats 4000000
set_option linter.all false
attribute [local irreducible] WL WC WQ QFun QLoop Does Q1 QRound QAssign Go.Addr.add
theorem keep_any {b : Nat} {c : Option Addr} {cp : Nat} (B : Bld) (n : Nat) (hn : n ≤ 100000000000) (hB : BFit 100000000000 B) (w0 : World) (m : Mem) (H : SHeap) :
    Does Try.prog 59 #[.pointer (some ⟨b, 0, none⟩), .int .i64 (n : Int)] w0 m (.blk b (.cells [.slice c B.l.length cp, str B.p, str B.d].toArray 96 (0, 0)) :: .row c cp 55 3 (B.l.map Stp.cs) :: H)
      (fun v m' H' => v = .tuple #[] ∧ m' = m ∧ ∃ c' cp', H' = .blk b (.cells [.slice c' (B.keep n).l.length cp', str (B.keep n).p, str (B.keep n).d].toArray 96 (0, 0)) :: .row c' cp' 55 3 ((B.keep n).l.map Stp.cs) :: H) := by
  refine Does.of_body (args := [.pointer (some ⟨b, 0, none⟩), .int .i64 (n : Int)]) Try.func59 rfl Try.ntmps59 rfl ?_
  have hlen := hB.len
  by_cases h0 : n = 0
  · subst h0
    (try (refine st ?_; intros))
    exact q_fin0 (H0 := .blk b (.cells [.slice c B.l.length cp, str B.p, str B.d].toArray 96 (0, 0)) :: .row c cp 55 3 (B.l.map Stp.cs) :: H) ⟨rfl, rfl, c, cp, rfl⟩ (hd := zpk)
  · (try (refine st ?_; intros))
    refine w_callF Try.func60 ?_ (hs := close_any B (by omega) _ _ _)
    rintro v m1 H1 ⟨rfl, rfl, c1, cp1, rfl⟩
    have hkeep : B.keep n = ⟨addKeep B.close.l n, [], []⟩ := by unfold Bld.keep; rw [if_neg (by omega)]
    have hc := hB.close
    rw [hkeep]
    have hcl := hc.len
    have hck := hc.k
    generalize B.close.l = L at *
    have hml : (L.map Stp.cs).length = L.length := by simp
    rcases snoc_cases L with hL | ⟨ys, s, hL⟩
    · have hl0 : L.length = 0 := by rw [hL]; rfl
      (refine st ?_; intros; rename_i x2 c2 cp2)
      rw [hml]
      have e : addKeep L n = L ++ [⟨n, [], []⟩] := by rw [hL]; rfl
      exact q_finNorm0 (H0 := .blk b (.cells [.slice c2 (L.length + 1) cp2, str [], str []].toArray 96 (0, 0)) :: .row c2 cp2 55 3 (L.map Stp.cs ++ [[.int .i64 n, str [], str []]]) :: H) ⟨rfl, rfl, c2, cp2, by rw [e]; simp [Stp.cs]⟩ (hd := zpk)
    · have hl1 : L.length = ys.length + 1 := by rw [hL]; simp
      have hget : (L.map Stp.cs)[L.length - 1]? = some s.cs := by rw [hL]; simp
      have hsk := hck s (by rw [hL]; simp)
      refine WL.rowSome (a := c1) zhs (by omega) ?_
      rintro c0 rfl
      by_cases hs : 0 < s.k
      · (try (refine st ?_; intros))
        have e : (addKeep L n).length = L.length ∧ (addKeep L n).map Stp.cs = (L.map Stp.cs).set (L.length - 1) [.int .i64 (s.k + n), str s.d, str s.p] := by
          rw [hL]; constructor <;> simp [addKeep, hs, Stp.cs]
        exact q_fin0 (H0 := .blk b (.cells [.slice (some c0) L.length cp1, str [], str []].toArray 96 (0, 0)) :: .row (some c0) cp1 55 3 ((L.map Stp.cs).set (L.length - 1) [.int .i64 (s.k + n), str s.d, str s.p]) :: H) ⟨rfl, rfl, some c0, cp1, by rw [e.1, e.2]⟩ (hd := zpk)
      · (refine st ?_; intros; rename_i x2 c2 cp2)
        rw [hml]
        have e : addKeep L n = L ++ [⟨n, [], []⟩] := by rw [hL]; simp [addKeep, hs]
        exact q_finNorm0 (H0 := .blk b (.cells [.slice c2 (L.length + 1) cp2, str [], str []].toArray 96 (0, 0)) :: .row c2 cp2 55 3 (L.map Stp.cs ++ [[.int .i64 n, str [], str []]]) :: H) ⟨rfl, rfl, c2, cp2, by rw [e]; simp [Stp.cs]⟩ (hd := zpk)
end Go.Proofs.Ytieangfnjflfmaa

/-
  The walks of package edit, eighth part: the builder's step and done, the one form of a change. No condition.
-/
namespace Go.Eng
def Stp.v (s : Stp) : Value := .agg #[.int .i64 s.k, str s.d, str s.p]
end Go.Eng
namespace Go.Proofs.Ytieangfnjflfmaa
open Go Go.Eng
set_option maxRecDepth 100000
set_option maxHeartbeats 4000000
set_option linter.all false
attribute [local irreducible] WL WC WQ QFun QLoop Does Q1 QRound QAssign Go.Addr.add
theorem step_any {b : Nat} {c : Option Addr} {cp : Nat} (B : Bld) (s : Stp) (hk : s.k ≤ 100000000000) (hd : s.d.length ≤ 100000000000) (hp : s.p.length ≤ 100000000000) (hB : BFit 100000000000 B) (w0 : World) (m : Mem) (H : SHeap) :
    Does Try.prog 40 #[.pointer (some ⟨b, 0, none⟩), s.v] w0 m (.blk b (.cells [.slice c B.l.length cp, str B.p, str B.d].toArray 96 (0, 0)) :: .row c cp 55 3 (B.l.map Stp.cs) :: H)
      (fun v m' H' => v = .tuple #[] ∧ m' = m ∧ ∃ c' cp', H' = .blk b (.cells [.slice c' (B.step s).l.length cp', str (B.step s).p, str (B.step s).d].toArray 96 (0, 0)) :: .row c' cp' 55 3 ((B.step s).l.map Stp.cs) :: H) := by
  refine Does.of_body (args := [.pointer (some ⟨b, 0, none⟩), .agg #[.int .i64 s.k, str s.d, str s.p]]) Try.func40 rfl Try.ntmps40 rfl ?_
  have h1 := hB.p
  have h2 := hB.d
  by_cases h0 : 0 < s.k
  · obtain ⟨n, hn⟩ : ∃ n : Nat, s.k = (n : Int) := ⟨s.k.toNat, by omega⟩
    have e : B.step s = B.keep n := by unfold Bld.step; rw [if_pos h0, hn]
    rw [e, hn]
    have h0' : 0 < (n : Int) := by omega
    (refine st ?_; intros; rename_i b3)
    refine WL.heap (H' := .blk b (.cells [.slice c B.l.length cp, str B.p, str B.d].toArray 96 (0, 0)) :: .row c cp 55 3 (B.l.map Stp.cs) :: H) zpk ?_
    refine w_callF Try.func59 ?_ (hs := keep_any B n (by omega) hB _ _ _)
    rintro v m1 H1 ⟨rfl, rfl, c1, cp1, rfl⟩
    (try (refine st ?_; intros))
    exact q_finNorm0 (H0 := _ :: _ :: H) ⟨rfl, rfl, c1, cp1, rfl⟩ (hd := zpk)
  · by_cases h3 : s.d = []
    · have e : B.step s = ⟨B.l, B.p ++ s.p, B.d⟩ := by unfold Bld.step; rw [if_neg h0, if_neg (fun h => h h3)]
      rw [e]
      (try (refine st ?_; intros))
      exact q_finNorm0 (H0 := .blk b (.cells [.slice c B.l.length cp, str (B.p ++ s.p), str B.d].toArray 96 (0, 0)) :: .row c cp 55 3 (B.l.map Stp.cs) :: H) ⟨rfl, rfl, c, cp, rfl⟩ (hd := zpk)
    · have e : B.step s = ⟨B.l, B.p, B.d ++ s.d⟩ := by unfold Bld.step; rw [if_neg h0, if_pos h3]
      rw [e]
      (try (refine st ?_; intros))
      exact q_finNorm0 (H0 := .blk b (.cells [.slice c B.l.length cp, str B.p, str (B.d ++ s.d)].toArray 96 (0, 0)) :: .row c cp 55 3 (B.l.map Stp.cs) :: H) ⟨rfl, rfl, c, cp, rfl⟩ (hd := zpk)
theorem done_any {b : Nat} {c : Option Addr} {cp : Nat} (B : Bld) (hB : B.l.length ≤ 1000000000000) (w0 : World) (m : Mem) (H : SHeap) :
    Does Try.prog 41 #[.pointer (some ⟨b, 0, none⟩)] w0 m (.blk b (.cells [.slice c B.l.length cp, str B.p, str B.d].toArray 96 (0, 0)) :: .row c cp 55 3 (B.l.map Stp.cs) :: H)
      (fun v m' H' => m' = m ∧ ∃ c' cp', v = .slice c' B.close.l.length cp' ∧ H' = .row c' cp' 55 3 (B.close.l.map Stp.cs) :: H) := by
  refine Does.of_body (args := [.pointer (some ⟨b, 0, none⟩)]) Try.func41 rfl Try.ntmps41 rfl ?_
  (try (refine st ?_; intros))
  refine w_callF Try.func60 ?_ (hs := close_any B hB _ _ _)
  rintro v m1 H1 ⟨rfl, rfl, c1, cp1, rfl⟩
  (try (refine st ?_; intros))
  exact q_fin0 (H0 := .row c1 cp1 55 3 (B.close.l.map Stp.cs) :: H) ⟨rfl, c1, cp1, rfl, rfl⟩ (hd := zpk)
theorem plain_any {a : Option Addr} {cap : Nat} {l : List Stp} (hok : ∀ s ∈ l, stpOk s) (hl : (atomsOf l).length ≤ 1000000000) (w0 : World) (m : Mem) (H : SHeap) (hr : RowR w0 m H 3 a (l.map Stp.cs)) :
    Does Try.prog 67 #[.slice a l.length cap] w0 m H (fun v m' H' => m' = m ∧ ∃ c' cp', v = .slice c' (plainOf l).length cp' ∧ H' = .row c' cp' 55 3 ((plainOf l).map Stp.cs) :: H) := by
  refine Does.of_body (args := [.slice a l.length cap]) Try.func67 rfl Try.ntmps67 rfl ?_
  have hln : (l.map Stp.cs).length = l.length := by simp
  have hlen := steps_le l hok
  (refine st ?_; intros; rename_i b)
  refine WC.newRow (T := 55) (sz := 3) ?_
  refine WC.loopH [(8, .int .i64 ((0) : Int)), (7, .int .i64 (l.length : Int)), (6, .slice a l.length cap), (3, .pointer (some ⟨b, 0, none⟩))] ?_ ?_ (fun j r ds m' H' => ∃ i c cp B, j = l.length - i ∧ r = [(8, .int .i64 (i : Int)), (7, .int .i64 (l.length : Int)), (6, .slice a l.length cap), (3, .pointer (some ⟨b, 0, none⟩))] ∧ ds = [] ∧ m = m' ∧ H' = .blk b (.cells [.slice c B.l.length cp, str B.p, str B.d].toArray 96 (0, 0)) :: .row c cp 55 3 (B.l.map Stp.cs) :: H ∧ (i ≤ l.length) ∧ (B = Bld.start.run (atomsOf (l.take i)))) (l.length - (0)) ⟨0, none, 0, Bld.start, rfl, rfl, rfl, rfl, rfl, by omega, by simp [atomsOf, Bld.run]⟩ ?_
  · (repeat (first | exact Env.Sub.nil | refine Env.Sub.cons rfl ?_))
  · exact zpk
  rintro j r ds m' H' ⟨i, c, cp, B, rfl, rfl, rfl, rfl, rfl, hi, hB⟩
  have htl : (atomsOf (l.take i)).length ≤ (atomsOf l).length := by
    have e : atomsOf l = atomsOf (l.take i) ++ atomsOf (l.drop i) := by rw [← atoms_append, List.take_append_drop]
    rw [e]; simp
  have hfit : BFit 10000000000 B := by rw [hB]; exact (BFit.runs _).mono (by omega)
  by_cases hlt : i < l.length
  · obtain ⟨x, hx, hget, htk, hmem, hdr⟩ := at_idx (f := Stp.cs) hlt
    have hr1 := (hr.more (i := .row c cp 55 3 (B.l.map Stp.cs))).more (i := .blk b (.cells [.slice c B.l.length cp, str B.p, str B.d].toArray 96 (0, 0)))
    have hxl : x.atoms.length ≤ (atomsOf l).length := by
      have e : atomsOf l = atomsOf (l.take (i + 1)) ++ atomsOf (l.drop (i + 1)) := by rw [← atoms_append, List.take_append_drop]
      rw [e, htk, atoms_append, atoms_one]; simp only [List.length_append]; omega
    rw [atoms_len] at hxl
    refine WC.rSome hr1 (by omega) ?_
    rintro a0 rfl
    (refine st ?_; intros; rename_i bx)
    refine WL.heap (H' := .blk b (.cells [.slice c B.l.length cp, str B.p, str B.d].toArray 96 (0, 0)) :: .row c cp 55 3 (B.l.map Stp.cs) :: H) zpk ?_
    refine w_callF Try.func40 ?_ (hs := step_any B x (by omega) (by omega) (by omega) (hfit.mono (by omega)) _ _ _)
    rintro v m1 H1 ⟨rfl, rfl, c1, cp1, rfl⟩
    (try (refine st ?_; intros))
    refine WQ.next (l.length - (i + 1)) ⟨i + 1, c1, cp1, B.step x, rfl, rfl, rfl, rfl, rfl, ?_, ?_⟩ (by omega) zsb zpk
    · omega
    · rw [htk, atoms_append, run_append, ← hB, atoms_one, run_step _ _ (hok x hmem)]
  · obtain rfl : i = l.length := by omega
    have hlen2 := hfit.len
    (try (refine st ?_; intros))
    refine w_callF Try.func41 ?_ (hs := done_any B (by omega) _ _ _)
    rintro v m1 H1 ⟨rfl, c1, cp1, rfl, rfl⟩
    (try (refine st ?_; intros))
    have e : B.close.l = plainOf l := by
      rw [hB, List.take_length, plainOf]
      have : ∀ (l : List Stp) (b : Bld), (∀ s ∈ l, stpOk s) → b.run (atomsOf l) = l.foldl Bld.step b := by
        intro l
        induction l with
        | nil => intro b _; rfl
        | cons s l ih => intro b h; rw [atoms_cons, run_append, run_step _ _ (h s List.mem_cons_self), ih _ (fun x hx => h x (List.mem_cons_of_mem _ hx)), List.foldl_cons]
      rw [this l _ hok]
    rw [e]
    exact q_fin0 (H0 := .row c1 cp1 55 3 ((plainOf l).map Stp.cs) :: H) ⟨rfl, c1, cp1, rfl, rfl⟩ (hd := zpk)
end Go.Proofs.Ytieangfnjflfmaa

/-
  What a change that may be bounds; the walk of edit.move. No condition.
-/
namespace Go.Eng
/-- what a change that may be bounds -/
theorem sized {l : List Stp} {f t : Int} (h : sizesOf l = some (f, t)) : (∀ s ∈ l, stpOk s) ∧ (atomsOf l).length ≤ 131072 ∧ (atomsOf (plainOf l)).length ≤ 131072 ∧ f = (fromA (atomsOf l) : Int) ∧ t = (toA (atomsOf l) : Int) ∧ 0 ≤ f ∧ f ≤ 65536 ∧ 0 ≤ t ∧ t ≤ 65536 := by
  obtain ⟨h1, h2, h3, h4, h5⟩ := sizesOf_some h
  have hok : ∀ s ∈ l, stpOk s := fun s hs => (h1 s hs).1
  have a1 := atoms_le (atomsOf l)
  have a2 := atoms_le (atomsOf (plainOf l))
  obtain ⟨n1, n2⟩ := nf_sizes l hok
  rw [plain_atoms, n1, n2] at a2
  unfold maxT at h4 h5
  rw [plain_atoms]
  exact ⟨hok, by omega, by omega, h2, h3, by omega, by omega, by omega, by omega⟩
end Go.Eng
namespace Go.Proofs.Ytieangfnjflfmaa
open Go Go.Eng
set_option maxRecDepth 100000
set_option maxHeartbeats 4000000
set_option linter.all false
attribute [local irreducible] WL WC WQ QFun QLoop Does Q1 QRound QAssign Go.Addr.add
end Go.Proofs.Ytieangfnjflfmaa

/-
  The walks of package edit, tenth part: what a change makes of a text; the law's example. No condition.
-/
namespace Go.Eng
open Go Go.RowKit
theorem RowR.blk {w0 : World} {m : Mem} {H : SHeap} {b sz : Nat} {T : TypeId} {fz : Nat × Nat} {es : List (List Value)} {L : List Value} (hm : Item.blk b (.cells L.toArray T fz) ∈ H) (h1 : ∀ e ∈ es, e.length = sz) (hL : es.flatten = L) : RowR w0 m H sz (.some ⟨b, 0, .none⟩) es := by
  subst hL
  intro w hs
  refine ⟨h1, fun j v hj => ?_⟩
  rw [add_none]
  exact Cell.blk hm (by simpa using hj) w hs
def bV (b : UInt8) : List Value := [.int .u8 (b.toNat : Int)]
def applyV (s : List UInt8) (l : List Stp) : Value := match sizesOf l with
  | none => .tuple #[str [], .int .i64 2]
  | some (f, _) => if f ≠ s.length then .tuple #[str [], .int .i64 5] else match applyA s (atomsOf l) with
    | none => .tuple #[str [], .int .i64 270]
    | some o => .tuple #[str o, .int .i64 0]
end Go.Eng
namespace Go.Proofs.Ytieangfnjflfmaa
open Go Go.Eng
set_option maxRecDepth 100000
set_option maxHeartbeats 4000000
set_option linter.all false
attribute [local irreducible] WL WC WQ QFun QLoop Does Q1 QRound QAssign Go.Addr.add
attribute [local irreducible] applyA sizesF sizesOf
theorem sq_E10_1 {G : Prop} (h : G := by (repeat (first | (refine sp ?_; (repeat intro zzc)) | (refine iF 39 rfl ?_; refine w_callG Try.func39 ?_ (hs := sizes_any (by assumption) _ _ _ (by assumption))))); exact WQ.q1 rfl) : G := h
theorem st_E10_1 {G G' : Prop} (next : G') (h : Bx G' → G := by intro zzn; (first | ((refine st ?_; (repeat intro zzc)); (try ((first | (refine iF 39 rfl ?_; refine w_callG Try.func39 ?_ (hs := sizes_any (by assumption) _ _ _ (by assumption))) | ((refine iDraw ?_; (first | refine WC.drawAll rfl (by decide +kernel) ?_ | refine WC.draw 1 rfl (by decide +kernel) ?_ | refine WC.draw 2 rfl (by decide +kernel) ?_ | refine WC.draw 3 rfl (by decide +kernel) ?_ | refine WC.draw 4 rfl (by decide +kernel) ?_ | refine WC.draw 5 rfl (by decide +kernel) ?_ | refine WC.draw 6 rfl (by decide +kernel) ?_ | refine WC.draw 7 rfl (by decide +kernel) ?_ | refine WC.draw 8 rfl (by decide +kernel) ?_ | refine WC.draw 9 rfl (by decide +kernel) ?_ | refine WC.draw 10 rfl (by decide +kernel) ?_ | refine WC.draw 11 rfl (by decide +kernel) ?_ | refine WC.draw 12 rfl (by decide +kernel) ?_ | refine WC.draw 13 rfl (by decide +kernel) ?_ | refine WC.draw 14 rfl (by decide +kernel) ?_ | refine WC.draw 15 rfl (by decide +kernel) ?_ | refine WC.draw 16 rfl (by decide +kernel) ?_ | refine WC.draw 17 rfl (by decide +kernel) ?_ | refine WC.draw 18 rfl (by decide +kernel) ?_ | refine WC.draw 19 rfl (by decide +kernel) ?_ | refine WC.draw 20 rfl (by decide +kernel) ?_ | refine WC.draw 21 rfl (by decide +kernel) ?_ | refine WC.draw 22 rfl (by decide +kernel) ?_ | refine WC.draw 23 rfl (by decide +kernel) ?_ | refine WC.draw 24 rfl (by decide +kernel) ?_)); (repeat (refine WD.cons rfl (fun c h => by cases h) sq_E10_1 ?_)); refine WD.nil ?_)); (try (refine st ?_; (repeat intro zzc)))))) | ((first | (refine iF 39 rfl ?_; refine w_callG Try.func39 ?_ (hs := sizes_any (by assumption) _ _ _ (by assumption))) | ((refine iDraw ?_; (first | refine WC.drawAll rfl (by decide +kernel) ?_ | refine WC.draw 1 rfl (by decide +kernel) ?_ | refine WC.draw 2 rfl (by decide +kernel) ?_ | refine WC.draw 3 rfl (by decide +kernel) ?_ | refine WC.draw 4 rfl (by decide +kernel) ?_ | refine WC.draw 5 rfl (by decide +kernel) ?_ | refine WC.draw 6 rfl (by decide +kernel) ?_ | refine WC.draw 7 rfl (by decide +kernel) ?_ | refine WC.draw 8 rfl (by decide +kernel) ?_ | refine WC.draw 9 rfl (by decide +kernel) ?_ | refine WC.draw 10 rfl (by decide +kernel) ?_ | refine WC.draw 11 rfl (by decide +kernel) ?_ | refine WC.draw 12 rfl (by decide +kernel) ?_ | refine WC.draw 13 rfl (by decide +kernel) ?_ | refine WC.draw 14 rfl (by decide +kernel) ?_ | refine WC.draw 15 rfl (by decide +kernel) ?_ | refine WC.draw 16 rfl (by decide +kernel) ?_ | refine WC.draw 17 rfl (by decide +kernel) ?_ | refine WC.draw 18 rfl (by decide +kernel) ?_ | refine WC.draw 19 rfl (by decide +kernel) ?_ | refine WC.draw 20 rfl (by decide +kernel) ?_ | refine WC.draw 21 rfl (by decide +kernel) ?_ | refine WC.draw 22 rfl (by decide +kernel) ?_ | refine WC.draw 23 rfl (by decide +kernel) ?_ | refine WC.draw 24 rfl (by decide +kernel) ?_)); (repeat (refine WD.cons rfl (fun c h => by cases h) sq_E10_1 ?_)); refine WD.nil ?_)); (try (refine st ?_; (repeat intro zzc))))); (repeat ((first | (refine iF 39 rfl ?_; refine w_callG Try.func39 ?_ (hs := sizes_any (by assumption) _ _ _ (by assumption))) | ((refine iDraw ?_; (first | refine WC.drawAll rfl (by decide +kernel) ?_ | refine WC.draw 1 rfl (by decide +kernel) ?_ | refine WC.draw 2 rfl (by decide +kernel) ?_ | refine WC.draw 3 rfl (by decide +kernel) ?_ | refine WC.draw 4 rfl (by decide +kernel) ?_ | refine WC.draw 5 rfl (by decide +kernel) ?_ | refine WC.draw 6 rfl (by decide +kernel) ?_ | refine WC.draw 7 rfl (by decide +kernel) ?_ | refine WC.draw 8 rfl (by decide +kernel) ?_ | refine WC.draw 9 rfl (by decide +kernel) ?_ | refine WC.draw 10 rfl (by decide +kernel) ?_ | refine WC.draw 11 rfl (by decide +kernel) ?_ | refine WC.draw 12 rfl (by decide +kernel) ?_ | refine WC.draw 13 rfl (by decide +kernel) ?_ | refine WC.draw 14 rfl (by decide +kernel) ?_ | refine WC.draw 15 rfl (by decide +kernel) ?_ | refine WC.draw 16 rfl (by decide +kernel) ?_ | refine WC.draw 17 rfl (by decide +kernel) ?_ | refine WC.draw 18 rfl (by decide +kernel) ?_ | refine WC.draw 19 rfl (by decide +kernel) ?_ | refine WC.draw 20 rfl (by decide +kernel) ?_ | refine WC.draw 21 rfl (by decide +kernel) ?_ | refine WC.draw 22 rfl (by decide +kernel) ?_ | refine WC.draw 23 rfl (by decide +kernel) ?_ | refine WC.draw 24 rfl (by decide +kernel) ?_)); (repeat (refine WD.cons rfl (fun c h => by cases h) sq_E10_1 ?_)); refine WD.nil ?_)); (try (refine st ?_; (repeat intro zzc))))); (repeat revert zzc); exact zzn.out) : G := h ⟨next⟩
theorem apply_any {a : Option Addr} {cap : Nat} {l : List Stp} {s : List UInt8} (hf : Fit l) (hsl : s.length ≤ 1000000000) (w0 : World) (m : Mem) (H : SHeap) (hr : RowR w0 m H 3 a (l.map Stp.cs)) :
    Does Try.prog 19 #[str s, .slice a l.length cap] w0 m H (Gives (applyV s l) m H) := by
  refine Does.of_body (args := [str s, .slice a l.length cap]) Try.func19 rfl Try.ntmps19 rfl ?_
  have hln : (l.map Stp.cs).length = l.length := by simp
  have hlen := hf.len
  cases hs : sizesOf l with
  | none =>
    have e : applyV s l = .tuple #[str [], .int .i64 2] := by simp only [applyV, hs]
    have e2 : szP (sizesOf l) = .tuple #[.int .i64 0, .int .i64 0, .int .i64 2] := by rw [hs]; rfl
    rw [e]
    (try (refine st_E10_1 ?_; intros))
    rw [e2]
    (try (refine st_E10_1 ?_; intros))
    exact q_fin0 (H0 := H) (Gives.mk rfl) (hd := zpk)
  | some ft =>
    obtain ⟨f, t⟩ := ft
    have e2 : szP (sizesOf l) = .tuple #[.int .i64 f, .int .i64 t, .int .i64 0] := by rw [hs]; rfl
    obtain ⟨hok, hal, hpl, hfr, _, g1, g2, _, _⟩ := sized hs
    by_cases hfs : f = s.length
    · (try (refine st_E10_1 ?_; intros))
      rw [e2]
      (try (refine st_E10_1 ?_; intros))
      refine WC.newRow (T := 5) (sz := 1) ?_
      refine WC.loopH [(29, .int .i64 ((0) : Int)), (28, .int .i64 (l.length : Int)), (27, .slice a l.length cap), (0, str (s)), (9, .slice (none) (0) (0))] ?_ ?_ (fun j r ds m' H' => ∃ i S a9 c9 n9 O, j = l.length - i ∧ r = [(29, .int .i64 (i : Int)), (28, .int .i64 (l.length : Int)), (27, .slice a l.length cap), (0, str S), (9, .slice a9 n9 c9)] ∧ ds = [] ∧ m = m' ∧ H' = .row a9 c9 5 1 (O.map bV) :: H ∧ (i ≤ l.length) ∧ (n9 = O.length) ∧ (O.length ≤ (atomsOf (l.take i)).length + s.length - S.length) ∧ (S.length ≤ s.length) ∧ (fromA (atomsOf (l.drop i)) = S.length) ∧ ((applyA S (atomsOf (l.drop i))).map (O ++ ·) = applyA s (atomsOf l))) (l.length - (0)) ⟨0, s, none, 0, 0, ([] : List UInt8), rfl, rfl, rfl, rfl, rfl, by omega, rfl, by simp, by omega, by rw [List.drop_zero]; omega, by simp⟩ ?_
      · (repeat (first | exact Env.Sub.nil | refine Env.Sub.cons rfl ?_))
      · exact zpk
      rintro j r ds m' H' ⟨i, S, a9, c9, n9, O, rfl, rfl, rfl, rfl, rfl, hi, hn9, hO, hSl, hSf, hR⟩
      have hOl : (O.map bV).length = O.length := by simp
      have htl : (atomsOf (l.take i)).length ≤ (atomsOf l).length := by
        have e : atomsOf l = atomsOf (l.take i) ++ atomsOf (l.drop i) := by rw [← atoms_append, List.take_append_drop]
        rw [e]; simp
      subst hn9
      by_cases hlt : i < l.length
      · obtain ⟨x, hx, hget, htk, hmem, hdr⟩ := at_idx (f := Stp.cs) hlt
        have hxl : (atomsOf (l.take (i + 1))).length = (atomsOf (l.take i)).length + x.atoms.length := by rw [htk, atoms_append, atoms_one, List.length_append]
        have hxm : (atomsOf (l.take (i + 1))).length ≤ (atomsOf l).length := by
          have e : atomsOf l = atomsOf (l.take (i + 1)) ++ atomsOf (l.drop (i + 1)) := by rw [← atoms_append, List.take_append_drop]
          rw [e, List.length_append]; omega
        rw [atoms_len] at hxl
        rw [hdr, atoms_cons] at hR hSf
        rw [fromA_append, from_step] at hSf
        have hr1 := hr.more (i := .row a9 c9 5 1 (O.map bV))
        have hxok := hok x hmem
        refine WC.rSome hr1 (by omega) ?_
        rintro a0 rfl
        rcases hxok with ⟨h1, h2, h3⟩ | ⟨h1, h2, h3⟩ | ⟨h1, h2, h3⟩
        · have h2' : x.d.length = 0 := by rw [h2]; rfl
          have h3' : x.p.length = 0 := by rw [h3]; rfl
          have ea : x.atoms = List.replicate x.k.toNat .k := by simp [Stp.atoms, h2, h3]
          rw [ea, applyA_ks x.k.toNat S _ (by omega), Option.map_map] at hR
          have hmin : (S.take x.k.toNat).length = x.k.toNat := by simp; omega
          have hed : (S.drop x.k.toNat).length = S.length - x.k.toNat := by simp
          (refine st_E10_1 ?_; intros; rename_i bx a8 c8)
          rw [hOl, hmin]
          have em : O.map bV ++ (S.take x.k.toNat).map (fun b => [Value.int .u8 (b.toNat : Int)]) = (O ++ S.take x.k.toNat).map bV := by rw [List.map_append]; rfl
          rw [em]
          refine WQ.next (l.length - (i + 1)) ⟨i + 1, S.drop x.k.toNat, a8, c8, O.length + x.k.toNat, O ++ S.take x.k.toNat, rfl, rfl, rfl, rfl, rfl, ?_, ?_, ?_, ?_, ?_, ?_⟩ (by omega) zsb zpk
          · omega
          · rw [List.length_append, hmin]
          · rw [List.length_append, hmin]; omega
          · omega
          · omega
          · rw [← hR]; congr 1; funext q; simp
        · have h3' : x.p.length = 0 := by rw [h3]; rfl
          have ea : x.atoms = x.d.map .d := by simp [Stp.atoms, h1, h3]
          rw [ea, applyA_ds x.d S _ (by omega)] at hR
          have hed : (S.drop x.d.length).length = S.length - x.d.length := by simp
          by_cases h4 : S.take x.d.length = x.d
          · rw [if_pos h4] at hR
            (try (refine st_E10_1 ?_; intros))
            refine WQ.next (l.length - (i + 1)) ⟨i + 1, S.drop x.d.length, a9, c9, O.length, O, rfl, rfl, rfl, rfl, rfl, ?_, ?_, ?_, ?_, ?_, ?_⟩ (by omega) zsb zpk
            · omega
            · rfl
            · omega
            · omega
            · omega
            · exact hR
          · rw [if_neg h4] at hR
            have e : applyV s l = .tuple #[str [], .int .i64 270] := by simp only [applyV, hs, hfs, ne_eq, not_true, if_false, ← hR, Option.map_none]
            rw [e]
            (try (refine st_E10_1 ?_; intros))
            exact q_fin0 (H0 := H) (Gives.mk rfl) (hd := zpk)
        · have h2' : x.d.length = 0 := by rw [h2]; rfl
          have ea : x.atoms = x.p.map .p := by simp [Stp.atoms, h1, h2]
          rw [ea, applyA_ps S x.p, Option.map_map] at hR
          (refine st_E10_1 ?_; intros; rename_i bx a8 c8)
          rw [hOl]
          have em : O.map bV ++ x.p.map (fun b => [Value.int .u8 (b.toNat : Int)]) = (O ++ x.p).map bV := by rw [List.map_append]; rfl
          rw [em]
          refine WQ.next (l.length - (i + 1)) ⟨i + 1, S, a8, c8, O.length + x.p.length, O ++ x.p, rfl, rfl, rfl, rfl, rfl, ?_, ?_, ?_, ?_, ?_, ?_⟩ (by omega) zsb zpk
          · omega
          · rw [List.length_append]
          · rw [List.length_append]; omega
          · omega
          · omega
          · rw [← hR]; congr 1; funext q; simp
      · obtain rfl : i = l.length := by omega
        rw [List.drop_length] at hR
        have e : applyV s l = .tuple #[str O, .int .i64 0] := by
          have : some O = applyA s (atomsOf l) := by rw [← hR, show atomsOf [] = [] from rfl, applyA_nil]; simp
          simp only [applyV, hs, hfs, ne_eq, not_true, if_false, ← this]
        rw [e]
        (try (refine st_E10_1 ?_; intros))
        refine WL.rowStr (s := O) rfl rfl zhs rfl rfl rfl rfl rfl ?_
        (try (refine st_E10_1 ?_; intros))
        exact q_fin0 (H0 := H) (Gives.mk rfl) (hd := zpk)
    · have e : applyV s l = .tuple #[str [], .int .i64 5] := by simp [applyV, hs, hfs]
      rw [e]
      (try (refine st_E10_1 ?_; intros))
      rw [e2]
      (try (refine st_E10_1 ?_; intros))
      exact q_fin0 (H0 := H) (Gives.mk rfl) (hd := zpk)
end Go.Proofs.Ytieangfnjflfmaa

/-
  Plain facts on changes: lists that builders make, applied. No condition.
-/
namespace Go.Eng
open Go
theorem mem_atoms {l : List Stp} {s : Stp} (h : s ∈ l) : s.atoms.length ≤ (atomsOf l).length := by
  obtain ⟨x, y, rfl⟩ := List.append_of_mem h
  rw [atoms_append, atoms_cons, List.length_append, List.length_append]; omega
theorem fit_list {L : List Atm} (h1 : fromA L ≤ 65536) (h2 : toA L ≤ 65536) : Fit (listOf L) := by
  obtain ⟨e1, e2⟩ := list_sizes L
  have hok := (list_ok L).1
  have ha := atoms_le (atomsOf (listOf L))
  have hl := steps_le (listOf L) hok
  refine ⟨by omega, fun s hs => ?_, fun s hs => ?_, fun s hs => ?_⟩
  all_goals
    have := mem_atoms hs
    have hb := stp_bounds (hok s hs)
    omega
def okV (t : List UInt8) : Value := .tuple #[str t, .int .i64 0]
theorem apply_listV {L : List Atm} {s t : List UInt8} (h1 : fromA L = s.length) (h2 : applyA s L = some t) (h3 : fromA L ≤ 65536) (h4 : toA L ≤ 65536) : applyV s (listOf L) = okV t := by
  unfold applyV
  rw [sizes_list L h3 h4]
  simp only
  rw [if_neg (by omega), apply_list, h2]; rfl
end Go.Eng

/-
  Plain facts on changes: how long what is carried is; a change carried over many. No condition.
-/
namespace Go.Eng
open Go
theorem fit_plain {l : List Stp} {f t : Int} (hs : sizesOf l = some (f, t)) : Fit (plainOf l) := by
  obtain ⟨hok, _, _, h1, h2, _, h4, _, h6⟩ := sized hs
  obtain ⟨n1, n2⟩ := nf_sizes l hok
  rw [plain_list]
  exact fit_list (by omega) (by omega)
/-- a change carried over a sent one -/
def overP (hand h : Int) (x c : List Stp) : Int ⊕ List Stp := if h ≤ hand then (match carP x c with | .inl e => .inl e | .inr (_, v) => .inr v) else (match carP c x with | .inl e => .inl e | .inr (u, _) => .inr u)
/-- a change carried over many -/
def carriedP (hand : Int) : List (Int × List Stp) → List Stp → Int ⊕ List Stp
  | [], c => .inr c
  | x :: K, c => match overP hand x.1 x.2 c with | .inl e => .inl e | .inr v => carriedP hand K v
end Go.Eng

/-
  The walks of edit.Plain, draft.Match and of a change's parts. No condition.
-/
namespace Go.Eng
open Go
theorem fit_sized {l : List Stp} {f t : Int} (hs : sizesOf l = some (f, t)) : Fit l := by
  obtain ⟨hok, hal, _⟩ := sized hs
  have hl := steps_le l hok
  refine ⟨by omega, fun x hx => ?_, fun x hx => ?_, fun x hx => ?_⟩
  all_goals
    have h1 := mem_atoms hx
    have h2 := stp_bounds (hok x hx)
    omega
end Go.Eng
namespace Go.Proofs.Ytieangfnjflfmaa
open Go Go.Eng
set_option maxRecDepth 100000
set_option maxHeartbeats 4000000
set_option linter.all false
attribute [local irreducible] WL WC WQ QFun QLoop Does Q1 QRound QAssign Go.Addr.add
attribute [local irreducible] sizesOf sizesF plainOf
theorem ePlain_any {a : Option Addr} {cap : Nat} {l : List Stp} {f t : Int} (hs : sizesOf l = some (f, t)) (w0 : World) (m : Mem) (H : SHeap) (hr : RowR w0 m H 3 a (l.map Stp.cs)) :
    Does Try.prog 49 #[.slice a l.length cap] w0 m H (fun v m' H' => m' = m ∧ ∃ c cp, v = .tuple #[.slice c (plainOf l).length cp, .int .i64 0] ∧ H' = .row c cp 55 3 ((plainOf l).map Stp.cs) :: H) := by
  refine Does.of_body (args := [.slice a l.length cap]) Try.func49 rfl Try.ntmps49 rfl ?_
  have hf := fit_sized hs
  (try (refine st ?_; intros))
  refine w_callF Try.func39 ?_ (hs := sizes_any hf _ _ _ hr)
  rintro v m H1 ⟨rfl, rfl, rfl⟩
  obtain ⟨hok, hal, _⟩ := sized hs
  rw [hs, show szP (some (f, t)) = .tuple #[.int .i64 f, .int .i64 t, .int .i64 0] from rfl]
  (try (refine st ?_; intros))
  refine w_callF Try.func67 ?_ (hs := plain_any hok (by omega) _ _ _ hr)
  rintro v m H2 ⟨rfl, c, cp, rfl, rfl⟩
  (try (refine st ?_; intros))
  exact q_fin0 (H0 := .row c cp 55 3 ((plainOf l).map Stp.cs) :: H1) ⟨rfl, c, cp, rfl, rfl⟩ (hd := zpk)
attribute [local irreducible] matchL toks strs jn
theorem dMatch_any {s t : Tx} (h : ¬ Long [s, t]) (w0 : World) (m : Mem) (H : SHeap) : Does Try.prog 13 #[str s, str t] w0 m H
    (fun v m' H' => m.le m' ∧ ∃ a cp, v = .tuple #[.slice a (matchL (toks s) (toks t)).length cp, .int .i64 0] ∧ H' = .row a cp 44 2 ((matchL (toks s) (toks t)).map prE) :: H) := by
  refine Does.of_body (args := [str s, str t]) Try.func13 rfl Try.ntmps13 rfl ?_
  have hls : s.length ≤ 65536 := Nat.le_of_not_lt fun g => h ⟨s, by simp, g⟩
  have hlt : t.length ≤ 65536 := Nat.le_of_not_lt fun g => h ⟨t, by simp, g⟩
  have hXl := toks_length s
  have hYl := toks_length t
  (refine st ?_; intros; rename_i b3)
  refine w_callF Try.func23 ?_ (hs := long_any (L := [s, t]) (by simp) (rowR_blk (T := 9) (fz := (0, 0)) (L := [str s, str t]) zhs (by unfold strs; rfl) (by simp [strs])))
  rintro v m H9 ⟨rfl, rfl, rfl⟩
  rw [dcd_false h]
  (try (refine st ?_; intros))
  refine w_callF Try.func24 ?_ (hs := toks_any s (by omega) _ _ _)
  rintro v m1 H1 ⟨hle1, ax, cx, rfl, rfl⟩
  (try (refine st ?_; intros))
  refine w_callF Try.func24 ?_ (hs := toks_any t (by omega) _ _ _)
  rintro v m2 H1 ⟨hle2, ay, cy, rfl, rfl⟩
  generalize toks s = X at *
  generalize toks t = Y at *
  refine WL.rowCap (a := ax) (cap := cx) (T := 9) (sz := 1) (es := strs X) zhs ?_
  intro hcx
  refine WL.rowCap (a := ay) (cap := cy) (T := 9) (sz := 1) (es := strs Y) zhs ?_
  intro hcy
  rw [strs_length] at hcx hcy
  (try (refine st ?_; intros))
  refine w_callF Try.func25 ?_ (hs := match_any (A := X) (B := Y) (by omega) (by omega) hcx hcy (RowR.row (T := 9) (cap := cx) zhs) (RowR.row (T := 9) (cap := cy) zhs))
  rintro v m9 H9 ⟨rfl, a1, c1, rfl, rfl⟩
  (try (refine st ?_; intros))
  exact q_fin0 (H0 := .row a1 c1 44 2 ((matchL X Y).map prE) :: H) ⟨hle1.trans hle2, a1, c1, rfl, rfl⟩ (hd := zpk)
theorem sq_D35_1 {G : Prop} (h : G := by (repeat (first | (refine sp ?_; (repeat intro zzc)) | (refine WL.append1 (by':=40) rfl rfl rfl rfl (by (repeat (first | exact Out.here | apply Out.there))) zhs (by exact rfl) (by exact rfl) (by exact rfl) (by exact rfl) (by exact rfl) (by exact rfl) (by first | exact rfl | omega) (by first | omega | (simp; omega)) (by decide) (by exact rfl) ?_; intro zzc zzc))); exact WQ.q1 rfl) : G := h
theorem st_D35_1 {G G' : Prop} (next : G') (h : Bx G' → G := by intro zzn; (first | ((refine st ?_; (repeat intro zzc)); (try ((first | (refine WL.append1 (by':=40) rfl rfl rfl rfl (by (repeat (first | exact Out.here | apply Out.there))) zhs (by exact rfl) (by exact rfl) (by exact rfl) (by exact rfl) (by exact rfl) (by exact rfl) (by first | exact rfl | omega) (by first | omega | (simp; omega)) (by decide) (by exact rfl) ?_; intro zzc zzc) | ((refine iDraw ?_; (first | refine WC.drawAll rfl (by decide +kernel) ?_ | refine WC.draw 1 rfl (by decide +kernel) ?_ | refine WC.draw 2 rfl (by decide +kernel) ?_ | refine WC.draw 3 rfl (by decide +kernel) ?_ | refine WC.draw 4 rfl (by decide +kernel) ?_ | refine WC.draw 5 rfl (by decide +kernel) ?_ | refine WC.draw 6 rfl (by decide +kernel) ?_ | refine WC.draw 7 rfl (by decide +kernel) ?_ | refine WC.draw 8 rfl (by decide +kernel) ?_ | refine WC.draw 9 rfl (by decide +kernel) ?_ | refine WC.draw 10 rfl (by decide +kernel) ?_ | refine WC.draw 11 rfl (by decide +kernel) ?_ | refine WC.draw 12 rfl (by decide +kernel) ?_ | refine WC.draw 13 rfl (by decide +kernel) ?_ | refine WC.draw 14 rfl (by decide +kernel) ?_ | refine WC.draw 15 rfl (by decide +kernel) ?_ | refine WC.draw 16 rfl (by decide +kernel) ?_ | refine WC.draw 17 rfl (by decide +kernel) ?_ | refine WC.draw 18 rfl (by decide +kernel) ?_ | refine WC.draw 19 rfl (by decide +kernel) ?_ | refine WC.draw 20 rfl (by decide +kernel) ?_ | refine WC.draw 21 rfl (by decide +kernel) ?_ | refine WC.draw 22 rfl (by decide +kernel) ?_ | refine WC.draw 23 rfl (by decide +kernel) ?_ | refine WC.draw 24 rfl (by decide +kernel) ?_)); (repeat (refine WD.cons rfl (fun c h => by cases h) sq_D35_1 ?_)); refine WD.nil ?_)); (try (refine st ?_; (repeat intro zzc)))))) | ((first | (refine WL.append1 (by':=40) rfl rfl rfl rfl (by (repeat (first | exact Out.here | apply Out.there))) zhs (by exact rfl) (by exact rfl) (by exact rfl) (by exact rfl) (by exact rfl) (by exact rfl) (by first | exact rfl | omega) (by first | omega | (simp; omega)) (by decide) (by exact rfl) ?_; intro zzc zzc) | ((refine iDraw ?_; (first | refine WC.drawAll rfl (by decide +kernel) ?_ | refine WC.draw 1 rfl (by decide +kernel) ?_ | refine WC.draw 2 rfl (by decide +kernel) ?_ | refine WC.draw 3 rfl (by decide +kernel) ?_ | refine WC.draw 4 rfl (by decide +kernel) ?_ | refine WC.draw 5 rfl (by decide +kernel) ?_ | refine WC.draw 6 rfl (by decide +kernel) ?_ | refine WC.draw 7 rfl (by decide +kernel) ?_ | refine WC.draw 8 rfl (by decide +kernel) ?_ | refine WC.draw 9 rfl (by decide +kernel) ?_ | refine WC.draw 10 rfl (by decide +kernel) ?_ | refine WC.draw 11 rfl (by decide +kernel) ?_ | refine WC.draw 12 rfl (by decide +kernel) ?_ | refine WC.draw 13 rfl (by decide +kernel) ?_ | refine WC.draw 14 rfl (by decide +kernel) ?_ | refine WC.draw 15 rfl (by decide +kernel) ?_ | refine WC.draw 16 rfl (by decide +kernel) ?_ | refine WC.draw 17 rfl (by decide +kernel) ?_ | refine WC.draw 18 rfl (by decide +kernel) ?_ | refine WC.draw 19 rfl (by decide +kernel) ?_ | refine WC.draw 20 rfl (by decide +kernel) ?_ | refine WC.draw 21 rfl (by decide +kernel) ?_ | refine WC.draw 22 rfl (by decide +kernel) ?_ | refine WC.draw 23 rfl (by decide +kernel) ?_ | refine WC.draw 24 rfl (by decide +kernel) ?_)); (repeat (refine WD.cons rfl (fun c h => by cases h) sq_D35_1 ?_)); refine WD.nil ?_)); (try (refine st ?_; (repeat intro zzc))))); (repeat ((first | (refine WL.append1 (by':=40) rfl rfl rfl rfl (by (repeat (first | exact Out.here | apply Out.there))) zhs (by exact rfl) (by exact rfl) (by exact rfl) (by exact rfl) (by exact rfl) (by exact rfl) (by first | exact rfl | omega) (by first | omega | (simp; omega)) (by decide) (by exact rfl) ?_; intro zzc zzc) | ((refine iDraw ?_; (first | refine WC.drawAll rfl (by decide +kernel) ?_ | refine WC.draw 1 rfl (by decide +kernel) ?_ | refine WC.draw 2 rfl (by decide +kernel) ?_ | refine WC.draw 3 rfl (by decide +kernel) ?_ | refine WC.draw 4 rfl (by decide +kernel) ?_ | refine WC.draw 5 rfl (by decide +kernel) ?_ | refine WC.draw 6 rfl (by decide +kernel) ?_ | refine WC.draw 7 rfl (by decide +kernel) ?_ | refine WC.draw 8 rfl (by decide +kernel) ?_ | refine WC.draw 9 rfl (by decide +kernel) ?_ | refine WC.draw 10 rfl (by decide +kernel) ?_ | refine WC.draw 11 rfl (by decide +kernel) ?_ | refine WC.draw 12 rfl (by decide +kernel) ?_ | refine WC.draw 13 rfl (by decide +kernel) ?_ | refine WC.draw 14 rfl (by decide +kernel) ?_ | refine WC.draw 15 rfl (by decide +kernel) ?_ | refine WC.draw 16 rfl (by decide +kernel) ?_ | refine WC.draw 17 rfl (by decide +kernel) ?_ | refine WC.draw 18 rfl (by decide +kernel) ?_ | refine WC.draw 19 rfl (by decide +kernel) ?_ | refine WC.draw 20 rfl (by decide +kernel) ?_ | refine WC.draw 21 rfl (by decide +kernel) ?_ | refine WC.draw 22 rfl (by decide +kernel) ?_ | refine WC.draw 23 rfl (by decide +kernel) ?_ | refine WC.draw 24 rfl (by decide +kernel) ?_)); (repeat (refine WD.cons rfl (fun c h => by cases h) sq_D35_1 ?_)); refine WD.nil ?_)); (try (refine st ?_; (repeat intro zzc))))); (repeat revert zzc); exact zzn.out) : G := h ⟨next⟩
theorem part_any {X Y : List Tx} {L : List Stp} {bx by_ bk bc bi i k n mm cx cy cc : Nat} {ax ay ac : Option Addr} {w0 : World} {m : Mem} {H : SHeap}
    (hX : X.length ≤ 4194304 ∧ X.flatten.length ≤ 4194304 ∧ X.length ≤ cx) (hY : Y.length ≤ 4194304 ∧ Y.flatten.length ≤ 4194304 ∧ Y.length ≤ cy) (hn : i ≤ n ∧ n ≤ X.length) (hm : k ≤ mm ∧ mm ≤ Y.length) (hL : L.length ≤ 4194304) :
    Does Try.prog 48 #[.int .i64 (n : Int), .int .i64 (mm : Int), .pointer (some ⟨by_, 0, none⟩), .pointer (some ⟨bk, 0, none⟩), .pointer (some ⟨bc, 0, none⟩), .pointer (some ⟨bx, 0, none⟩), .pointer (some ⟨bi, 0, none⟩)] w0 m
      ([.blk bx (.cells [.slice ax X.length cx].toArray 49 (0, 0)), .row ax cx 9 1 (strs X), .blk by_ (.cells [.slice ay Y.length cy].toArray 49 (0, 0)), .row ay cy 9 1 (strs Y), .blk bk (.cells [.int .i64 (k : Int)].toArray 3 (0, 0)), .blk bi (.cells [.int .i64 (i : Int)].toArray 3 (0, 0)), .blk bc (.cells [.slice ac L.length cc].toArray 40 (0, 0)), .row ac cc 55 3 (L.map Stp.cs)] ++ H)
      (fun _ m' H' => m' = m ∧ ∃ (ac2 : Option Addr) (cc2 : Nat), H' = [.blk bx (.cells [.slice ax X.length cx].toArray 49 (0, 0)), .row ax cx 9 1 (strs X), .blk by_ (.cells [.slice ay Y.length cy].toArray 49 (0, 0)), .row ay cy 9 1 (strs Y), .blk bk (.cells [.int .i64 ((mm + 1 : Nat) : Int)].toArray 3 (0, 0)), .blk bi (.cells [.int .i64 ((n + 1 : Nat) : Int)].toArray 3 (0, 0)),
        .blk bc (.cells [.slice ac2 (L ++ (putT (jn Y k mm) ++ dropT (jn X i n))).length cc2].toArray 40 (0, 0)), .row ac2 cc2 55 3 ((L ++ (putT (jn Y k mm) ++ dropT (jn X i n))).map Stp.cs)] ++ H) := by
  refine Does.of_body Try.func48 rfl Try.ntmps48 rfl ?_
  simp only [List.cons_append, List.nil_append]
  have hn1 : (n : Int) + 1 = ((n + 1 : Nat) : Int) := by omega
  have hm1 : (mm : Int) + 1 = ((mm + 1 : Nat) : Int) := by omega
  (try (refine st_D35_1 ?_; intros))
  refine w_callF Try.func27 ?_ (hs := joinSub_any (l := Y) zhs hm (by omega) (by omega))
  rintro v m9 H9 ⟨rfl, rfl, rfl⟩
  have hLm : (L.map Stp.cs).length = L.length := List.length_map _
  have hLp : ∀ t : Tx, (L ++ [(⟨0, [], t⟩ : Stp)]).map Stp.cs = L.map Stp.cs ++ [[.int .i64 0, str [], str t]] := fun t => by simp [Stp.cs]
  by_cases h1 : jn Y k mm = []
  · rw [h1, show putT [] = [] from rfl, List.nil_append]
    (try (refine st_D35_1 ?_; intros))
    refine w_callF Try.func27 ?_ (hs := joinSub_any (l := X) zhs hn (by omega) (by omega))
    rintro v m9 H9 ⟨rfl, rfl, rfl⟩
    generalize jn X i n = tX at *
    by_cases h2 : tX = []
    · rw [show dropT tX = [] from if_pos h2, List.append_nil]
      (try (refine st_D35_1 ?_; intros))
      rw [hn1, hm1]
      exact q_finNorm0 (H0 := [.blk bx (.cells [.slice ax X.length cx].toArray 49 (0, 0)), .row ax cx 9 1 (strs X), .blk by_ (.cells [.slice ay Y.length cy].toArray 49 (0, 0)), .row ay cy 9 1 (strs Y), .blk bk (.cells [.int .i64 ((mm + 1 : Nat) : Int)].toArray 3 (0, 0)), .blk bi (.cells [.int .i64 ((n + 1 : Nat) : Int)].toArray 3 (0, 0)), .blk bc (.cells [.slice ac L.length cc].toArray 40 (0, 0)), .row ac cc 55 3 (L.map Stp.cs)] ++ H) ⟨rfl, ac, cc, rfl⟩ (hd := zpk)
    · rw [show dropT tX = [⟨0, tX, []⟩] from if_neg h2]
      (refine st_D35_1 ?_; intros; rename_i b9 ac2 cc2)
      rw [hLm, hn1, hm1, show L.length + 1 = (L ++ [(⟨0, tX, []⟩ : Stp)]).length by simp, show L.map Stp.cs ++ [[.int .i64 0, str tX, str []]] = (L ++ [(⟨0, tX, []⟩ : Stp)]).map Stp.cs by simp [Stp.cs]]
      exact q_finNorm0 (H0 := [.blk bx (.cells [.slice ax X.length cx].toArray 49 (0, 0)), .row ax cx 9 1 (strs X), .blk by_ (.cells [.slice ay Y.length cy].toArray 49 (0, 0)), .row ay cy 9 1 (strs Y), .blk bk (.cells [.int .i64 ((mm + 1 : Nat) : Int)].toArray 3 (0, 0)), .blk bi (.cells [.int .i64 ((n + 1 : Nat) : Int)].toArray 3 (0, 0)), .blk bc (.cells [.slice ac2 (L ++ [(⟨0, tX, []⟩ : Stp)]).length cc2].toArray 40 (0, 0)), .row ac2 cc2 55 3 ((L ++ [(⟨0, tX, []⟩ : Stp)]).map Stp.cs)] ++ H) ⟨rfl, ac2, cc2, rfl⟩ (hd := zpk)
  · rw [show putT (jn Y k mm) = [⟨0, [], jn Y k mm⟩] from if_neg h1]
    generalize jn Y k mm = tY at *
    have hLp1 := hLp tY
    obtain ⟨L1, hL1⟩ : ∃ L1, L1 = L ++ [(⟨0, [], tY⟩ : Stp)] := ⟨_, rfl⟩
    have hl1 : L1.length = L.length + 1 := by rw [hL1]; simp
    have hl1m : (L1.map Stp.cs).length = L1.length := List.length_map _
    rw [← hL1] at hLp1
    rw [← List.append_assoc, ← hL1]
    clear hL1
    (refine st_D35_1 ?_; intros; rename_i b9 ac1 cc1)
    refine w_callF Try.func27 ?_ (hs := joinSub_any (l := X) zhs hn (by omega) (by omega))
    rintro v m9 H9 ⟨rfl, rfl, rfl⟩
    rw [hLm, ← hl1, ← hLp1]
    generalize jn X i n = tX at *
    by_cases h2 : tX = []
    · rw [show dropT tX = [] from if_pos h2, List.append_nil]
      (try (refine st_D35_1 ?_; intros))
      rw [hn1, hm1]
      exact q_finNorm0 (H0 := [.blk bx (.cells [.slice ax X.length cx].toArray 49 (0, 0)), .row ax cx 9 1 (strs X), .blk by_ (.cells [.slice ay Y.length cy].toArray 49 (0, 0)), .row ay cy 9 1 (strs Y), .blk bk (.cells [.int .i64 ((mm + 1 : Nat) : Int)].toArray 3 (0, 0)), .blk bi (.cells [.int .i64 ((n + 1 : Nat) : Int)].toArray 3 (0, 0)), .blk bc (.cells [.slice ac1 L1.length cc1].toArray 40 (0, 0)), .row ac1 cc1 55 3 (L1.map Stp.cs)] ++ H) ⟨rfl, ac1, cc1, rfl⟩ (hd := zpk)
    · rw [show dropT tX = [⟨0, tX, []⟩] from if_neg h2]
      (refine st_D35_1 ?_; intros; rename_i b8 ac2 cc2)
      rw [hl1m, hn1, hm1, show L1.length + 1 = (L1 ++ [(⟨0, tX, []⟩ : Stp)]).length by simp, show L1.map Stp.cs ++ [[.int .i64 0, str tX, str []]] = (L1 ++ [(⟨0, tX, []⟩ : Stp)]).map Stp.cs by simp [Stp.cs]]
      exact q_finNorm0 (H0 := [.blk bx (.cells [.slice ax X.length cx].toArray 49 (0, 0)), .row ax cx 9 1 (strs X), .blk by_ (.cells [.slice ay Y.length cy].toArray 49 (0, 0)), .row ay cy 9 1 (strs Y), .blk bk (.cells [.int .i64 ((mm + 1 : Nat) : Int)].toArray 3 (0, 0)), .blk bi (.cells [.int .i64 ((n + 1 : Nat) : Int)].toArray 3 (0, 0)), .blk bc (.cells [.slice ac2 (L1 ++ [(⟨0, tX, []⟩ : Stp)]).length cc2].toArray 40 (0, 0)), .row ac2 cc2 55 3 ((L1 ++ [(⟨0, tX, []⟩ : Stp)]).map Stp.cs)] ++ H) ⟨rfl, ac2, cc2, rfl⟩ (hd := zpk)
end Go.Proofs.Ytieangfnjflfmaa

/-
  The walk of draft.change: its loop over the pairs. No condition.
-/
namespace Go.Proofs.Ytieangfnjflfmaa
open Go Go.Eng
set_option maxRecDepth 100000
set_option maxHeartbeats 4000000
set_option linter.all false
attribute [local irreducible] WL WC WQ QFun QLoop Does Q1 QRound QAssign Go.Addr.add
attribute [local irreducible] strs jn putT dropT chGo
theorem sq_D36_1 {G : Prop} (h : G := by (repeat (first | (refine sp ?_; (repeat intro zzc)) | (refine WL.append1 (by':=40) rfl rfl rfl rfl (by (repeat (first | exact Out.here | apply Out.there))) zhs (by exact rfl) (by exact rfl) (by exact rfl) (by exact rfl) (by exact rfl) (by exact rfl) (by first | exact rfl | omega) (by first | omega | (simp; omega)) (by decide) (by exact rfl) ?_; intro zzc zzc) | (refine WL.indexAddrA rfl rfl (by (first | with_reducible exact natz _ | with_reducible exact natz0 | with_reducible exact natz1 | with_reducible exact natz2 | with_reducible exact natz3 | with_reducible exact natz4 | with_reducible exact natz8 | (apply natz_add; (· first | with_reducible exact natz _ | with_reducible exact natz0 | with_reducible exact natz1 | with_reducible exact natz2 | with_reducible exact natz3 | with_reducible exact natz4 | with_reducible exact natz8); (· first | with_reducible exact natz _ | with_reducible exact natz0 | with_reducible exact natz1 | with_reducible exact natz2 | with_reducible exact natz3 | with_reducible exact natz4 | with_reducible exact natz8)) | (apply natz_sub; (· first | with_reducible exact natz _ | with_reducible exact natz0 | with_reducible exact natz1 | with_reducible exact natz2 | with_reducible exact natz3 | with_reducible exact natz4 | with_reducible exact natz8); (· first | with_reducible exact natz _ | with_reducible exact natz0 | with_reducible exact natz1 | with_reducible exact natz2 | with_reducible exact natz3 | with_reducible exact natz4 | with_reducible exact natz8); (· omega)) | exact (Int.toNat_of_nonneg (by omega)).symm)) rfl rfl (by omega) rfl rfl ?_))); exact WQ.q1 rfl) : G := h
theorem cm_D36_1 {G G' : Prop} (next : G') (h : Bx G' → G := by intro zzn; (try (refine wcal 0 ?_ (hwl := by intro zm zF zle; exact sq_D36_1))); (try (refine wcal 1 ?_ (hwl := by intro zm zF zle; exact sq_D36_1))); (try (refine wcal 2 ?_ (hwl := by intro zm zF zle; exact sq_D36_1))); (try (refine wcal 3 ?_ (hwl := by intro zm zF zle; exact sq_D36_1))); (try (refine wcal 4 ?_ (hwl := by intro zm zF zle; exact sq_D36_1))); (try (refine wcal 5 ?_ (hwl := by intro zm zF zle; exact sq_D36_1))); (try (refine wcal 6 ?_ (hwl := by intro zm zF zle; exact sq_D36_1))); (try (refine wcal 7 ?_ (hwl := by intro zm zF zle; exact sq_D36_1))); (try (refine wcal 8 ?_ (hwl := by intro zm zF zle; exact sq_D36_1))); (try (refine wcal 9 ?_ (hwl := by intro zm zF zle; exact sq_D36_1))); (try (refine wcal 10 ?_ (hwl := by intro zm zF zle; exact sq_D36_1))); (try (refine wcal 11 ?_ (hwl := by intro zm zF zle; exact sq_D36_1))); (try (refine wcal 12 ?_ (hwl := by intro zm zF zle; exact sq_D36_1))); (try (refine wcal 13 ?_ (hwl := by intro zm zF zle; exact sq_D36_1))); (try (refine wcal 14 ?_ (hwl := by intro zm zF zle; exact sq_D36_1))); (try (refine wcal 15 ?_ (hwl := by intro zm zF zle; exact sq_D36_1))); (try (refine wcal 16 ?_ (hwl := by intro zm zF zle; exact sq_D36_1))); (try (refine wcal 17 ?_ (hwl := by intro zm zF zle; exact sq_D36_1))); (try (refine wcal 18 ?_ (hwl := by intro zm zF zle; exact sq_D36_1))); (try (refine wcal 19 ?_ (hwl := by intro zm zF zle; exact sq_D36_1))); (try (refine wcal 20 ?_ (hwl := by intro zm zF zle; exact sq_D36_1))); (try (refine wcal 21 ?_ (hwl := by intro zm zF zle; exact sq_D36_1))); (try (refine wcal 22 ?_ (hwl := by intro zm zF zle; exact sq_D36_1))); (try (refine wcal 23 ?_ (hwl := by intro zm zF zle; exact sq_D36_1))); (try (refine wcal 24 ?_ (hwl := by intro zm zF zle; exact sq_D36_1))); (try (refine wcal 25 ?_ (hwl := by intro zm zF zle; exact sq_D36_1))); (try (refine wcal 26 ?_ (hwl := by intro zm zF zle; exact sq_D36_1))); (try (refine wcal 27 ?_ (hwl := by intro zm zF zle; exact sq_D36_1))); (try (refine wcal 28 ?_ (hwl := by intro zm zF zle; exact sq_D36_1))); (try (refine wcal 29 ?_ (hwl := by intro zm zF zle; exact sq_D36_1))); (try (refine wcal 30 ?_ (hwl := by intro zm zF zle; exact sq_D36_1))); (try (refine wcal 31 ?_ (hwl := by intro zm zF zle; exact sq_D36_1))); (try (refine wcal 32 ?_ (hwl := by intro zm zF zle; exact sq_D36_1))); (try (refine wcal 33 ?_ (hwl := by intro zm zF zle; exact sq_D36_1))); (try (refine wcal 34 ?_ (hwl := by intro zm zF zle; exact sq_D36_1))); (try (refine wcal 35 ?_ (hwl := by intro zm zF zle; exact sq_D36_1))); (try (refine wcal 36 ?_ (hwl := by intro zm zF zle; exact sq_D36_1))); (try (refine wcal 37 ?_ (hwl := by intro zm zF zle; exact sq_D36_1))); (try (refine wcal 38 ?_ (hwl := by intro zm zF zle; exact sq_D36_1))); (try (refine wcal 39 ?_ (hwl := by intro zm zF zle; exact sq_D36_1))); (try (refine wcal 40 ?_ (hwl := by intro zm zF zle; exact sq_D36_1))); (try (refine wcal 41 ?_ (hwl := by intro zm zF zle; exact sq_D36_1))); exact zzn.out) : G := h ⟨next⟩
theorem st_D36_1 {G G' : Prop} (next : G') (h : Bx G' → G := by intro zzn; (first | ((refine st ?_; (repeat intro zzc)); (try ((first | (refine WL.append1 (by':=40) rfl rfl rfl rfl (by (repeat (first | exact Out.here | apply Out.there))) zhs (by exact rfl) (by exact rfl) (by exact rfl) (by exact rfl) (by exact rfl) (by exact rfl) (by first | exact rfl | omega) (by first | omega | (simp; omega)) (by decide) (by exact rfl) ?_; intro zzc zzc) | (refine WL.indexAddrA rfl rfl (by (first | with_reducible exact natz _ | with_reducible exact natz0 | with_reducible exact natz1 | with_reducible exact natz2 | with_reducible exact natz3 | with_reducible exact natz4 | with_reducible exact natz8 | (apply natz_add; (· first | with_reducible exact natz _ | with_reducible exact natz0 | with_reducible exact natz1 | with_reducible exact natz2 | with_reducible exact natz3 | with_reducible exact natz4 | with_reducible exact natz8); (· first | with_reducible exact natz _ | with_reducible exact natz0 | with_reducible exact natz1 | with_reducible exact natz2 | with_reducible exact natz3 | with_reducible exact natz4 | with_reducible exact natz8)) | (apply natz_sub; (· first | with_reducible exact natz _ | with_reducible exact natz0 | with_reducible exact natz1 | with_reducible exact natz2 | with_reducible exact natz3 | with_reducible exact natz4 | with_reducible exact natz8); (· first | with_reducible exact natz _ | with_reducible exact natz0 | with_reducible exact natz1 | with_reducible exact natz2 | with_reducible exact natz3 | with_reducible exact natz4 | with_reducible exact natz8); (· omega)) | exact (Int.toNat_of_nonneg (by omega)).symm)) rfl rfl (by omega) rfl rfl ?_) | ((refine iDraw ?_; (first | refine WC.drawAll rfl (by decide +kernel) ?_ | refine WC.draw 1 rfl (by decide +kernel) ?_ | refine WC.draw 2 rfl (by decide +kernel) ?_ | refine WC.draw 3 rfl (by decide +kernel) ?_ | refine WC.draw 4 rfl (by decide +kernel) ?_ | refine WC.draw 5 rfl (by decide +kernel) ?_ | refine WC.draw 6 rfl (by decide +kernel) ?_ | refine WC.draw 7 rfl (by decide +kernel) ?_ | refine WC.draw 8 rfl (by decide +kernel) ?_ | refine WC.draw 9 rfl (by decide +kernel) ?_ | refine WC.draw 10 rfl (by decide +kernel) ?_ | refine WC.draw 11 rfl (by decide +kernel) ?_ | refine WC.draw 12 rfl (by decide +kernel) ?_ | refine WC.draw 13 rfl (by decide +kernel) ?_ | refine WC.draw 14 rfl (by decide +kernel) ?_ | refine WC.draw 15 rfl (by decide +kernel) ?_ | refine WC.draw 16 rfl (by decide +kernel) ?_ | refine WC.draw 17 rfl (by decide +kernel) ?_ | refine WC.draw 18 rfl (by decide +kernel) ?_ | refine WC.draw 19 rfl (by decide +kernel) ?_ | refine WC.draw 20 rfl (by decide +kernel) ?_ | refine WC.draw 21 rfl (by decide +kernel) ?_ | refine WC.draw 22 rfl (by decide +kernel) ?_ | refine WC.draw 23 rfl (by decide +kernel) ?_ | refine WC.draw 24 rfl (by decide +kernel) ?_)); (repeat (refine WD.cons rfl (fun c h => by cases h) sq_D36_1 ?_)); refine WD.nil ?_)); (try (refine st ?_; (repeat intro zzc)))))) | ((first | (refine WL.append1 (by':=40) rfl rfl rfl rfl (by (repeat (first | exact Out.here | apply Out.there))) zhs (by exact rfl) (by exact rfl) (by exact rfl) (by exact rfl) (by exact rfl) (by exact rfl) (by first | exact rfl | omega) (by first | omega | (simp; omega)) (by decide) (by exact rfl) ?_; intro zzc zzc) | (refine WL.indexAddrA rfl rfl (by (first | with_reducible exact natz _ | with_reducible exact natz0 | with_reducible exact natz1 | with_reducible exact natz2 | with_reducible exact natz3 | with_reducible exact natz4 | with_reducible exact natz8 | (apply natz_add; (· first | with_reducible exact natz _ | with_reducible exact natz0 | with_reducible exact natz1 | with_reducible exact natz2 | with_reducible exact natz3 | with_reducible exact natz4 | with_reducible exact natz8); (· first | with_reducible exact natz _ | with_reducible exact natz0 | with_reducible exact natz1 | with_reducible exact natz2 | with_reducible exact natz3 | with_reducible exact natz4 | with_reducible exact natz8)) | (apply natz_sub; (· first | with_reducible exact natz _ | with_reducible exact natz0 | with_reducible exact natz1 | with_reducible exact natz2 | with_reducible exact natz3 | with_reducible exact natz4 | with_reducible exact natz8); (· first | with_reducible exact natz _ | with_reducible exact natz0 | with_reducible exact natz1 | with_reducible exact natz2 | with_reducible exact natz3 | with_reducible exact natz4 | with_reducible exact natz8); (· omega)) | exact (Int.toNat_of_nonneg (by omega)).symm)) rfl rfl (by omega) rfl rfl ?_) | ((refine iDraw ?_; (first | refine WC.drawAll rfl (by decide +kernel) ?_ | refine WC.draw 1 rfl (by decide +kernel) ?_ | refine WC.draw 2 rfl (by decide +kernel) ?_ | refine WC.draw 3 rfl (by decide +kernel) ?_ | refine WC.draw 4 rfl (by decide +kernel) ?_ | refine WC.draw 5 rfl (by decide +kernel) ?_ | refine WC.draw 6 rfl (by decide +kernel) ?_ | refine WC.draw 7 rfl (by decide +kernel) ?_ | refine WC.draw 8 rfl (by decide +kernel) ?_ | refine WC.draw 9 rfl (by decide +kernel) ?_ | refine WC.draw 10 rfl (by decide +kernel) ?_ | refine WC.draw 11 rfl (by decide +kernel) ?_ | refine WC.draw 12 rfl (by decide +kernel) ?_ | refine WC.draw 13 rfl (by decide +kernel) ?_ | refine WC.draw 14 rfl (by decide +kernel) ?_ | refine WC.draw 15 rfl (by decide +kernel) ?_ | refine WC.draw 16 rfl (by decide +kernel) ?_ | refine WC.draw 17 rfl (by decide +kernel) ?_ | refine WC.draw 18 rfl (by decide +kernel) ?_ | refine WC.draw 19 rfl (by decide +kernel) ?_ | refine WC.draw 20 rfl (by decide +kernel) ?_ | refine WC.draw 21 rfl (by decide +kernel) ?_ | refine WC.draw 22 rfl (by decide +kernel) ?_ | refine WC.draw 23 rfl (by decide +kernel) ?_ | refine WC.draw 24 rfl (by decide +kernel) ?_)); (repeat (refine WD.cons rfl (fun c h => by cases h) sq_D36_1 ?_)); refine WD.nil ?_)); (try (refine st ?_; (repeat intro zzc))))); (repeat ((first | (refine WL.append1 (by':=40) rfl rfl rfl rfl (by (repeat (first | exact Out.here | apply Out.there))) zhs (by exact rfl) (by exact rfl) (by exact rfl) (by exact rfl) (by exact rfl) (by exact rfl) (by first | exact rfl | omega) (by first | omega | (simp; omega)) (by decide) (by exact rfl) ?_; intro zzc zzc) | (refine WL.indexAddrA rfl rfl (by (first | with_reducible exact natz _ | with_reducible exact natz0 | with_reducible exact natz1 | with_reducible exact natz2 | with_reducible exact natz3 | with_reducible exact natz4 | with_reducible exact natz8 | (apply natz_add; (· first | with_reducible exact natz _ | with_reducible exact natz0 | with_reducible exact natz1 | with_reducible exact natz2 | with_reducible exact natz3 | with_reducible exact natz4 | with_reducible exact natz8); (· first | with_reducible exact natz _ | with_reducible exact natz0 | with_reducible exact natz1 | with_reducible exact natz2 | with_reducible exact natz3 | with_reducible exact natz4 | with_reducible exact natz8)) | (apply natz_sub; (· first | with_reducible exact natz _ | with_reducible exact natz0 | with_reducible exact natz1 | with_reducible exact natz2 | with_reducible exact natz3 | with_reducible exact natz4 | with_reducible exact natz8); (· first | with_reducible exact natz _ | with_reducible exact natz0 | with_reducible exact natz1 | with_reducible exact natz2 | with_reducible exact natz3 | with_reducible exact natz4 | with_reducible exact natz8); (· omega)) | exact (Int.toNat_of_nonneg (by omega)).symm)) rfl rfl (by omega) rfl rfl ?_) | ((refine iDraw ?_; (first | refine WC.drawAll rfl (by decide +kernel) ?_ | refine WC.draw 1 rfl (by decide +kernel) ?_ | refine WC.draw 2 rfl (by decide +kernel) ?_ | refine WC.draw 3 rfl (by decide +kernel) ?_ | refine WC.draw 4 rfl (by decide +kernel) ?_ | refine WC.draw 5 rfl (by decide +kernel) ?_ | refine WC.draw 6 rfl (by decide +kernel) ?_ | refine WC.draw 7 rfl (by decide +kernel) ?_ | refine WC.draw 8 rfl (by decide +kernel) ?_ | refine WC.draw 9 rfl (by decide +kernel) ?_ | refine WC.draw 10 rfl (by decide +kernel) ?_ | refine WC.draw 11 rfl (by decide +kernel) ?_ | refine WC.draw 12 rfl (by decide +kernel) ?_ | refine WC.draw 13 rfl (by decide +kernel) ?_ | refine WC.draw 14 rfl (by decide +kernel) ?_ | refine WC.draw 15 rfl (by decide +kernel) ?_ | refine WC.draw 16 rfl (by decide +kernel) ?_ | refine WC.draw 17 rfl (by decide +kernel) ?_ | refine WC.draw 18 rfl (by decide +kernel) ?_ | refine WC.draw 19 rfl (by decide +kernel) ?_ | refine WC.draw 20 rfl (by decide +kernel) ?_ | refine WC.draw 21 rfl (by decide +kernel) ?_ | refine WC.draw 22 rfl (by decide +kernel) ?_ | refine WC.draw 23 rfl (by decide +kernel) ?_ | refine WC.draw 24 rfl (by decide +kernel) ?_)); (repeat (refine WD.cons rfl (fun c h => by cases h) sq_D36_1 ?_)); refine WD.nil ?_)); (try (refine st ?_; (repeat intro zzc))))); (repeat revert zzc); exact zzn.out) : G := h ⟨next⟩
theorem change_loop {X Y : List Tx} {M : List (Nat × Nat)} {F : List Stp} {bx by_ bk bc bi cx cy cp : Nat} {ax ay a : Option Addr} {w0 : World} {m : Mem} {H : SHeap} {Q : Exit → Act → World → Prop}
    (hX : X.length ≤ 65536 ∧ X.flatten.length ≤ 65536 ∧ X.length ≤ cx) (hY : Y.length ≤ 65536 ∧ Y.flatten.length ≤ 65536 ∧ Y.length ≤ cy) (hM : PrOk X Y 0 0 M X.length Y.length) (hMl : M.length ≤ 65536) (hF : chGo X Y M 0 0 = F)
    (hK : ∀ (L : List Stp) (i k : Nat) (ac : Option Addr) (cc : Nat), L ++ chGo X Y [] i k = F → i ≤ X.length → k ≤ Y.length → L.length ≤ 200000 →
      WQ 55 w0 Q (.exit 0) [(5, .pointer (some ⟨bx, 0, none⟩)), (6, .pointer (some ⟨by_, 0, none⟩)), (7, .pointer (some ⟨bc, 0, none⟩)), (10, .func (.func 48) #[] [.pointer (some ⟨by_, 0, none⟩), .pointer (some ⟨bk, 0, none⟩), .pointer (some ⟨bc, 0, none⟩), .pointer (some ⟨bx, 0, none⟩), .pointer (some ⟨bi, 0, none⟩)].toArray)] [] m (.blk bx (.cells [.slice ax X.length cx].toArray 49 (0, 0)) :: .row ax cx 9 1 (strs X) :: .blk by_ (.cells [.slice ay Y.length cy].toArray 49 (0, 0)) :: .row ay cy 9 1 (strs Y) :: .blk bk (.cells [.int .i64 (k : Int)].toArray 3 (0, 0)) :: .blk bi (.cells [.int .i64 (i : Int)].toArray 3 (0, 0)) :: .blk bc (.cells [.slice ac L.length cc].toArray 40 (0, 0)) :: .row ac cc 55 3 (L.map Stp.cs) :: H)) :
    WC Try.prog none 55 w0 ((loopsIn (Try.f33.body.getD .skip)).getD 0 .skip) Q [(22, .int .i64 0), (21, .int .i64 (M.length : Int)), (20, .slice a M.length cp), (5, .pointer (some ⟨bx, 0, none⟩)), (6, .pointer (some ⟨by_, 0, none⟩)), (7, .pointer (some ⟨bc, 0, none⟩)), (10, .func (.func 48) #[] [.pointer (some ⟨by_, 0, none⟩), .pointer (some ⟨bk, 0, none⟩), .pointer (some ⟨bc, 0, none⟩), .pointer (some ⟨bx, 0, none⟩), .pointer (some ⟨bi, 0, none⟩)].toArray)] [] m
      (.blk bx (.cells [.slice ax X.length cx].toArray 49 (0, 0)) :: .row ax cx 9 1 (strs X) :: .blk by_ (.cells [.slice ay Y.length cy].toArray 49 (0, 0)) :: .row ay cy 9 1 (strs Y) :: .blk bk (.cells [.int .i64 0].toArray 3 (0, 0)) :: .blk bi (.cells [.int .i64 0].toArray 3 (0, 0)) :: .blk bc (.cells [.slice none 0 0].toArray 40 (0, 0)) :: .row none 0 55 3 (([] : List Stp).map Stp.cs) :: .row a cp 44 2 (M.map prE) :: H) := by
  have hXs : (strs X).length = X.length := by simp [strs]
  have hml : (M.map prE).length = M.length := List.length_map _
  refine WC.loopH [(22, .int .i64 ((0) : Int)), (21, .int .i64 (M.length : Int)), (20, .slice a M.length cp), (5, .pointer (some ⟨bx, 0, none⟩)), (6, .pointer (some ⟨by_, 0, none⟩)), (7, .pointer (some ⟨bc, 0, none⟩)), (10, .func (.func 48) #[] [.pointer (some ⟨by_, 0, none⟩), .pointer (some ⟨bk, 0, none⟩), .pointer (some ⟨bc, 0, none⟩), .pointer (some ⟨bx, 0, none⟩), .pointer (some ⟨bi, 0, none⟩)].toArray)] ?_ ?_ (fun j r ds m' H' => ∃ (q : Nat) (i : Nat) (k : Nat) (L : List Stp) (ac : Option Addr) (cc : Nat), j = M.length - q ∧ r = [(22, .int .i64 (q : Int)), (21, .int .i64 (M.length : Int)), (20, .slice a M.length cp), (5, .pointer (some ⟨bx, 0, none⟩)), (6, .pointer (some ⟨by_, 0, none⟩)), (7, .pointer (some ⟨bc, 0, none⟩)), (10, .func (.func 48) #[] [.pointer (some ⟨by_, 0, none⟩), .pointer (some ⟨bk, 0, none⟩), .pointer (some ⟨bc, 0, none⟩), .pointer (some ⟨bx, 0, none⟩), .pointer (some ⟨bi, 0, none⟩)].toArray)] ∧ ds = [] ∧ m = m' ∧ H' = .blk bx (.cells [.slice ax X.length cx].toArray 49 (0, 0)) :: .row ax cx 9 1 (strs X) :: .blk by_ (.cells [.slice ay Y.length cy].toArray 49 (0, 0)) :: .row ay cy 9 1 (strs Y) :: .blk bk (.cells [.int .i64 (k : Int)].toArray 3 (0, 0)) :: .blk bi (.cells [.int .i64 (i : Int)].toArray 3 (0, 0)) :: .blk bc (.cells [.slice ac L.length cc].toArray 40 (0, 0)) :: .row ac cc 55 3 (L.map Stp.cs) :: .row a cp 44 2 (M.map prE) :: H ∧ (q ≤ M.length) ∧ (PrOk X Y i k (M.drop q) X.length Y.length) ∧ (L ++ chGo X Y (M.drop q) i k = F) ∧ (L.length ≤ 3 * q)) (M.length - (0)) ⟨0, 0, 0, ([] : List Stp), none, 0, rfl, rfl, rfl, rfl, rfl, Nat.zero_le _, hM, hF, Nat.zero_le _⟩ ?_
  · (repeat (first | exact Env.Sub.nil | refine Env.Sub.cons rfl ?_))
  · exact zpk
  rintro j r ds m' H' ⟨q, i, k, L, ac, cc, rfl, rfl, rfl, rfl, rfl, hq, hP, hgo, hL⟩
  by_cases hlt : q < M.length
  · obtain ⟨p, hp⟩ : ∃ p, M[q]? = some p := ⟨_, List.getElem?_eq_getElem hlt⟩
    have hdr : M.drop q = p :: M.drop (q + 1) := by
      obtain ⟨h1, h2⟩ := List.getElem?_eq_some_iff.1 hp
      rw [List.drop_eq_getElem_cons h1, h2]
    rw [hdr] at hP hgo
    obtain ⟨h1, h2, h3, h4, ⟨t, e1, e2⟩, h6⟩ := hP
    have hgt := strs_get e1
    have htl : t.length ≤ 65536 := by have := mem_le_flat (List.mem_of_getElem? e1); omega
    have hgp : (M.map prE)[q]? = some [.int .i64 (p.1 : Int), .int .i64 (p.2 : Int)] := by rw [List.getElem?_map, hp]; rfl
    rw [chGo_cons, getD_of e1] at hgo
    generalize hME : M.map prE = ME at *
    refine WC.rowSome (a := a) (es := ME) zhs (by omega) ?_
    rintro a0 rfl
    (refine st_D36_1 ?_; intros; rename_i bp)
    refine WL.heap (H' := [.blk bx (.cells [.slice ax X.length cx].toArray 49 (0, 0)), .row ax cx 9 1 (strs X), .blk by_ (.cells [.slice ay Y.length cy].toArray 49 (0, 0)), .row ay cy 9 1 (strs Y), .blk bk (.cells [.int .i64 (k : Int)].toArray 3 (0, 0)), .blk bi (.cells [.int .i64 (i : Int)].toArray 3 (0, 0)), .blk bc (.cells [.slice ac L.length cc].toArray 40 (0, 0)), .row ac cc 55 3 (L.map Stp.cs)] ++ (.blk bp (.cells [.int .i64 (p.1 : Int), .int .i64 (p.2 : Int)].toArray 44 (0, 0)) :: .row (some a0) cp 44 2 ME :: H)) zpk ?_
    refine WL.callV rfl Try.func48 rfl rfl (by exact rfl) (by exact rfl) (part_any (X := X) (Y := Y) (L := L) (n := p.1) (mm := p.2) ⟨by omega, by omega, hX.2.2⟩ ⟨by omega, by omega, hY.2.2⟩ ⟨h1, by omega⟩ ⟨h2, by omega⟩ (by omega)) ?_
    rintro v m9 H9 ⟨rfl, ac2, cc2, rfl⟩
    have hp1 := putT_le (jn Y k p.2)
    have hp2 := dropT_le (jn X i p.1)
    obtain ⟨L2, hL2⟩ : ∃ L2, L2 = L ++ (putT (jn Y k p.2) ++ dropT (jn X i p.1)) := ⟨_, rfl⟩
    have hl2 := congrArg List.length hL2
    rw [List.length_append, List.length_append] at hl2
    rw [show L ++ (putT (jn Y k p.2) ++ (dropT (jn X i p.1) ++ (keepT t ++ chGo X Y (M.drop (q + 1)) (p.1 + 1) (p.2 + 1)))) = (L2 ++ keepT t) ++ chGo X Y (M.drop (q + 1)) (p.1 + 1) (p.2 + 1) by rw [hL2]; simp] at hgo
    rw [← hL2]
    clear hL2
    have hLm : (L2.map Stp.cs).length = L2.length := List.length_map _
    have hl3 : L2.length + 1 = (L2 ++ keepT t).length := by unfold keepT; simp
    have hm3 : L2.map Stp.cs ++ [[.int .i64 (t.length : Int), str [], str []]] = (L2 ++ keepT t).map Stp.cs := by unfold keepT; simp [Stp.cs]
    simp only [List.cons_append, List.nil_append]
    (try (refine st_D36_1 ?_; intros))
    refine WC.rowSome (a := ax) (es := strs X) zhs (by omega) ?_
    rintro x0 rfl
    refine WC.drawE 9 ([.blk bc (.cells [.slice ac2 L2.length cc2].toArray 40 (0, 0)), .blk bx (.cells [.slice (some x0) X.length cx].toArray 49 (0, 0)), .row (some x0) cx 9 1 (strs X), .blk bp (.cells [.int .i64 (p.1 : Int), .int .i64 (p.2 : Int)].toArray 44 (0, 0))]) (.row ac2 cc2 55 3 (L2.map Stp.cs) :: .blk by_ (.cells [.slice ay Y.length cy].toArray 49 (0, 0)) :: .row ay cy 9 1 (strs Y) :: .blk bk (.cells [.int .i64 ((p.2 + 1 : Nat) : Int)].toArray 3 (0, 0)) :: .blk bi (.cells [.int .i64 ((p.1 + 1 : Nat) : Int)].toArray 3 (0, 0)) :: .row (some a0) cp 44 2 ME :: H) rfl (by decide +kernel) zpk ?_
    (refine cm_D36_1 ?_)
    refine WE.act1 8 (by decide +kernel) rfl rfl (fun c h => by cases h) ?_
    (refine st_D36_1 ?_; intros; rename_i b9)
    refine WQ.acted (B := [.blk b9 (.cells [.int .i64 (t.length : Int), str [], str []].toArray 55 (0, 0))]) (U := .row ac2 cc2 55 3 (L2.map Stp.cs) :: .blk by_ (.cells [.slice ay Y.length cy].toArray 49 (0, 0)) :: .row ay cy 9 1 (strs Y) :: .blk bk (.cells [.int .i64 ((p.2 + 1 : Nat) : Int)].toArray 3 (0, 0)) :: .blk bi (.cells [.int .i64 ((p.1 + 1 : Nat) : Int)].toArray 3 (0, 0)) :: .row (some a0) cp 44 2 ME :: H) rfl (Mem.le.refl _) zpk ?_
    (refine cm_D36_1 ?_)
    refine WE.done (by decide +kernel) ?_
    (refine st_D36_1 ?_; intros; rename_i ac3 cc3)
    subst hME
    rw [hLm, hl3, hm3]
    refine WQ.next (M.length - (q + 1)) ⟨q + 1, p.1 + 1, p.2 + 1, L2 ++ keepT t, ac3, cc3, rfl, rfl, rfl, rfl, rfl, ?_, ?_, ?_, ?_⟩ (by omega) zsb zpk
    · omega
    · exact h6
    · exact hgo
    · omega
  · have hd : M.drop q = [] := List.drop_of_length_le (by omega)
    rw [hd] at hgo hP
    have hle := hP.le
    have hfin := hK L i k ac cc hgo hle.1 hle.2 (by omega)
    (try (refine st_D36_1 ?_; intros))
    exact WQ.weak zsb zpk hfin
end Go.Proofs.Ytieangfnjflfmaa

/-
  The walks of draft.change and draft.Change. No condition.
-/
namespace Go.Proofs.Ytieangfnjflfmaa
open Go Go.Eng
set_option maxRecDepth 100000
set_option maxHeartbeats 4000000
set_option linter.all false
attribute [local irreducible] WL WC WQ QFun QLoop Does Q1 QRound QAssign Go.Addr.add
attribute [local irreducible] strs jn matchL toks plainOf sizesOf chL
theorem change_any {s t : Tx} (hs : s.length ≤ 65536) (ht : t.length ≤ 65536) (w0 : World) (m : Mem) (H : SHeap) : Does Try.prog 33 #[str s, str t] w0 m H
    (fun v m' H' => m.le m' ∧ ∃ c cp, v = .slice c (plainOf (chL s t)).length cp ∧ H' = .row c cp 55 3 ((plainOf (chL s t)).map Stp.cs) :: H) := by
  refine Does.of_body (args := [str s, str t]) Try.func33 rfl Try.ntmps33 rfl ?_
  have hXl := toks_length s
  have hYl := toks_length t
  have hXf := congrArg List.length (toks_join s)
  have hYf := congrArg List.length (toks_join t)
  have hF : chGo (toks s) (toks t) (matchL (toks s) (toks t)) 0 0 = chL s t := by unfold chL; rfl
  have hsz := chL_sizes hs ht
  have hM := match_ok (toks s) (toks t)
  have hMl := hM.len
  (try (refine st ?_; intros))
  refine w_callF Try.func24 ?_ (hs := toks_any s (by omega) _ _ _)
  rintro v m1 H1 ⟨hle1, ax, cx, rfl, rfl⟩
  (try (refine st ?_; intros))
  refine w_callF Try.func24 ?_ (hs := toks_any t (by omega) _ _ _)
  rintro v m2 H1 ⟨hle2, ay, cy, rfl, rfl⟩
  generalize toks s = X at *
  generalize toks t = Y at *
  generalize chL s t = F at *
  refine WL.rowCap (a := ax) (cap := cx) (T := 9) (sz := 1) (es := strs X) zhs ?_
  intro hcx
  refine WL.rowCap (a := ay) (cap := cy) (T := 9) (sz := 1) (es := strs Y) zhs ?_
  intro hcy
  rw [strs_length] at hcx hcy
  (refine st ?_; intros; rename_i bx by_ bc bi bk)
  refine w_callF Try.func25 ?_ (hs := match_any (A := X) (B := Y) (by omega) (by omega) hcx hcy (RowR.row (T := 9) (cap := cx) zhs) (RowR.row (T := 9) (cap := cy) zhs))
  rintro v m9 H9 ⟨rfl, a1, c1, rfl, rfl⟩
  (try (refine st ?_; intros))
  refine WC.newRow (T := 55) (sz := 3) ?_
  refine WC.weak zsb zpk (change_loop (X := X) (Y := Y) (M := matchL X Y) (F := F) (bx := bx) (by_ := by_) (bk := bk) (bc := bc) (bi := bi) (H := H) ⟨by omega, by omega, hcx⟩ ⟨by omega, by omega, hcy⟩ hM (by omega) hF ?_)
  intro L i k ac cc hgo hi hk hL
  (try (refine st ?_; intros))
  refine WL.heap (H' := [.blk bx (.cells [.slice ax X.length cx].toArray 49 (0, 0)), .row ax cx 9 1 (strs X), .blk by_ (.cells [.slice ay Y.length cy].toArray 49 (0, 0)), .row ay cy 9 1 (strs Y), .blk bk (.cells [.int .i64 (k : Int)].toArray 3 (0, 0)), .blk bi (.cells [.int .i64 (i : Int)].toArray 3 (0, 0)), .blk bc (.cells [.slice ac L.length cc].toArray 40 (0, 0)), .row ac cc 55 3 (L.map Stp.cs)] ++ H) zpk ?_
  refine WL.callV rfl Try.func48 rfl rfl (by exact rfl) (by exact rfl) (part_any (X := X) (Y := Y) (L := L) (n := X.length) (mm := Y.length) ⟨by omega, by omega, hcx⟩ ⟨by omega, by omega, hcy⟩ ⟨hi, Nat.le_refl _⟩ ⟨hk, Nat.le_refl _⟩ (by omega)) ?_
  rintro v m9 H9 ⟨rfl, ac2, cc2, rfl⟩
  rw [show L ++ (putT (jn Y k Y.length) ++ dropT (jn X i X.length)) = F from hgo]
  simp only [List.cons_append, List.nil_append]
  (try (refine st ?_; intros))
  refine w_callF Try.func49 ?_ (hs := ePlain_any hsz _ _ _ (RowR.row (a := ac2) zhs))
  rintro v m9 H9 ⟨rfl, c3, p3, rfl, rfl⟩
  (try (refine st ?_; intros))
  exact q_fin0 (H0 := .row c3 p3 55 3 ((plainOf F).map Stp.cs) :: H) ⟨hle1.trans hle2, c3, p3, rfl, rfl⟩ (hd := zpk)
theorem dChange_any {s t : Tx} (h : ¬ Long [s, t]) (w0 : World) (m : Mem) (H : SHeap) : Does Try.prog 14 #[str s, str t] w0 m H
    (fun v m' H' => m.le m' ∧ ∃ c cp, v = .tuple #[.slice c (plainOf (chL s t)).length cp, .int .i64 0] ∧ H' = .row c cp 55 3 ((plainOf (chL s t)).map Stp.cs) :: H) := by
  refine Does.of_body (args := [str s, str t]) Try.func14 rfl Try.ntmps14 rfl ?_
  have hls : s.length ≤ 65536 := Nat.le_of_not_lt fun g => h ⟨s, by simp, g⟩
  have hlt : t.length ≤ 65536 := Nat.le_of_not_lt fun g => h ⟨t, by simp, g⟩
  (refine st ?_; intros; rename_i b3)
  refine w_callF Try.func23 ?_ (hs := long_any (L := [s, t]) (by simp) (rowR_blk (T := 9) (fz := (0, 0)) (L := [str s, str t]) zhs (by unfold strs; rfl) (by simp [strs])))
  rintro v m H9 ⟨rfl, rfl, rfl⟩
  rw [dcd_false h]
  (try (refine st ?_; intros))
  refine w_callF Try.func33 ?_ (hs := change_any hls hlt _ _ _)
  rintro v m1 H1 ⟨hle1, c, cp, rfl, rfl⟩
  (try (refine st ?_; intros))
  exact q_fin0 (H0 := .row c cp 55 3 ((plainOf (chL s t)).map Stp.cs) :: H) ⟨hle1, c, cp, rfl, rfl⟩ (hd := zpk)
end Go.Proofs.Ytieangfnjflfmaa

/-
  What a function hands back that makes a change. No condition.
-/
namespace Go.Eng
open Go Go.RowKit
def ListP (T : TypeId) (r : Int ⊕ List Stp) (k : IntKind) (m : Mem) (H : SHeap) : Value → Mem → SHeap → Prop := fun v m' H' => m' = m ∧ match r with
  | .inl e => v = .tuple #[.slice none 0 0, .int k e] ∧ H' = H
  | .inr l => ∃ c cp, v = .tuple #[.slice c l.length cp, .int k 0] ∧ H' = .row c cp T 3 (l.map Stp.cs) :: H
end Go.Eng

/-
  The walk of edit.Invert, for a seat that reaches no more of the changes. No condition.
-/
namespace Go.Eng
open Go
def invP (l : List Stp) : Int ⊕ List Stp := match sizesOf l with
  | none => .inl 2
  | some _ => .inr (listOf ((atomsOf l).map Atm.inv))
theorem inv_fit {l : List Stp} {f t : Int} (hs : sizesOf l = some (f, t)) : Fit (listOf ((atomsOf l).map Atm.inv)) ∧ sizesOf (listOf ((atomsOf l).map Atm.inv)) = some (t, f) := by
  obtain ⟨hok, _, _, h1, h2, _, h4, _, h6⟩ := sized hs
  obtain ⟨n1, n2⟩ := inv_from (atomsOf l)
  refine ⟨fit_list (by omega) (by omega), ?_⟩
  rw [sizes_list _ (by omega) (by omega), n1, n2, h1, h2]
theorem inv_back {l : List Stp} {s t : List UInt8} {tt : Int} (hs : sizesOf l = some ((s.length : Int), tt)) (ha : applyA s (atomsOf l) = some t) : applyV t (listOf ((atomsOf l).map Atm.inv)) = okV s := by
  obtain ⟨hok, _, _, h1, h2, _, h4, _, h6⟩ := sized hs
  obtain ⟨n1, n2⟩ := inv_from (atomsOf l)
  have hl := apply_len _ _ _ ha
  exact apply_listV (by omega) (inv_apply _ _ _ ha (by omega)) (by omega) (by omega)
end Go.Eng
namespace Go.Proofs.Ytieangfnjflfmaa
open Go Go.Eng
set_option maxRecDepth 100000
set_option maxHeartbeats 4000000
set_option linter.all false
attribute [local irreducible] WL WC WQ QFun QLoop Does Q1 QRound QAssign Go.Addr.add
attribute [local irreducible] sizesF sizesOf
theorem sq_D43_1 {G : Prop} (h : G := by (repeat (first | (refine sp ?_; (repeat intro zzc)) | (refine iF 39 rfl ?_; refine w_callG Try.func39 ?_ (hs := sizes_any (by assumption) _ _ _ (by assumption))))); exact WQ.q1 rfl) : G := h
theorem st_D43_1 {G G' : Prop} (next : G') (h : Bx G' → G := by intro zzn; (first | ((refine st ?_; (repeat intro zzc)); (try ((first | (refine iF 39 rfl ?_; refine w_callG Try.func39 ?_ (hs := sizes_any (by assumption) _ _ _ (by assumption))) | ((refine iDraw ?_; (first | refine WC.drawAll rfl (by decide +kernel) ?_ | refine WC.draw 1 rfl (by decide +kernel) ?_ | refine WC.draw 2 rfl (by decide +kernel) ?_ | refine WC.draw 3 rfl (by decide +kernel) ?_ | refine WC.draw 4 rfl (by decide +kernel) ?_ | refine WC.draw 5 rfl (by decide +kernel) ?_ | refine WC.draw 6 rfl (by decide +kernel) ?_ | refine WC.draw 7 rfl (by decide +kernel) ?_ | refine WC.draw 8 rfl (by decide +kernel) ?_ | refine WC.draw 9 rfl (by decide +kernel) ?_ | refine WC.draw 10 rfl (by decide +kernel) ?_ | refine WC.draw 11 rfl (by decide +kernel) ?_ | refine WC.draw 12 rfl (by decide +kernel) ?_ | refine WC.draw 13 rfl (by decide +kernel) ?_ | refine WC.draw 14 rfl (by decide +kernel) ?_ | refine WC.draw 15 rfl (by decide +kernel) ?_ | refine WC.draw 16 rfl (by decide +kernel) ?_ | refine WC.draw 17 rfl (by decide +kernel) ?_ | refine WC.draw 18 rfl (by decide +kernel) ?_ | refine WC.draw 19 rfl (by decide +kernel) ?_ | refine WC.draw 20 rfl (by decide +kernel) ?_ | refine WC.draw 21 rfl (by decide +kernel) ?_ | refine WC.draw 22 rfl (by decide +kernel) ?_ | refine WC.draw 23 rfl (by decide +kernel) ?_ | refine WC.draw 24 rfl (by decide +kernel) ?_)); (repeat (refine WD.cons rfl (fun c h => by cases h) sq_D43_1 ?_)); refine WD.nil ?_)); (try (refine st ?_; (repeat intro zzc)))))) | ((first | (refine iF 39 rfl ?_; refine w_callG Try.func39 ?_ (hs := sizes_any (by assumption) _ _ _ (by assumption))) | ((refine iDraw ?_; (first | refine WC.drawAll rfl (by decide +kernel) ?_ | refine WC.draw 1 rfl (by decide +kernel) ?_ | refine WC.draw 2 rfl (by decide +kernel) ?_ | refine WC.draw 3 rfl (by decide +kernel) ?_ | refine WC.draw 4 rfl (by decide +kernel) ?_ | refine WC.draw 5 rfl (by decide +kernel) ?_ | refine WC.draw 6 rfl (by decide +kernel) ?_ | refine WC.draw 7 rfl (by decide +kernel) ?_ | refine WC.draw 8 rfl (by decide +kernel) ?_ | refine WC.draw 9 rfl (by decide +kernel) ?_ | refine WC.draw 10 rfl (by decide +kernel) ?_ | refine WC.draw 11 rfl (by decide +kernel) ?_ | refine WC.draw 12 rfl (by decide +kernel) ?_ | refine WC.draw 13 rfl (by decide +kernel) ?_ | refine WC.draw 14 rfl (by decide +kernel) ?_ | refine WC.draw 15 rfl (by decide +kernel) ?_ | refine WC.draw 16 rfl (by decide +kernel) ?_ | refine WC.draw 17 rfl (by decide +kernel) ?_ | refine WC.draw 18 rfl (by decide +kernel) ?_ | refine WC.draw 19 rfl (by decide +kernel) ?_ | refine WC.draw 20 rfl (by decide +kernel) ?_ | refine WC.draw 21 rfl (by decide +kernel) ?_ | refine WC.draw 22 rfl (by decide +kernel) ?_ | refine WC.draw 23 rfl (by decide +kernel) ?_ | refine WC.draw 24 rfl (by decide +kernel) ?_)); (repeat (refine WD.cons rfl (fun c h => by cases h) sq_D43_1 ?_)); refine WD.nil ?_)); (try (refine st ?_; (repeat intro zzc))))); (repeat ((first | (refine iF 39 rfl ?_; refine w_callG Try.func39 ?_ (hs := sizes_any (by assumption) _ _ _ (by assumption))) | ((refine iDraw ?_; (first | refine WC.drawAll rfl (by decide +kernel) ?_ | refine WC.draw 1 rfl (by decide +kernel) ?_ | refine WC.draw 2 rfl (by decide +kernel) ?_ | refine WC.draw 3 rfl (by decide +kernel) ?_ | refine WC.draw 4 rfl (by decide +kernel) ?_ | refine WC.draw 5 rfl (by decide +kernel) ?_ | refine WC.draw 6 rfl (by decide +kernel) ?_ | refine WC.draw 7 rfl (by decide +kernel) ?_ | refine WC.draw 8 rfl (by decide +kernel) ?_ | refine WC.draw 9 rfl (by decide +kernel) ?_ | refine WC.draw 10 rfl (by decide +kernel) ?_ | refine WC.draw 11 rfl (by decide +kernel) ?_ | refine WC.draw 12 rfl (by decide +kernel) ?_ | refine WC.draw 13 rfl (by decide +kernel) ?_ | refine WC.draw 14 rfl (by decide +kernel) ?_ | refine WC.draw 15 rfl (by decide +kernel) ?_ | refine WC.draw 16 rfl (by decide +kernel) ?_ | refine WC.draw 17 rfl (by decide +kernel) ?_ | refine WC.draw 18 rfl (by decide +kernel) ?_ | refine WC.draw 19 rfl (by decide +kernel) ?_ | refine WC.draw 20 rfl (by decide +kernel) ?_ | refine WC.draw 21 rfl (by decide +kernel) ?_ | refine WC.draw 22 rfl (by decide +kernel) ?_ | refine WC.draw 23 rfl (by decide +kernel) ?_ | refine WC.draw 24 rfl (by decide +kernel) ?_)); (repeat (refine WD.cons rfl (fun c h => by cases h) sq_D43_1 ?_)); refine WD.nil ?_)); (try (refine st ?_; (repeat intro zzc))))); (repeat revert zzc); exact zzn.out) : G := h ⟨next⟩
theorem eInvert_any {a : Option Addr} {cap : Nat} {l : List Stp} (hf : Fit l) (w0 : World) (m : Mem) (H : SHeap) (hr : RowR w0 m H 3 a (l.map Stp.cs)) :
    Does Try.prog 20 #[.slice a l.length cap] w0 m H (ListP 55 (invP l) .i64 m H) := by
  refine Does.of_body (args := [.slice a l.length cap]) Try.func20 rfl Try.ntmps20 rfl ?_
  have hln : (l.map Stp.cs).length = l.length := by simp
  cases hs : sizesOf l with
  | none =>
    have e : invP l = .inl 2 := by simp only [invP, hs]
    have e2 : szP (sizesOf l) = .tuple #[.int .i64 0, .int .i64 0, .int .i64 2] := by rw [hs]; rfl
    rw [e]
    (try (refine st_D43_1 ?_; intros))
    rw [e2]
    (try (refine st_D43_1 ?_; intros))
    exact q_fin0 (H0 := H) ⟨rfl, rfl, rfl⟩ (hd := zpk)
  | some ft =>
    obtain ⟨f, t⟩ := ft
    have e : invP l = .inr (listOf ((atomsOf l).map Atm.inv)) := by simp only [invP, hs]
    have e2 : szP (sizesOf l) = .tuple #[.int .i64 f, .int .i64 t, .int .i64 0] := by rw [hs]; rfl
    obtain ⟨hok, hal, hpl, hfr, _, g1, g2, _, _⟩ := sized hs
    have hlen := steps_le l hok
    rw [e]
    have hlist : listOf ((atomsOf l).map Atm.inv) = (Bld.start.run ((atomsOf l).map Atm.inv)).close.l := rfl
    generalize listOf ((atomsOf l).map Atm.inv) = R at *
    (try (refine st_D43_1 ?_; intros))
    rw [e2]
    (refine st_D43_1 ?_; intros; rename_i b)
    refine WC.newRow (T := 55) (sz := 3) ?_
    refine WC.loopH [(21, .int .i64 ((0) : Int)), (20, .int .i64 (l.length : Int)), (19, .slice a l.length cap), (7, .pointer (some ⟨b, 0, none⟩))] ?_ ?_ (fun j r ds m' H' => ∃ (i : Nat) (c : Option Addr) (cp : Nat) (B : Bld), j = l.length - i ∧ r = [(21, .int .i64 (i : Int)), (20, .int .i64 (l.length : Int)), (19, .slice a l.length cap), (7, .pointer (some ⟨b, 0, none⟩))] ∧ ds = [] ∧ m = m' ∧ H' = .blk b (.cells [.slice c B.l.length cp, str B.p, str B.d].toArray 96 (0, 0)) :: .row c cp 55 3 (B.l.map Stp.cs) :: H ∧ (i ≤ l.length) ∧ (B = Bld.start.run ((atomsOf (l.take i)).map Atm.inv))) (l.length - (0)) ⟨0, none, 0, Bld.start, rfl, rfl, rfl, rfl, rfl, by omega, by simp [atomsOf, Bld.run]⟩ ?_
    · (repeat (first | exact Env.Sub.nil | refine Env.Sub.cons rfl ?_))
    · exact zpk
    rintro j r ds m' H' ⟨i, c, cp, B, rfl, rfl, rfl, rfl, rfl, hi, hB⟩
    have htl : (atomsOf (l.take i)).length ≤ (atomsOf l).length := by
      have e : atomsOf l = atomsOf (l.take i) ++ atomsOf (l.drop i) := by rw [← atoms_append, List.take_append_drop]
      rw [e]; simp
    have hfit : BFit 10000000000 B := by rw [hB]; exact (BFit.runs _).mono (by rw [List.length_map]; omega)
    by_cases hlt : i < l.length
    · obtain ⟨x, hx, hget, htk, hmem, hdr⟩ := at_idx (f := Stp.cs) hlt
      have hr1 := (hr.more (i := .row c cp 55 3 (B.l.map Stp.cs))).more (i := .blk b (.cells [.slice c B.l.length cp, str B.p, str B.d].toArray 96 (0, 0)))
      have hxl := mem_atoms hmem
      have hxb := stp_bounds (hok x hmem)
      refine WC.rSome hr1 (by omega) ?_
      rintro a0 rfl
      (refine st_D43_1 ?_; intros; rename_i bx)
      refine WL.heap (H' := .blk b (.cells [.slice c B.l.length cp, str B.p, str B.d].toArray 96 (0, 0)) :: .row c cp 55 3 (B.l.map Stp.cs) :: H) zpk ?_
      refine w_callF Try.func40 ?_ (hs := step_any B x.inv (by simp only [Stp.inv]; omega) (by simp only [Stp.inv]; omega) (by simp only [Stp.inv]; omega) (hfit.mono (by omega)) _ _ _)
      rintro v m H1 ⟨rfl, rfl, c1, cp1, rfl⟩
      (try (refine st_D43_1 ?_; intros))
      refine WQ.next (l.length - (i + 1)) ⟨i + 1, c1, cp1, B.step x.inv, rfl, rfl, rfl, rfl, rfl, ?_, ?_⟩ (by omega) zsb zpk
      · omega
      · rw [htk, atoms_append, List.map_append, run_append, ← hB, atoms_one, ← inv_atoms (hok x hmem), run_step _ _ (inv_ok (hok x hmem))]
    · obtain rfl : i = l.length := by omega
      have hlen2 := hfit.len
      rw [List.take_length] at hB
      rw [hlist, ← hB]
      (try (refine st_D43_1 ?_; intros))
      refine w_callF Try.func41 ?_ (hs := done_any B (by omega) _ _ _)
      rintro v m H1 ⟨rfl, c1, cp1, rfl, rfl⟩
      (try (refine st_D43_1 ?_; intros))
      exact q_fin0 (H0 := .row c1 cp1 55 3 (B.close.l.map Stp.cs) :: H) ⟨rfl, c1, cp1, rfl, rfl⟩ (hd := zpk)
end Go.Proofs.Ytieangfnjflfmaa

/-
  A match has as many pairs as can be; what a change keeps. No condition.
-/
namespace Go.Eng
open Go
theorem lcs_one (x : Tx) : ∀ b : List Tx, lcs [x] (b ++ [x]) = 1
  | [] => by rw [List.nil_append, lcs_eq, lcs_nil]
  | v :: b => by
    rw [List.cons_append]
    by_cases h : x = v
    · subst h; rw [lcs_eq, lcs_nil']
    · rw [lcs_ne h, lcs_nil', lcs_one x b]; rfl
theorem lcs_one' (x : Tx) : ∀ a : List Tx, lcs (a ++ [x]) [x] = 1
  | [] => by rw [List.nil_append, lcs_eq, lcs_nil]
  | v :: a => by
    rw [List.cons_append]
    by_cases h : v = x
    · subst h; rw [lcs_eq, lcs_nil]
    · rw [lcs_ne h, lcs_nil, lcs_one' x a]; rfl
theorem lcs_snoc (x : Tx) : ∀ (n : Nat) (a b : List Tx), a.length + b.length ≤ n → lcs (a ++ [x]) (b ++ [x]) = lcs a b + 1
  | _, [], b, _ => by rw [List.nil_append, lcs_one, lcs_nil']
  | _, u :: a, [], _ => by rw [List.nil_append, lcs_one', lcs_nil]
  | 0, u :: a, v :: b, h => by simp at h
  | n + 1, u :: a, v :: b, h => by
    simp only [List.length_cons] at h
    rw [List.cons_append, List.cons_append]
    by_cases e : u = v
    · subst e
      rw [lcs_eq, lcs_eq, lcs_snoc x n a b (by omega)]
    · have h1 := lcs_snoc x n a (v :: b) (by simp only [List.length_cons]; omega)
      have h2 := lcs_snoc x n (u :: a) b (by simp only [List.length_cons]; omega)
      rw [List.cons_append] at h1 h2
      rw [lcs_ne e, lcs_ne e, h1, h2]
      omega
theorem lcs_tail : ∀ (s a b : List Tx), lcs (a ++ s) (b ++ s) = lcs a b + s.length
  | [], a, b => by simp
  | x :: s, a, b => by
    rw [show a ++ x :: s = (a ++ [x]) ++ s by simp, show b ++ x :: s = (b ++ [x]) ++ s by simp, lcs_tail s, lcs_snoc x _ a b (Nat.le_refl _), List.length_cons]
    omega
theorem lcs_head : ∀ (p a b : List Tx), lcs (p ++ a) (p ++ b) = p.length + lcs a b
  | [], a, b => by simp
  | x :: p, a, b => by
    rw [List.cons_append, List.cons_append, lcs_eq, lcs_head p, List.length_cons]; omega
theorem headN_take : ∀ (a b : List Tx), a.take (headN a b) = b.take (headN a b)
  | [], b => by simp [headN]
  | _ :: _, [] => by simp [headN]
  | x :: xs, y :: ys => by
    rw [headN]
    split
    · next h => rw [h, List.take_succ_cons, List.take_succ_cons, headN_take xs ys]
    · simp
theorem tail_drop (a b : List Tx) : a.drop (a.length - tailN a b) = b.drop (b.length - tailN a b) := by
  have h1 := tailN_le a b
  have h := headN_take ((a.drop (headN a b)).reverse) ((b.drop (headN a b)).reverse)
  rw [← show tailN a b = headN ((a.drop (headN a b)).reverse) ((b.drop (headN a b)).reverse) from rfl, List.take_reverse, List.take_reverse, List.reverse_inj, List.drop_drop, List.drop_drop, List.length_drop, List.length_drop] at h
  rw [show headN a b + (a.length - headN a b - tailN a b) = a.length - tailN a b by omega, show headN a b + (b.length - headN a b - tailN a b) = b.length - tailN a b by omega] at h
  exact h
theorem match_most {a b : List Tx} (ha : a.length ≤ 1024) (hb : b.length ≤ 1024) : (matchL a b).length = lcs a b := by
  have h1 := tailN_le a b
  have hh := headN_take a b
  have ht := tail_drop a b
  have ea : a = a.take (headN a b) ++ (midA a b ++ a.drop (a.length - tailN a b)) := by
    unfold midA
    conv => lhs; rw [← List.take_append_drop (a.length - tailN a b) a, ← List.take_append_drop (headN a b) (a.take (a.length - tailN a b))]
    rw [List.take_take, Nat.min_eq_left (by omega), List.append_assoc]
  have eb : b = b.take (headN a b) ++ (midB a b ++ b.drop (b.length - tailN a b)) := by
    unfold midB
    conv => lhs; rw [← List.take_append_drop (b.length - tailN a b) b, ← List.take_append_drop (headN a b) (b.take (b.length - tailN a b))]
    rw [List.take_take, Nat.min_eq_left (by omega), List.append_assoc]
  have hl : lcs a b = headN a b + (lcs (midA a b) (midB a b) + tailN a b) := by
    have eb2 : b = a.take (headN a b) ++ (midB a b ++ a.drop (a.length - tailN a b)) := by rw [hh, ht]; exact eb
    refine (congr (congrArg lcs ea) eb2).trans ?_
    rw [lcs_head, lcs_tail, List.length_take, List.length_drop]
    omega
  have hA : (midA a b).length ≤ 1024 := by unfold midA; rw [List.length_drop, List.length_take]; omega
  have hB : (midB a b).length ≤ 1024 := by unfold midB; rw [List.length_drop, List.length_take]; omega
  rw [hl]
  unfold matchL
  rw [if_pos ⟨hA, hB⟩]
  simp only [List.length_append, List.length_map, List.length_range, midL_length]
  omega
/-- how many bytes are kept -/
def keepA : List Atm → Nat
  | [] => 0
  | .k :: l => keepA l + 1
  | .d _ :: l => keepA l
  | .p _ :: l => keepA l
theorem keepA_app : ∀ x y : List Atm, keepA (x ++ y) = keepA x + keepA y
  | [], y => by simp [keepA]
  | .k :: x, y => by simp only [List.cons_append, keepA, keepA_app x y]; omega
  | .d _ :: x, y => by simp only [List.cons_append, keepA, keepA_app x y]
  | .p _ :: x, y => by simp only [List.cons_append, keepA, keepA_app x y]
theorem keepA_d (l : List UInt8) : keepA (l.map .d) = 0 := by induction l with
  | nil => rfl
  | cons a l ih => simp [keepA, ih]
theorem keepA_p (l : List UInt8) : keepA (l.map .p) = 0 := by induction l with
  | nil => rfl
  | cons a l ih => simp [keepA, ih]
theorem keepA_k (n : Nat) : keepA (List.replicate n .k) = n := by induction n with
  | zero => rfl
  | succ n ih => simp [List.replicate_succ, keepA, ih]
theorem keepA_run : ∀ (L : List Atm) (g : Gs), (g.run L).done.length = g.done.length + keepA L
  | [], g => rfl
  | a :: L, g => by
    have h := keepA_run L (g.atom a)
    cases a with
    | k =>
      show ((g.atom .k).run L).done.length = _
      rw [h]
      simp only [Gs.atom, List.length_append, List.length_singleton, keepA]; omega
    | d b => exact h
    | p b => exact h
theorem keepA_gap (g : Gap) : keepA (gapA g) = 0 := by unfold gapA; simp [keepA_app, keepA_d, keepA_p]
theorem keepA_nf (g : Gs) : keepA (nfOf g) = g.done.length := by
  have h : ∀ l : List Gap, keepA (l.flatMap fun x => gapA x ++ [.k]) = l.length := by
    intro l
    induction l with
    | nil => rfl
    | cons x l ih =>
      rw [List.flatMap_cons, keepA_app, keepA_app, keepA_gap, ih, List.length_cons]
      simp only [keepA]; omega
  unfold nfOf
  rw [keepA_app, h, keepA_gap, Nat.add_zero]
theorem keepA_plain {l : List Stp} (h : ∀ s ∈ l, stpOk s) : keepA (atomsOf (plainOf l)) = keepA (atomsOf l) := by
  rw [plain_atoms, keepA_nf, gapsOf_run l h, keepA_run]
  show 0 + _ = _
  omega
/-- the sum of what is kept, step by step -/
def keepN (l : List Stp) : Int := (l.map Stp.k).sum
theorem keepN_atoms : ∀ {l : List Stp}, (∀ s ∈ l, stpOk s) → keepN l = (keepA (atomsOf l) : Int)
  | [], _ => rfl
  | s :: l, h => by
    have ih := keepN_atoms (l := l) (fun x hx => h x (List.mem_cons_of_mem _ hx))
    have hk := (stp_bounds (h s List.mem_cons_self)).1
    have e : keepN (s :: l) = s.k + keepN l := by unfold keepN; rw [List.map_cons, List.sum_cons]
    have e2 : keepA s.atoms = s.k.toNat := by simp [Stp.atoms, keepA_app, keepA_k, keepA_d, keepA_p]
    rw [e, ih, atoms_cons, keepA_app, e2]
    omega
/-- how long the tokens of pairs are -/
def pairN (x : List Tx) (l : List (Nat × Nat)) : Nat := (l.map fun p => (x.getD p.1 []).length).sum
theorem ch_keep {x y : List Tx} : ∀ (l : List (Nat × Nat)) (i k : Nat), keepA (atomsOf (chGo x y l i k)) = pairN x l
  | [], i, k => by
    rw [chGo, atoms_append, putT_atoms, dropT_atoms, keepA_app, keepA_p, keepA_d]; rfl
  | p :: l, i, k => by
    have ih := ch_keep (x := x) (y := y) l (p.1 + 1) (p.2 + 1)
    rw [chGo, atoms_append, atoms_append, atoms_append, putT_atoms, dropT_atoms, keepT_atoms, keepA_app, keepA_app, keepA_app, keepA_p, keepA_d, keepA_k, ih]
    unfold pairN
    rw [List.map_cons, List.sum_cons]
    omega
theorem chL_keep (s t : List UInt8) : keepN (plainOf (chL s t)) = (pairN (toks s) (matchL (toks s) (toks t)) : Int) := by
  have h1 : ∀ x ∈ plainOf (chL s t), stpOk x := by
    rw [plain_list]
    exact (list_ok _).1
  rw [keepN_atoms h1, keepA_plain (chL_ok s t)]
  unfold chL
  rw [ch_keep]
end Go.Eng

/-
  A walk's engine: the first entry of a map whose keys are texts. No condition.
-/
set_option linter.all false
namespace Go.Eng
open Go Go.RowKit
section
variable {P : Program} {ro : Option Nat} {n : Nat} {w0 : World} {Q : Exit → Act → World → Prop} {r : Env} {ds : List Nat} {m : Mem} {H : SHeap}
  {ops : Array Oper} {l : List Oper} {d : Nat} {ty : TypeId} {pos : String} {after : Array Edge} {t : TypeId} {x y : Operand}
theorem run_checkKeyS {kt : TypeId} {k : ByteArray} {e : Bool} {w : World} (hk : P.underlying kt = some .string) : (Instr.checkKey e 10000 kt (.string k)).run P w = .ok () w := by
  have key : ∀ j, (Instr.checkKey e (j + 1) kt (.string k)).run P w = .ok () w := by
    intro j
    rw [Instr.checkKey]
    simp [run_underlying hk]
  exact key 9999
theorem WL.mapFirst {kt et : TypeId} {b : Nat} {k : ByteArray} {v : Value} {u : Operand} {H' : SHeap} (hx : r.ev x = some (.map (some b))) (hy : r.ev y = some (.string k)) (hv : r.ev u = some v)
    (hu : P.underlying t = some (.map kt et)) (hk : P.underlying kt = some .string) (hr : Repl (.blk b (.map #[] 0)) (.blk b (.map #[⟨.string k, v, 0⟩] 1)) H H')
    (h : WL P ro n w0 ops Q l r ds m H') :
    WL P ro n w0 ops Q (⟨none, .insert t x y u, ty, pos, after, none⟩ :: l) r ds m H :=
  .act (fun m' H'' => m' = m ∧ H'' = H') rfl (fun _ h => by cases h)
    (fun tmps w ho hs => ⟨m, H', w.putObj b (.map #[⟨.string k, v, 0⟩] 1), by
      have hb : w.heap[b]? = some (.map #[] 0) := hs.own _ hr.mem
      have h1 : (getObj b).run P w = .ok (.map #[] 0) w := by simp [getObj, Sem.run, hb]
      have h3 : ∀ o, (setObj b o).run P w = .ok () (w.putObj b o) := fun o => by simp [setObj, Sem.run, hb, World.putObj]
      have h2 : (Instr.mapUpdate t (.map (some b)) (.string k) v).run P w = .ok () (w.putObj b (.map #[⟨.string k, v, 0⟩] 1)) := by
        simp only [Instr.mapUpdate, Sem.run_bind, run_underlying hu, Result.andThen_ok, h1]
        simp only [Sem.run_bind, Sem.run_pure, Result.andThen_ok, run_checkKeyS hk, Instr.findKey, run_underlying hk]
        rw [show Instr.findNow .string (.string k) (#[] : Array MapEntry).toList 0 = some none from rfl]
        simp only [Sem.run_pure, Result.andThen_ok]
        rw [h3]; rfl
      simp only [execOp, ho.ev hx, ho.ev hy, ho.ev hv, h2, Sem.run_bind, Result.andThen_ok]
      try rfl, hs.replObj hr, rfl, rfl⟩)
    (by rintro _ _ ⟨rfl, rfl⟩; exact h)
end
end Go.Eng

/-
  The walks of draft.New and Len. No condition.
-/
namespace Go.Proofs.Ytieangfnjflfmaa
open Go Go.Eng
set_option maxRecDepth 100000
set_option maxHeartbeats 4000000
set_option linter.all false
attribute [local irreducible] WL WC WQ QFun QLoop Does Q1 QRound QAssign Go.Addr.add
theorem sq_D18_1 {G : Prop} (h : G := by (repeat (first | (refine sp ?_; (repeat intro zzc)) | (refine WL.makeMap .i64 rfl ?_; intro zzc))); exact WQ.q1 rfl) : G := h
theorem st_D18_1 {G G' : Prop} (next : G') (h : Bx G' → G := by intro zzn; (first | ((refine st ?_; (repeat intro zzc)); (try ((first | (refine WL.makeMap .i64 rfl ?_; intro zzc) | ((refine iDraw ?_; (first | refine WC.drawAll rfl (by decide +kernel) ?_ | refine WC.draw 1 rfl (by decide +kernel) ?_ | refine WC.draw 2 rfl (by decide +kernel) ?_ | refine WC.draw 3 rfl (by decide +kernel) ?_ | refine WC.draw 4 rfl (by decide +kernel) ?_ | refine WC.draw 5 rfl (by decide +kernel) ?_ | refine WC.draw 6 rfl (by decide +kernel) ?_ | refine WC.draw 7 rfl (by decide +kernel) ?_ | refine WC.draw 8 rfl (by decide +kernel) ?_ | refine WC.draw 9 rfl (by decide +kernel) ?_ | refine WC.draw 10 rfl (by decide +kernel) ?_ | refine WC.draw 11 rfl (by decide +kernel) ?_ | refine WC.draw 12 rfl (by decide +kernel) ?_ | refine WC.draw 13 rfl (by decide +kernel) ?_ | refine WC.draw 14 rfl (by decide +kernel) ?_ | refine WC.draw 15 rfl (by decide +kernel) ?_ | refine WC.draw 16 rfl (by decide +kernel) ?_ | refine WC.draw 17 rfl (by decide +kernel) ?_ | refine WC.draw 18 rfl (by decide +kernel) ?_ | refine WC.draw 19 rfl (by decide +kernel) ?_ | refine WC.draw 20 rfl (by decide +kernel) ?_ | refine WC.draw 21 rfl (by decide +kernel) ?_ | refine WC.draw 22 rfl (by decide +kernel) ?_ | refine WC.draw 23 rfl (by decide +kernel) ?_ | refine WC.draw 24 rfl (by decide +kernel) ?_)); (repeat (refine WD.cons rfl (fun c h => by cases h) sq_D18_1 ?_)); refine WD.nil ?_)); (try (refine st ?_; (repeat intro zzc)))))) | ((first | (refine WL.makeMap .i64 rfl ?_; intro zzc) | ((refine iDraw ?_; (first | refine WC.drawAll rfl (by decide +kernel) ?_ | refine WC.draw 1 rfl (by decide +kernel) ?_ | refine WC.draw 2 rfl (by decide +kernel) ?_ | refine WC.draw 3 rfl (by decide +kernel) ?_ | refine WC.draw 4 rfl (by decide +kernel) ?_ | refine WC.draw 5 rfl (by decide +kernel) ?_ | refine WC.draw 6 rfl (by decide +kernel) ?_ | refine WC.draw 7 rfl (by decide +kernel) ?_ | refine WC.draw 8 rfl (by decide +kernel) ?_ | refine WC.draw 9 rfl (by decide +kernel) ?_ | refine WC.draw 10 rfl (by decide +kernel) ?_ | refine WC.draw 11 rfl (by decide +kernel) ?_ | refine WC.draw 12 rfl (by decide +kernel) ?_ | refine WC.draw 13 rfl (by decide +kernel) ?_ | refine WC.draw 14 rfl (by decide +kernel) ?_ | refine WC.draw 15 rfl (by decide +kernel) ?_ | refine WC.draw 16 rfl (by decide +kernel) ?_ | refine WC.draw 17 rfl (by decide +kernel) ?_ | refine WC.draw 18 rfl (by decide +kernel) ?_ | refine WC.draw 19 rfl (by decide +kernel) ?_ | refine WC.draw 20 rfl (by decide +kernel) ?_ | refine WC.draw 21 rfl (by decide +kernel) ?_ | refine WC.draw 22 rfl (by decide +kernel) ?_ | refine WC.draw 23 rfl (by decide +kernel) ?_ | refine WC.draw 24 rfl (by decide +kernel) ?_)); (repeat (refine WD.cons rfl (fun c h => by cases h) sq_D18_1 ?_)); refine WD.nil ?_)); (try (refine st ?_; (repeat intro zzc))))); (repeat ((first | (refine WL.makeMap .i64 rfl ?_; intro zzc) | ((refine iDraw ?_; (first | refine WC.drawAll rfl (by decide +kernel) ?_ | refine WC.draw 1 rfl (by decide +kernel) ?_ | refine WC.draw 2 rfl (by decide +kernel) ?_ | refine WC.draw 3 rfl (by decide +kernel) ?_ | refine WC.draw 4 rfl (by decide +kernel) ?_ | refine WC.draw 5 rfl (by decide +kernel) ?_ | refine WC.draw 6 rfl (by decide +kernel) ?_ | refine WC.draw 7 rfl (by decide +kernel) ?_ | refine WC.draw 8 rfl (by decide +kernel) ?_ | refine WC.draw 9 rfl (by decide +kernel) ?_ | refine WC.draw 10 rfl (by decide +kernel) ?_ | refine WC.draw 11 rfl (by decide +kernel) ?_ | refine WC.draw 12 rfl (by decide +kernel) ?_ | refine WC.draw 13 rfl (by decide +kernel) ?_ | refine WC.draw 14 rfl (by decide +kernel) ?_ | refine WC.draw 15 rfl (by decide +kernel) ?_ | refine WC.draw 16 rfl (by decide +kernel) ?_ | refine WC.draw 17 rfl (by decide +kernel) ?_ | refine WC.draw 18 rfl (by decide +kernel) ?_ | refine WC.draw 19 rfl (by decide +kernel) ?_ | refine WC.draw 20 rfl (by decide +kernel) ?_ | refine WC.draw 21 rfl (by decide +kernel) ?_ | refine WC.draw 22 rfl (by decide +kernel) ?_ | refine WC.draw 23 rfl (by decide +kernel) ?_ | refine WC.draw 24 rfl (by decide +kernel) ?_)); (repeat (refine WD.cons rfl (fun c h => by cases h) sq_D18_1 ?_)); refine WD.nil ?_)); (try (refine st ?_; (repeat intro zzc))))); (repeat revert zzc); exact zzn.out) : G := h ⟨next⟩
theorem new_any (s : Tx) (hs : s.length ≤ 65536) (w0 : World) (m : Mem) (H : SHeap) : Does Try.prog 21 #[str s] w0 m H (fun v m' H' => m' = m ∧ ∃ (b bm : Nat) (a : Option Addr) (c : Nat), v = .tuple #[.pointer (some ⟨b, 0, none⟩), .int .i64 0] ∧ H' = .blk b (.cells [.slice a 1 c, .map (some bm)].toArray 106 (0, 0)) :: H) := by
  refine Does.of_body (args := [str s]) Try.func21 rfl Try.ntmps21 rfl ?_
  (refine st_D18_1 ?_; intros; rename_i b3)
  refine w_callF Try.func23 ?_ (hs := long_any (L := [s]) (by simp) (rowR_blk (T := 9) (fz := (0, 0)) (L := [str s]) zhs rfl (by simp [strs])))
  rintro v m H9 ⟨rfl, rfl, rfl⟩
  rw [dcd_false (show ¬ Long [s] from by rintro ⟨x, hx, hx2⟩; rw [List.mem_singleton] at hx; subst hx; omega)]
  (refine st_D18_1 ?_; intros; rename_i bd bm)
  refine WL.mapFirst rfl rfl rfl rfl rfl (by repeat (first | exact Repl.here | apply Repl.there)) ?_
  (refine st_D18_1 ?_; intros; rename_i bh)
  exact q_fin0 (H0 := .blk bh (.cells [.slice (some ⟨bd, 0, none⟩) 1 1, .map (some bm)].toArray 106 (0, 0)) :: H) ⟨rfl, bh, bm, some ⟨bd, 0, none⟩, 1, rfl, rfl⟩ (hd := zpk)
theorem len_any {b n c : Nat} {a : Option Addr} {mp : Value} (w0 : World) (m : Mem) (H : SHeap) : Does Try.prog 22 #[.pointer (some ⟨b, 0, none⟩)] w0 m (.blk b (.cells [.slice a n c, mp].toArray 106 (0, 0)) :: H) (Gives (.int .i64 (n : Int)) m (.blk b (.cells [.slice a n c, mp].toArray 106 (0, 0)) :: H)) := by
  refine Does.of_body (args := [.pointer (some ⟨b, 0, none⟩)]) Try.func22 rfl Try.ntmps22 rfl ?_
  (try (refine st_D18_1 ?_; intros))
  exact q_fin0 (H0 := .blk b (.cells [.slice a n c, mp].toArray 106 (0, 0)) :: H) (Gives.mk rfl) (hd := zpk)
end Go.Proofs.Ytieangfnjflfmaa

/-
  The law's own example. No condition.
-/
namespace Go.Eng
open Go
theorem toks_abc : toks [97, 32, 98, 32, 99] = [[97], [32], [98], [32], [99]] := by decide +kernel
theorem toks_axc : toks [97, 32, 120, 32, 99] = [[97], [32], [120], [32], [99]] := by decide +kernel
theorem toks_abd : toks [97, 32, 98, 32, 100] = [[97], [32], [98], [32], [100]] := by decide +kernel
theorem match_axc : matchL [[97], [32], [98], [32], [99]] [[97], [32], [120], [32], [99]] = [(0, 0), (1, 1), (3, 3), (4, 4)] := by
  have h1 : headN [[97], [32], [98], [32], [99]] [[97], [32], [120], [32], [99]] = 2 := by decide +kernel
  have h2 : tailN [[97], [32], [98], [32], [99]] [[97], [32], [120], [32], [99]] = 2 := by decide +kernel
  have h3 : midA [[97], [32], [98], [32], [99]] [[97], [32], [120], [32], [99]] = [[98]] := by decide +kernel
  have h4 : midB [[97], [32], [98], [32], [99]] [[97], [32], [120], [32], [99]] = [[120]] := by decide +kernel
  unfold matchL
  rw [h1, h2, h3, h4]
  simp [midL, firstJ]
  decide
theorem match_abd : matchL [[97], [32], [98], [32], [99]] [[97], [32], [98], [32], [100]] = [(0, 0), (1, 1), (2, 2), (3, 3)] := by
  have h1 : headN [[97], [32], [98], [32], [99]] [[97], [32], [98], [32], [100]] = 4 := by decide +kernel
  have h2 : tailN [[97], [32], [98], [32], [99]] [[97], [32], [98], [32], [100]] = 0 := by decide +kernel
  have h3 : midA [[97], [32], [98], [32], [99]] [[97], [32], [98], [32], [100]] = [[99]] := by decide +kernel
  have h4 : midB [[97], [32], [98], [32], [99]] [[97], [32], [98], [32], [100]] = [[100]] := by decide +kernel
  unfold matchL
  rw [h1, h2, h3, h4]
  simp [midL, firstJ]
  decide
theorem weave_wakes : (weaveL [97, 32, 98, 32, 99] [97, 32, 120, 32, 99] [97, 32, 98, 32, 100]).out = [97, 32, 120, 32, 100] ∧ (weaveL [97, 32, 98, 32, 99] [97, 32, 120, 32, 99] [97, 32, 98, 32, 100]).l = [] := by
  unfold weaveL
  rw [toks_abc, toks_axc, toks_abd, match_axc, match_abd]
  decide +kernel
end Go.Eng

/-
  The walk of the laws' wakes. No condition.
-/
namespace Go.Proofs.Ytieangfnjflfmaa
open Go Go.Eng
set_option maxRecDepth 100000
set_option maxHeartbeats 4000000
set_option linter.all false
attribute [local irreducible] WL WC WQ QFun QLoop Does Q1 QRound QAssign Go.Addr.add
/-- a call that hands back a value; memory may have grown -/
def Tells (v : Value) (m : Mem) (H : SHeap) : Value → Mem → SHeap → Prop := fun u m' H' => m.le m' ∧ u = v ∧ H' = H
theorem Tells.mk {v u : Value} {m m' : Mem} {H : SHeap} (hm : m.le m') (h : u = v) : Tells v m H u m' H := ⟨hm, h, rfl⟩
theorem wres_wakes : wres [97, 32, 98, 32, 99] [97, 32, 120, 32, 99] [97, 32, 98, 32, 100] = ([97, 32, 120, 32, 100], [], 0) := by
  obtain ⟨h1, h2⟩ := weave_wakes
  rw [wres_ok (by rintro ⟨x, hx, hx2⟩; simp only [List.mem_cons, List.not_mem_nil, or_false] at hx; rcases hx with rfl | rfl | rfl <;> simp at hx2) (by rw [h1]; decide), h1, h2]
attribute [local irreducible] wres
theorem wakes_any (w0 : World) (m : Mem) (H : SHeap) : Does Try.prog 7 #[] w0 m H (Tells (.bool true) m H) := by
  refine Does.of_body (args := []) Try.func7 rfl Try.ntmps7 rfl ?_
  (try (refine st ?_; intros))
  refine w_callF Try.func8 ?_ (hs := weave_any [97, 32, 98, 32, 99] [97, 32, 120, 32, 99] [97, 32, 98, 32, 100] _ _ _)
  rintro v m1 H1 ⟨hle, al, cl, rfl, rfl⟩
  rw [show (wres [97, 32, 98, 32, 99] [97, 32, 120, 32, 99] [97, 32, 98, 32, 100]).1 = [97, 32, 120, 32, 100] by rw [wres_wakes], show (wres [97, 32, 98, 32, 99] [97, 32, 120, 32, 99] [97, 32, 98, 32, 100]).2.1 = [] by rw [wres_wakes], show (((wres [97, 32, 98, 32, 99] [97, 32, 120, 32, 99] [97, 32, 98, 32, 100]).2.2 : Nat) : Int) = 0 by rw [wres_wakes]; rfl, List.length_nil]
  (try (refine st ?_; intros))
  refine w_callF Try.func21 ?_ (hs := new_any [97] (by decide) _ _ _)
  rintro v m2 H2 ⟨rfl, b, bm, a, c, rfl, rfl⟩
  (try (refine st ?_; intros))
  refine w_callF Try.func22 ?_ (hs := len_any _ _ _)
  rintro v m3 H3 ⟨rfl, rfl, rfl⟩
  (try (refine st ?_; intros))
  exact q_fin0 (H0 := H) (Tells.mk hle (congrArg Value.bool (show dcd (((1 : Nat) : Int) = 1) = true from dcd_true rfl))) (hd := zpk)
end Go.Proofs.Ytieangfnjflfmaa

/-
  A walk's engine: arrays of two numbers compared. No condition.
-/
set_option linter.all false
namespace Go.Eng
open Go Go.RowKit
section
variable {P : Program} {ro : Option Nat} {n : Nat} {w0 : World} {Q : Exit → Act → World → Prop} {r : Env} {ds : List Nat} {m : Mem} {H : SHeap}
  {ops : Array Oper} {l : List Oper} {d : Nat} {ty : TypeId} {pos : String} {after : Array Edge} {x y : Operand} {t t' : TypeId}
theorem WL.indexAddrB {e : TypeId} {a : Addr} {k sz i q : Nat} {ki : IntKind} {z : Int} (hx : r.ev x = some (.pointer (some a))) (hy : r.ev y = some (.int ki z)) (hz : z = (i : Int)) (hu : P.underlying t = some (.array k e)) (hsz : sizeB P e = some sz)
    (hi : i < k) (hd : Nat.blt d n = true) (hq : lit (i * sz) = some q) (h : WL P ro n w0 ops Q l ((d, .pointer (some (a.add q))) :: r) ds m H) :
    WL P ro n w0 ops Q (⟨some d, .indexAddr t x y, ty, pos, after, none⟩ :: l) r ds m H := by
  rw [lit_eq] at hq
  have hq := Option.some.inj hq
  subst hz; subst hq
  refine .val hd (fun _ h => by cases h) (fun tmps w ho _ => ?_) h
  have h1 : (0 : Int) ≤ (i : Int) ∧ (i : Int) < (k : Int) := by omega
  simp only [execOp, Instr.indexAt, asIntOf, Instr.sureAddr, ho.ev hx, ho.ev hy, Sem.run_bind, Sem.run_pure, Result.andThen_ok, run_underlying hu]
  simp [h1, run_size hsz]
end
end Go.Eng

/-
  The walk of the law DraftChanges: the pairs. No condition.
-/
namespace Go.Eng
open Go Go.RowKit
theorem PrOk.get {a b : List Tx} : ∀ {l : List (Nat × Nat)} {i k n m j : Nat} {p : Nat × Nat}, PrOk a b i k l n m → l[j]? = some p → i ≤ p.1 ∧ k ≤ p.2 ∧ p.1 < n ∧ p.2 < m ∧ ∃ x, a[p.1]? = some x ∧ b[p.2]? = some x
  | [], _, _, _, _, _, _, _, h => by simp at h
  | q :: l, i, k, n, m, j, p, ⟨h1, h2, h3, h4, h5, h6⟩, h => by
    cases j with
    | zero => cases h; exact ⟨h1, h2, h3, h4, h5⟩
    | succ j =>
      rw [List.getElem?_cons_succ] at h
      obtain ⟨g1, g2, g3⟩ := PrOk.get h6 h
      exact ⟨by omega, by omega, g3⟩
theorem PrOk.rise {a b : List Tx} : ∀ {l : List (Nat × Nat)} {i k n m j : Nat} {q p : Nat × Nat}, PrOk a b i k l n m → l[j]? = some q → l[j + 1]? = some p → q.1 < p.1 ∧ q.2 < p.2
  | [], _, _, _, _, _, _, _, _, h, _ => by simp at h
  | r :: l, i, k, n, m, j, q, p, ⟨h1, h2, h3, h4, h5, h6⟩, hq, hp => by
    rw [List.getElem?_cons_succ] at hp
    cases j with
    | zero =>
      cases hq
      have := h6.get hp
      omega
    | succ j =>
      rw [List.getElem?_cons_succ] at hq
      exact PrOk.rise h6 hq hp
theorem pairN_take {x : List Tx} {l : List (Nat × Nat)} {i : Nat} {p : Nat × Nat} (h : l[i]? = some p) : pairN x (l.take (i + 1)) = pairN x (l.take i) + (x.getD p.1 []).length := by
  unfold pairN
  rw [List.take_succ, h]; simp
theorem pairN_le {x : List Tx} (h : x.flatten.length ≤ 500) : ∀ l : List (Nat × Nat), pairN x l ≤ 500 * l.length
  | [] => Nat.le_refl _
  | p :: l => by
    have := pairN_le h l
    have h2 : (x.getD p.1 []).length ≤ 500 := by
      rw [List.getD_eq_getElem?_getD]
      cases hx : x[p.1]? with
      | none => simp
      | some t =>
        have := mem_le_flat (List.mem_of_getElem? hx)
        simp only [Option.getD_some]; omega
    unfold pairN at *
    rw [List.map_cons, List.sum_cons, List.length_cons]; omega
end Go.Eng
namespace Go.Proofs.Ytieangfnjflfmaa
open Go Go.Eng
set_option maxRecDepth 100000
set_option maxHeartbeats 4000000
set_option linter.all false
attribute [local irreducible] WL WC WQ QFun QLoop Does Q1 QRound QAssign Go.Addr.add
attribute [local irreducible] tokens
theorem ltoks_any (l : List UInt8) (hl : l.length ≤ 4194304) (w0 : World) (m : Mem) (H : SHeap) : Does Try.prog 18 #[str l] w0 m H (fun v m' H' => m.le m' ∧ ∃ a cp, v = .slice a (toks l).length cp ∧ H' = .row a cp 9 1 (strs (toks l)) :: H) := by
  refine Does.of_body (args := [str l]) Try.func18 rfl Try.ntmps18 rfl ?_
  (refine st ?_; intros; rename_i b1 b3)
  refine w_callF Try.func38 ?_ (hs := scan_any _ _ _ _)
  rintro v m H ⟨b, rfl, rfl, rfl⟩
  (try (refine st ?_; intros))
  refine WC.persist (b := b) (by (repeat (first | exact Out.here | apply Out.there))) ?_
  intro m1 hle1 hb
  refine WC.newRow (T := 9) (sz := 1) ?_
  refine WC.rangeFuncM (encs := fun t : Tk => [t.v]) (xs := tokens l) (Cap := TextAt b l) (lb := [.pointer (some ⟨b, 0, none⟩)]) (ps := [7])
    (J := fun pre m' Hl => m.le m' ∧ ∃ a cp, Hl = [.row a cp 9 1 (strs (pre.map (tokT l))), .blk b3 (.cells [.slice a pre.length cp].toArray 49 (0, 0)), .blk b1 (.cells [str l].toArray 9 (0, 0))]) (Jx := fun _ _ _ _ => False)
    rfl Try.func54 rfl rfl (scan_seq l (by omega) b) hb (fun _ => rfl) rfl (fun _ _ _ _ h hm => ⟨h.1.trans hm, h.2⟩) (fun _ _ _ _ _ h _ => h) (.cons (.cons (.cons .nil))) ⟨hle1, none, 0, rfl⟩ ?_ ?_ ?_
  · rintro lp pre t post hx m2 Hl ⟨hle2, a, cp, rfl⟩ hm2 Hfr hfr
    have htl := (tokens_chain l).mem t (by rw [hx]; simp)
    have hlen : (tokens l).length ≤ l.length := by rw [← toks_length0]; exact toks_length l
    have hpl : pre.length + 1 ≤ 4194304 := by rw [hx] at hlen; simp only [List.length_append, List.length_cons] at hlen; omega
    have hsl : (strs (pre.map (tokT l))).length = pre.length := by simp [strs]
    (try (refine st ?_; intros))
    refine WQ.assigned (.cons (.cons (.cons (.cons .nil)))) (Mem.le.refl _) ?_
    intro Hfr2
    (refine st ?_; intros; rename_i bt)
    simp only [List.cons_append, List.nil_append]
    have hex : (l.take t.z).drop t.a = tokT l t := rfl
    refine WC.drawE 12 ([.blk bt (.cells [.int .i64 (t.k : Int), .int .i64 (t.a : Int), .int .i64 (t.z : Int)].toArray 92 (0, 0)), .blk b1 (.cells [str l].toArray 9 (0, 0))]) (.row a cp 9 1 (strs (pre.map (tokT l))) :: .blk b3 (.cells [.slice a pre.length cp].toArray 49 (0, 0)) :: Hfr2) rfl (by decide +kernel) zpk ?_
    (refine cm0 ?_)
    refine WE.act2 0 9 (by decide +kernel) rfl rfl (fun c h => by cases h) rfl rfl (fun c h => by cases h) ?_ ?_
    · (try (refine st ?_; intros))
      refine WQ.acted (B := []) (U := .row a cp 9 1 (strs (pre.map (tokT l))) :: .blk b3 (.cells [.slice a pre.length cp].toArray 49 (0, 0)) :: Hfr2) rfl (Mem.le.refl _) zpk ?_
      (refine cm0 ?_)
      refine WE.act1 9 (by decide +kernel) rfl rfl (fun c h => by cases h) ?_
      (refine st ?_; intros; rename_i b9)
      refine WQ.acted (B := [.blk b9 (.cells [str (tokT l t)].toArray 9 (0, 0))]) (U := .row a cp 9 1 (strs (pre.map (tokT l))) :: .blk b3 (.cells [.slice a pre.length cp].toArray 49 (0, 0)) :: Hfr2) rfl (Mem.le.refl _) zpk ?_
      (refine cm0 ?_)
      refine WE.act1 10 (by decide +kernel) rfl rfl (fun c h => by cases h) ?_
      (refine st ?_; intros; rename_i a2 cp2)
      rw [hsl]
      refine WQ.acted (B := []) (U := .row a2 cp2 9 1 (strs (pre.map (tokT l)) ++ [[str (tokT l t)]]) :: .blk b3 (.cells [.slice a pre.length cp].toArray 49 (0, 0)) :: Hfr2) rfl (Mem.le.refl _) zpk ?_
      (refine cm0 ?_)
      refine WE.act0 11 (by decide +kernel) rfl rfl (fun c h => by cases h) ?_
      (try (refine st ?_; intros))
      refine WQ.stored (B := []) (U := .row a2 cp2 9 1 (strs (pre.map (tokT l)) ++ [[str (tokT l t)]]) :: .blk b3 (.cells [.slice a2 (pre.length + 1) cp2].toArray 49 (0, 0)) :: Hfr2) (Mem.le.refl _) zpk ?_
      refine WE.done (by decide +kernel) ?_
      (try (refine st ?_; intros))
      exact WQ.roundOn (Hl := [.row a2 cp2 9 1 (strs (pre.map (tokT l)) ++ [[str (tokT l t)]]), .blk b3 (.cells [.slice a2 (pre.length + 1) cp2].toArray 49 (0, 0)), .blk b1 (.cells [str l].toArray 9 (0, 0))]) zpk (Mem.le.refl _) ⟨hle2, a2, cp2, by simp [strs]⟩
    · (refine st ?_; intros; rename_i b9)
      refine WQ.acted (B := [.blk b9 (.cells [str (tokT l t)].toArray 9 (0, 0))]) (U := .row a cp 9 1 (strs (pre.map (tokT l))) :: .blk b3 (.cells [.slice a pre.length cp].toArray 49 (0, 0)) :: Hfr2) rfl (Mem.le.refl _) zpk ?_
      (refine cm0 ?_)
      refine WE.act1 0 (by decide +kernel) rfl rfl (fun c h => by cases h) ?_
      (try (refine st ?_; intros))
      refine WQ.acted (B := []) (U := .row a cp 9 1 (strs (pre.map (tokT l))) :: .blk b3 (.cells [.slice a pre.length cp].toArray 49 (0, 0)) :: Hfr2) rfl (Mem.le.refl _) zpk ?_
      (refine cm0 ?_)
      refine WE.act1 10 (by decide +kernel) rfl rfl (fun c h => by cases h) ?_
      (refine st ?_; intros; rename_i a2 cp2)
      rw [hsl]
      refine WQ.acted (B := []) (U := .row a2 cp2 9 1 (strs (pre.map (tokT l)) ++ [[str (tokT l t)]]) :: .blk b3 (.cells [.slice a pre.length cp].toArray 49 (0, 0)) :: Hfr2) rfl (Mem.le.refl _) zpk ?_
      (refine cm0 ?_)
      refine WE.act0 11 (by decide +kernel) rfl rfl (fun c h => by cases h) ?_
      (try (refine st ?_; intros))
      refine WQ.stored (B := []) (U := .row a2 cp2 9 1 (strs (pre.map (tokT l)) ++ [[str (tokT l t)]]) :: .blk b3 (.cells [.slice a2 (pre.length + 1) cp2].toArray 49 (0, 0)) :: Hfr2) (Mem.le.refl _) zpk ?_
      refine WE.done (by decide +kernel) ?_
      (try (refine st ?_; intros))
      exact WQ.roundOn (Hl := [.row a2 cp2 9 1 (strs (pre.map (tokT l)) ++ [[str (tokT l t)]]), .blk b3 (.cells [.slice a2 (pre.length + 1) cp2].toArray 49 (0, 0)), .blk b1 (.cells [str l].toArray 9 (0, 0))]) zpk (Mem.le.refl _) ⟨hle2, a2, cp2, by simp [strs]⟩
  · rintro D m2 Hl ⟨hle2, a, cp, rfl⟩ hm2
    (try (refine st ?_; intros))
    refine WQ.mark List.perm_middle ?_
    exact q_fin0 (H0 := .row a cp 9 1 (strs (toks l)) :: H) ⟨hle2, a, cp, by rw [toks_length0], rfl⟩ (hd := zpk)
  · intro D cd pre m2 Hl _ h
    exact h.elim
attribute [local irreducible] strs
theorem sq_D44_1 {G : Prop} (h : G := by (repeat (first | (refine sp ?_; (repeat intro zzc)) | (refine WL.indexAddrA rfl rfl (by (first | with_reducible exact natz _ | with_reducible exact natz0 | with_reducible exact natz1 | with_reducible exact natz2 | with_reducible exact natz3 | with_reducible exact natz4 | with_reducible exact natz8 | (apply natz_add; (· first | with_reducible exact natz _ | with_reducible exact natz0 | with_reducible exact natz1 | with_reducible exact natz2 | with_reducible exact natz3 | with_reducible exact natz4 | with_reducible exact natz8); (· first | with_reducible exact natz _ | with_reducible exact natz0 | with_reducible exact natz1 | with_reducible exact natz2 | with_reducible exact natz3 | with_reducible exact natz4 | with_reducible exact natz8)) | (apply natz_sub; (· first | with_reducible exact natz _ | with_reducible exact natz0 | with_reducible exact natz1 | with_reducible exact natz2 | with_reducible exact natz3 | with_reducible exact natz4 | with_reducible exact natz8); (· first | with_reducible exact natz _ | with_reducible exact natz0 | with_reducible exact natz1 | with_reducible exact natz2 | with_reducible exact natz3 | with_reducible exact natz4 | with_reducible exact natz8); (· omega)) | exact (Int.toNat_of_nonneg (by omega)).symm)) rfl rfl (by omega) rfl rfl ?_) | (refine WL.indexAddrB rfl rfl (by (first | with_reducible exact natz _ | with_reducible exact natz0 | with_reducible exact natz1 | with_reducible exact natz2 | with_reducible exact natz3 | with_reducible exact natz4 | with_reducible exact natz8 | (apply natz_add; (· first | with_reducible exact natz _ | with_reducible exact natz0 | with_reducible exact natz1 | with_reducible exact natz2 | with_reducible exact natz3 | with_reducible exact natz4 | with_reducible exact natz8); (· first | with_reducible exact natz _ | with_reducible exact natz0 | with_reducible exact natz1 | with_reducible exact natz2 | with_reducible exact natz3 | with_reducible exact natz4 | with_reducible exact natz8)) | (apply natz_sub; (· first | with_reducible exact natz _ | with_reducible exact natz0 | with_reducible exact natz1 | with_reducible exact natz2 | with_reducible exact natz3 | with_reducible exact natz4 | with_reducible exact natz8); (· first | with_reducible exact natz _ | with_reducible exact natz0 | with_reducible exact natz1 | with_reducible exact natz2 | with_reducible exact natz3 | with_reducible exact natz4 | with_reducible exact natz8); (· omega)) | exact (Int.toNat_of_nonneg (by omega)).symm)) rfl rfl (by omega) rfl rfl ?_))); exact WQ.q1 rfl) : G := h
theorem st_D44_1 {G G' : Prop} (next : G') (h : Bx G' → G := by intro zzn; (first | ((refine st ?_; (repeat intro zzc)); (try ((first | (refine WL.indexAddrA rfl rfl (by (first | with_reducible exact natz _ | with_reducible exact natz0 | with_reducible exact natz1 | with_reducible exact natz2 | with_reducible exact natz3 | with_reducible exact natz4 | with_reducible exact natz8 | (apply natz_add; (· first | with_reducible exact natz _ | with_reducible exact natz0 | with_reducible exact natz1 | with_reducible exact natz2 | with_reducible exact natz3 | with_reducible exact natz4 | with_reducible exact natz8); (· first | with_reducible exact natz _ | with_reducible exact natz0 | with_reducible exact natz1 | with_reducible exact natz2 | with_reducible exact natz3 | with_reducible exact natz4 | with_reducible exact natz8)) | (apply natz_sub; (· first | with_reducible exact natz _ | with_reducible exact natz0 | with_reducible exact natz1 | with_reducible exact natz2 | with_reducible exact natz3 | with_reducible exact natz4 | with_reducible exact natz8); (· first | with_reducible exact natz _ | with_reducible exact natz0 | with_reducible exact natz1 | with_reducible exact natz2 | with_reducible exact natz3 | with_reducible exact natz4 | with_reducible exact natz8); (· omega)) | exact (Int.toNat_of_nonneg (by omega)).symm)) rfl rfl (by omega) rfl rfl ?_) | (refine WL.indexAddrB rfl rfl (by (first | with_reducible exact natz _ | with_reducible exact natz0 | with_reducible exact natz1 | with_reducible exact natz2 | with_reducible exact natz3 | with_reducible exact natz4 | with_reducible exact natz8 | (apply natz_add; (· first | with_reducible exact natz _ | with_reducible exact natz0 | with_reducible exact natz1 | with_reducible exact natz2 | with_reducible exact natz3 | with_reducible exact natz4 | with_reducible exact natz8); (· first | with_reducible exact natz _ | with_reducible exact natz0 | with_reducible exact natz1 | with_reducible exact natz2 | with_reducible exact natz3 | with_reducible exact natz4 | with_reducible exact natz8)) | (apply natz_sub; (· first | with_reducible exact natz _ | with_reducible exact natz0 | with_reducible exact natz1 | with_reducible exact natz2 | with_reducible exact natz3 | with_reducible exact natz4 | with_reducible exact natz8); (· first | with_reducible exact natz _ | with_reducible exact natz0 | with_reducible exact natz1 | with_reducible exact natz2 | with_reducible exact natz3 | with_reducible exact natz4 | with_reducible exact natz8); (· omega)) | exact (Int.toNat_of_nonneg (by omega)).symm)) rfl rfl (by omega) rfl rfl ?_) | ((refine iDraw ?_; (first | refine WC.drawAll rfl (by decide +kernel) ?_ | refine WC.draw 1 rfl (by decide +kernel) ?_ | refine WC.draw 2 rfl (by decide +kernel) ?_ | refine WC.draw 3 rfl (by decide +kernel) ?_ | refine WC.draw 4 rfl (by decide +kernel) ?_ | refine WC.draw 5 rfl (by decide +kernel) ?_ | refine WC.draw 6 rfl (by decide +kernel) ?_ | refine WC.draw 7 rfl (by decide +kernel) ?_ | refine WC.draw 8 rfl (by decide +kernel) ?_ | refine WC.draw 9 rfl (by decide +kernel) ?_ | refine WC.draw 10 rfl (by decide +kernel) ?_ | refine WC.draw 11 rfl (by decide +kernel) ?_ | refine WC.draw 12 rfl (by decide +kernel) ?_ | refine WC.draw 13 rfl (by decide +kernel) ?_ | refine WC.draw 14 rfl (by decide +kernel) ?_ | refine WC.draw 15 rfl (by decide +kernel) ?_ | refine WC.draw 16 rfl (by decide +kernel) ?_ | refine WC.draw 17 rfl (by decide +kernel) ?_ | refine WC.draw 18 rfl (by decide +kernel) ?_ | refine WC.draw 19 rfl (by decide +kernel) ?_ | refine WC.draw 20 rfl (by decide +kernel) ?_ | refine WC.draw 21 rfl (by decide +kernel) ?_ | refine WC.draw 22 rfl (by decide +kernel) ?_ | refine WC.draw 23 rfl (by decide +kernel) ?_ | refine WC.draw 24 rfl (by decide +kernel) ?_)); (repeat (refine WD.cons rfl (fun c h => by cases h) sq_D44_1 ?_)); refine WD.nil ?_)); (try (refine st ?_; (repeat intro zzc)))))) | ((first | (refine WL.indexAddrA rfl rfl (by (first | with_reducible exact natz _ | with_reducible exact natz0 | with_reducible exact natz1 | with_reducible exact natz2 | with_reducible exact natz3 | with_reducible exact natz4 | with_reducible exact natz8 | (apply natz_add; (· first | with_reducible exact natz _ | with_reducible exact natz0 | with_reducible exact natz1 | with_reducible exact natz2 | with_reducible exact natz3 | with_reducible exact natz4 | with_reducible exact natz8); (· first | with_reducible exact natz _ | with_reducible exact natz0 | with_reducible exact natz1 | with_reducible exact natz2 | with_reducible exact natz3 | with_reducible exact natz4 | with_reducible exact natz8)) | (apply natz_sub; (· first | with_reducible exact natz _ | with_reducible exact natz0 | with_reducible exact natz1 | with_reducible exact natz2 | with_reducible exact natz3 | with_reducible exact natz4 | with_reducible exact natz8); (· first | with_reducible exact natz _ | with_reducible exact natz0 | with_reducible exact natz1 | with_reducible exact natz2 | with_reducible exact natz3 | with_reducible exact natz4 | with_reducible exact natz8); (· omega)) | exact (Int.toNat_of_nonneg (by omega)).symm)) rfl rfl (by omega) rfl rfl ?_) | (refine WL.indexAddrB rfl rfl (by (first | with_reducible exact natz _ | with_reducible exact natz0 | with_reducible exact natz1 | with_reducible exact natz2 | with_reducible exact natz3 | with_reducible exact natz4 | with_reducible exact natz8 | (apply natz_add; (· first | with_reducible exact natz _ | with_reducible exact natz0 | with_reducible exact natz1 | with_reducible exact natz2 | with_reducible exact natz3 | with_reducible exact natz4 | with_reducible exact natz8); (· first | with_reducible exact natz _ | with_reducible exact natz0 | with_reducible exact natz1 | with_reducible exact natz2 | with_reducible exact natz3 | with_reducible exact natz4 | with_reducible exact natz8)) | (apply natz_sub; (· first | with_reducible exact natz _ | with_reducible exact natz0 | with_reducible exact natz1 | with_reducible exact natz2 | with_reducible exact natz3 | with_reducible exact natz4 | with_reducible exact natz8); (· first | with_reducible exact natz _ | with_reducible exact natz0 | with_reducible exact natz1 | with_reducible exact natz2 | with_reducible exact natz3 | with_reducible exact natz4 | with_reducible exact natz8); (· omega)) | exact (Int.toNat_of_nonneg (by omega)).symm)) rfl rfl (by omega) rfl rfl ?_) | ((refine iDraw ?_; (first | refine WC.drawAll rfl (by decide +kernel) ?_ | refine WC.draw 1 rfl (by decide +kernel) ?_ | refine WC.draw 2 rfl (by decide +kernel) ?_ | refine WC.draw 3 rfl (by decide +kernel) ?_ | refine WC.draw 4 rfl (by decide +kernel) ?_ | refine WC.draw 5 rfl (by decide +kernel) ?_ | refine WC.draw 6 rfl (by decide +kernel) ?_ | refine WC.draw 7 rfl (by decide +kernel) ?_ | refine WC.draw 8 rfl (by decide +kernel) ?_ | refine WC.draw 9 rfl (by decide +kernel) ?_ | refine WC.draw 10 rfl (by decide +kernel) ?_ | refine WC.draw 11 rfl (by decide +kernel) ?_ | refine WC.draw 12 rfl (by decide +kernel) ?_ | refine WC.draw 13 rfl (by decide +kernel) ?_ | refine WC.draw 14 rfl (by decide +kernel) ?_ | refine WC.draw 15 rfl (by decide +kernel) ?_ | refine WC.draw 16 rfl (by decide +kernel) ?_ | refine WC.draw 17 rfl (by decide +kernel) ?_ | refine WC.draw 18 rfl (by decide +kernel) ?_ | refine WC.draw 19 rfl (by decide +kernel) ?_ | refine WC.draw 20 rfl (by decide +kernel) ?_ | refine WC.draw 21 rfl (by decide +kernel) ?_ | refine WC.draw 22 rfl (by decide +kernel) ?_ | refine WC.draw 23 rfl (by decide +kernel) ?_ | refine WC.draw 24 rfl (by decide +kernel) ?_)); (repeat (refine WD.cons rfl (fun c h => by cases h) sq_D44_1 ?_)); refine WD.nil ?_)); (try (refine st ?_; (repeat intro zzc))))); (repeat ((first | (refine WL.indexAddrA rfl rfl (by (first | with_reducible exact natz _ | with_reducible exact natz0 | with_reducible exact natz1 | with_reducible exact natz2 | with_reducible exact natz3 | with_reducible exact natz4 | with_reducible exact natz8 | (apply natz_add; (· first | with_reducible exact natz _ | with_reducible exact natz0 | with_reducible exact natz1 | with_reducible exact natz2 | with_reducible exact natz3 | with_reducible exact natz4 | with_reducible exact natz8); (· first | with_reducible exact natz _ | with_reducible exact natz0 | with_reducible exact natz1 | with_reducible exact natz2 | with_reducible exact natz3 | with_reducible exact natz4 | with_reducible exact natz8)) | (apply natz_sub; (· first | with_reducible exact natz _ | with_reducible exact natz0 | with_reducible exact natz1 | with_reducible exact natz2 | with_reducible exact natz3 | with_reducible exact natz4 | with_reducible exact natz8); (· first | with_reducible exact natz _ | with_reducible exact natz0 | with_reducible exact natz1 | with_reducible exact natz2 | with_reducible exact natz3 | with_reducible exact natz4 | with_reducible exact natz8); (· omega)) | exact (Int.toNat_of_nonneg (by omega)).symm)) rfl rfl (by omega) rfl rfl ?_) | (refine WL.indexAddrB rfl rfl (by (first | with_reducible exact natz _ | with_reducible exact natz0 | with_reducible exact natz1 | with_reducible exact natz2 | with_reducible exact natz3 | with_reducible exact natz4 | with_reducible exact natz8 | (apply natz_add; (· first | with_reducible exact natz _ | with_reducible exact natz0 | with_reducible exact natz1 | with_reducible exact natz2 | with_reducible exact natz3 | with_reducible exact natz4 | with_reducible exact natz8); (· first | with_reducible exact natz _ | with_reducible exact natz0 | with_reducible exact natz1 | with_reducible exact natz2 | with_reducible exact natz3 | with_reducible exact natz4 | with_reducible exact natz8)) | (apply natz_sub; (· first | with_reducible exact natz _ | with_reducible exact natz0 | with_reducible exact natz1 | with_reducible exact natz2 | with_reducible exact natz3 | with_reducible exact natz4 | with_reducible exact natz8); (· first | with_reducible exact natz _ | with_reducible exact natz0 | with_reducible exact natz1 | with_reducible exact natz2 | with_reducible exact natz3 | with_reducible exact natz4 | with_reducible exact natz8); (· omega)) | exact (Int.toNat_of_nonneg (by omega)).symm)) rfl rfl (by omega) rfl rfl ?_) | ((refine iDraw ?_; (first | refine WC.drawAll rfl (by decide +kernel) ?_ | refine WC.draw 1 rfl (by decide +kernel) ?_ | refine WC.draw 2 rfl (by decide +kernel) ?_ | refine WC.draw 3 rfl (by decide +kernel) ?_ | refine WC.draw 4 rfl (by decide +kernel) ?_ | refine WC.draw 5 rfl (by decide +kernel) ?_ | refine WC.draw 6 rfl (by decide +kernel) ?_ | refine WC.draw 7 rfl (by decide +kernel) ?_ | refine WC.draw 8 rfl (by decide +kernel) ?_ | refine WC.draw 9 rfl (by decide +kernel) ?_ | refine WC.draw 10 rfl (by decide +kernel) ?_ | refine WC.draw 11 rfl (by decide +kernel) ?_ | refine WC.draw 12 rfl (by decide +kernel) ?_ | refine WC.draw 13 rfl (by decide +kernel) ?_ | refine WC.draw 14 rfl (by decide +kernel) ?_ | refine WC.draw 15 rfl (by decide +kernel) ?_ | refine WC.draw 16 rfl (by decide +kernel) ?_ | refine WC.draw 17 rfl (by decide +kernel) ?_ | refine WC.draw 18 rfl (by decide +kernel) ?_ | refine WC.draw 19 rfl (by decide +kernel) ?_ | refine WC.draw 20 rfl (by decide +kernel) ?_ | refine WC.draw 21 rfl (by decide +kernel) ?_ | refine WC.draw 22 rfl (by decide +kernel) ?_ | refine WC.draw 23 rfl (by decide +kernel) ?_ | refine WC.draw 24 rfl (by decide +kernel) ?_)); (repeat (refine WD.cons rfl (fun c h => by cases h) sq_D44_1 ?_)); refine WD.nil ?_)); (try (refine st ?_; (repeat intro zzc))))); (repeat revert zzc); exact zzn.out) : G := h ⟨next⟩
theorem chg_pairs {X Y : List Tx} {M : List (Nat × Nat)} {a ax ay : Option Addr} {cp cx cy : Nat} {v0 v1 v6 : Value} {w0 : World} {m : Mem} {H : SHeap} {Q : Exit → Act → World → Prop} (hX : X.length ≤ 500 ∧ X.flatten.length ≤ 500) (hY : Y.length ≤ 500) (hM : PrOk X Y 0 0 M X.length Y.length) (hMl : M.length ≤ 500)
    (hrx : RowR w0 m H 1 ax (strs X)) (hry : RowR w0 m H 1 ay (strs Y))
    (hK : WQ 258 w0 Q (.exit 0) [(9, .int .i64 (pairN X M : Int)), (5, .slice a M.length cp), (6, v6), (7, .slice ax X.length cx), (8, .slice ay Y.length cy), (0, v0), (1, v1)] [] m (.row a cp 44 2 (M.map prE) :: H)) :
    WC Try.prog none 258 w0 ((loopsIn (Try.f6.body.getD .skip)).getD 0 .skip) Q [(51, .int .i64 0), (50, .int .i64 (M.length : Int)), (49, .slice a M.length cp), (9, .int .i64 0), (5, .slice a M.length cp), (6, v6), (7, .slice ax X.length cx), (8, .slice ay Y.length cy), (0, v0), (1, v1)] [] m
      (.row a cp 44 2 (M.map prE) :: H) := by
  have hml : (M.map prE).length = M.length := List.length_map _
  have hxl := strs_length X
  have hyl := strs_length Y
  refine WC.loopH [(51, .int .i64 ((0) : Int)), (50, .int .i64 (M.length : Int)), (49, .slice a M.length cp), (9, .int .i64 ((0) : Int)), (5, .slice a M.length cp), (6, v6), (7, .slice ax X.length cx), (8, .slice ay Y.length cy), (0, v0), (1, v1)] ?_ ?_ (fun j r ds m' H' => ∃ (i : Nat) (N : Nat), j = M.length - i ∧ r = [(51, .int .i64 (i : Int)), (50, .int .i64 (M.length : Int)), (49, .slice a M.length cp), (9, .int .i64 (N : Int)), (5, .slice a M.length cp), (6, v6), (7, .slice ax X.length cx), (8, .slice ay Y.length cy), (0, v0), (1, v1)] ∧ ds = [] ∧ m = m' ∧ H' = .row a cp 44 2 (M.map prE) :: H ∧ (i ≤ M.length) ∧ (N = pairN X (M.take i))) (M.length - (0)) ⟨0, 0, rfl, rfl, rfl, rfl, rfl, Nat.zero_le _, rfl⟩ ?_
  · (repeat (first | exact Env.Sub.nil | refine Env.Sub.cons rfl ?_))
  · exact zpk
  rintro j r ds m' H' ⟨i, N, rfl, rfl, rfl, rfl, rfl, hi, hN⟩
  by_cases hlt : i < M.length
  · obtain ⟨p, hp⟩ : ∃ p, M[i]? = some p := ⟨_, List.getElem?_eq_getElem hlt⟩
    obtain ⟨_, _, h3, h4, t, e1, e2⟩ := hM.get hp
    have hgp : (M.map prE)[i]? = some [.int .i64 (p.1 : Int), .int .i64 (p.2 : Int)] := by rw [List.getElem?_map, hp]; rfl
    have hgx := strs_get e1
    have hgy := strs_get e2
    have htl : t.length ≤ 500 := by have := mem_le_flat (List.mem_of_getElem? e1); omega
    have hNl : N ≤ 250000 := by
      have := pairN_le hX.2 (M.take i)
      rw [List.length_take] at this
      omega
    have hNn : N + t.length = pairN X (M.take (i + 1)) := by rw [pairN_take hp, getD_of e1, hN]
    have htt : t = t := rfl
    have hprev : i = 0 ∨ ∃ i' q, i = i' + 1 ∧ M[i']? = some q ∧ q.1 < p.1 ∧ q.2 < p.2 := by
      cases i with
      | zero => exact .inl rfl
      | succ i' =>
        obtain ⟨q, hq⟩ : ∃ q, M[i']? = some q := ⟨_, List.getElem?_eq_getElem (by omega)⟩
        exact .inr ⟨i', q, rfl, hq, hM.rise hq hp⟩
    have hMq : ∀ (j : Nat) (q : Nat × Nat), M[j]? = some q → (M.map prE)[j]? = some [Value.int .i64 (q.1 : Int), .int .i64 (q.2 : Int)] := fun j q h => by rw [List.getElem?_map, h]; rfl
    generalize hME : M.map prE = ME at *
    have hrx' : ∀ z, RowR w0 m (z :: .row a cp 44 2 ME :: H) 1 ax (strs X) := fun z => hrx.more.more
    have hry' : ∀ z, RowR w0 m (z :: .row a cp 44 2 ME :: H) 1 ay (strs Y) := fun z => hry.more.more
    refine WC.rowSome (a := a) (es := ME) zhs (by omega) ?_
    rintro a0 rfl
    refine WC.rSome hrx.more (by omega) ?_
    rintro x0 rfl
    refine WC.rSome hry.more (by omega) ?_
    rintro y0 rfl
    rcases hprev with rfl | ⟨i', q, rfl, hq, g1, g2⟩
    · (refine st_D44_1 ?_; intros; rename_i bp)
      have hxb := hrx' (.blk bp (.cells [.int .i64 (p.1 : Int), .int .i64 (p.2 : Int)].toArray 44 (0, 0)))
      have hyb := hry' (.blk bp (.cells [.int .i64 (p.1 : Int), .int .i64 (p.2 : Int)].toArray 44 (0, 0)))
      clear hrx' hry' hK
      (try (refine st_D44_1 ?_; intros))
      rw [show (N : Int) + (t.length : Int) = ((N + t.length : Nat) : Int) by omega]
      subst hME
      refine WQ.next (M.length - (0 + 1)) ⟨0 + 1, N + t.length, rfl, rfl, rfl, rfl, rfl, ?_, ?_⟩ (by omega) zsb zpk
      · omega
      · exact hNn
    · have hgq := hMq i' q hq
      rw [show i' = i' + 1 - 1 by omega] at hgq
      have h1 : ¬ (p.1 : Int) ≤ (q.1 : Int) := by omega
      have h2 : ¬ (p.2 : Int) ≤ (q.2 : Int) := by omega
      have h0 : (0 : Int) < ((i' + 1 : Nat) : Int) := by omega
      (refine st_D44_1 ?_; intros; rename_i bp)
      have hxb := hrx' (.blk bp (.cells [.int .i64 (p.1 : Int), .int .i64 (p.2 : Int)].toArray 44 (0, 0)))
      have hyb := hry' (.blk bp (.cells [.int .i64 (p.1 : Int), .int .i64 (p.2 : Int)].toArray 44 (0, 0)))
      clear hrx' hry' hK
      (try (refine st_D44_1 ?_; intros))
      rw [show (N : Int) + (t.length : Int) = ((N + t.length : Nat) : Int) by omega]
      subst hME
      refine WQ.next (M.length - (i' + 1 + 1)) ⟨i' + 1 + 1, N + t.length, rfl, rfl, rfl, rfl, rfl, ?_, ?_⟩ (by omega) zsb zpk
      · omega
      · exact hNn
  · rw [List.take_of_length_le (by omega)] at hN
    subst hN
    (try (refine st_D44_1 ?_; intros))
    exact WQ.weak zsb zpk hK
end Go.Proofs.Ytieangfnjflfmaa

