/-
  Parts of a walk, joined: O31 OV2 EngQS. No condition.
-/
import Derived.Test.YtljfncpecpkhhaaP4
import Derived.Test.YtljfncpecpkhhaaP8
import Derived.Test.YtljfncpecpkhhaaP3
import Derived.JoinedCond
import Derived.Test.YtljfncpecpkhhaaP7
set_option linter.all false
/-
  The walk of the law RopePlays. No condition.
-/
namespace Go.Proofs.Ytljfncpecpkhhaa
open Go Go.Eng
set_option maxRecDepth 100000
set_option maxHeartbeats 4000000
set_option linter.all false
attribute [local irreducible] WL WC WQ QFun QLoop Does Q1 QRound QAssign Go.Addr.add
attribute [local irreducible] sliceR deleteR insertR joinRR idxR
theorem iB_rem {P : Program} {ro : Option Nat} {n : Nat} {w0 : World} {Q : Exit → Act → World → Prop} {r : Env} {ds : List Nat} {m : Mem} {H : SHeap} {l : List Oper} {ops : Array Oper} {dst : Option Nat} {t t' : TypeId} {x y : Operand} {ty : TypeId} {pos : String} {after : Array Edge}
    (h : WL P ro n w0 ops Q (⟨dst, .binOp .rem t x y t', ty, pos, after, none⟩ :: l) r ds m H) : WL P ro n w0 ops Q (⟨dst, .binOp .rem t x y t', ty, pos, after, none⟩ :: l) r ds m H := h
theorem mapR (Z : List (Nat × List UInt8)) (b : Nat) (t : List UInt8) : (Z.map Prod.fst ++ [b]).map ptrV = ((Z ++ [(b, t)]).map Prod.fst).map ptrV := by simp
theorem mapT (Z : List (Nat × List UInt8)) (b : Nat) (t : List UInt8) : (Z.map Prod.snd ++ [t]).map txtV = ((Z ++ [(b, t)]).map Prod.snd).map txtV := by simp
theorem mapL (Z : List (Nat × List UInt8)) (b : Nat) (t : List UInt8) : Z.length + 1 = (Z ++ [(b, t)]).length := by simp
theorem snocR {Z : List (Nat × List UInt8)} {b : Nat} {t : List UInt8} {m : Mem} (h : ∀ z ∈ Z, RopeAt m (.pointer (some ⟨z.1, 0, none⟩)) z.2) (hq : RopeAt m (.pointer (some ⟨b, 0, none⟩)) t) : ∀ z ∈ Z ++ [(b, t)], RopeAt m (.pointer (some ⟨z.1, 0, none⟩)) z.2 := by
  intro z hz
  rcases List.mem_append.1 hz with hz | hz
  · exact h z hz
  · rw [List.mem_singleton] at hz; subst hz; exact hq
theorem atR {Z : List (Nat × List UInt8)} {w : Nat} {m : Mem} (hw : w < Z.length) (h : ∀ z ∈ Z, RopeAt m (.pointer (some ⟨z.1, 0, none⟩)) z.2) : ∃ (p : Nat) (s : List UInt8), ((Z.map Prod.fst).map ptrV)[w]? = some [.pointer (some ⟨p, 0, none⟩)] ∧ ((Z.map Prod.snd).map txtV)[w]? = some [str s] ∧ RopeAt m (.pointer (some ⟨p, 0, none⟩)) s := by
  refine ⟨Z[w].1, Z[w].2, ?_, ?_, h _ (List.getElem_mem hw)⟩
  · simp [hw, ptrV]
  · simp [hw, txtV]
/-- what is added: a rope and its text, or nothing -/
theorem add_res {X : Except Int (List UInt8)} {v : Value} {m : Mem} {Z : List (Nat × List UInt8)} {b3 b4 : Nat} {ra ta : Option Addr} {rc tc : Nat} (hX : ∀ e, X = .error e → e ≠ 0) (hv : ResV m X v) (hn : Z.length ≤ 100000000) (h0 : 0 < Z.length) (hz : ∀ z ∈ Z, RopeAt m (.pointer (some ⟨z.1, 0, none⟩)) z.2) :
    ∃ (p : Value) (e : Int) (s : List UInt8) (no : Int), v = .tuple #[p, .int .i64 e] ∧ outR X = .tuple #[str s, .int .i64 no] ∧ ∀ (w0 : World) (H : SHeap), Does Try.prog 31 #[p, .int .i64 e, str s, .int .i64 no, .pointer (some ⟨b3, 0, none⟩), .pointer (some ⟨b4, 0, none⟩)] w0 m (.blk b3 (.cells [.slice ra Z.length rc].toArray 65 (0, 0)) :: .blk b4 (.cells [.slice ta Z.length tc].toArray 35 (0, 0)) :: .row ra rc 23 1 ((Z.map Prod.fst).map ptrV) :: .row ta tc 9 1 ((Z.map Prod.snd).map txtV) :: H)
      (fun v m' H' => m' = m ∧ v = .bool true ∧ ∃ (Z2 : List (Nat × List UInt8)) (ra2 : Option Addr) (rc2 : Nat) (ta2 : Option Addr) (tc2 : Nat), Z2.length ≤ Z.length + 1 ∧ 0 < Z2.length ∧ (∀ z ∈ Z2, RopeAt m (.pointer (some ⟨z.1, 0, none⟩)) z.2) ∧ H' = .blk b3 (.cells [.slice ra2 Z2.length rc2].toArray 65 (0, 0)) :: .blk b4 (.cells [.slice ta2 Z2.length tc2].toArray 35 (0, 0)) :: .row ra2 rc2 23 1 ((Z2.map Prod.fst).map ptrV) :: .row ta2 tc2 9 1 ((Z2.map Prod.snd).map txtV) :: H) := by
  cases X with
  | error e =>
    have hv : v = .tuple #[.pointer none, .int .i64 e] := hv
    refine ⟨.pointer none, e, [], e, hv, rfl, fun w0 H => (addNo_any (hX e rfl) w0 m _).mono ?_⟩
    rintro v m' H' ⟨rfl, rfl, rfl⟩
    exact ⟨rfl, rfl, Z, ra, rc, ta, tc, Nat.le_succ _, h0, hz, rfl⟩
  | ok t =>
    obtain ⟨p, rfl, hp⟩ := hv
    obtain ⟨pb, rfl⟩ := ropes_ptr hp
    refine ⟨_, 0, t, 0, rfl, rfl, fun w0 H => (addYes_any (n := Z.length) (R := Z.map Prod.fst) (T := Z.map Prod.snd) (by simp) (by simp) (by omega) w0 m H).mono ?_⟩
    rintro v m' H' ⟨rfl, rfl, ra2, rc2, ta2, tc2, rfl⟩
    rw [mapR Z pb t, mapT Z pb t, mapL Z pb t]
    exact ⟨rfl, rfl, Z ++ [(pb, t)], ra2, rc2, ta2, tc2, by simp, by simp, snocR hz hp, rfl⟩
theorem slice_err {s : List UInt8} {f t e : Int} (h : sliceR s f t = .error e) : e ≠ 0 := by unfold sliceR at h; split at h <;> cases h; decide
theorem delete_err {s : List UInt8} {f t e : Int} (h : deleteR s f t = .error e) : e ≠ 0 := by unfold deleteR at h; split at h <;> cases h; decide
theorem insert_err {s u : List UInt8} {f e : Int} (h : insertR s f u = .error e) : e ≠ 0 := by
  unfold insertR at h
  split at h
  · cases h; decide
  · split at h <;> cases h; decide
theorem join_err {s u : List UInt8} {e : Int} (h : joinRR s u = .error e) : e ≠ 0 := by unfold joinRR at h; split at h <;> cases h; decide
theorem sq_O31_1 {G : Prop} (h : G := by (repeat (first | (refine sp ?_; (repeat intro zzc)) | (refine iB_rem ?_; refine WL.rem rfl rfl rfl (by omega) ?_) | (refine iF 14 rfl ?_; refine w_callG Try.func14 ?_ (hs := same_any _ _ _ (by assumption) (by assumption))) | (refine iF 15 rfl ?_; refine w_callG Try.func15 ?_ (hs := text_any _ _ _ (by assumption))))); exact WQ.q1 rfl) : G := h
theorem cm_O31_1 {G G' : Prop} (next : G') (h : Bx G' → G := by intro zzn; (try (refine wcal 0 ?_ (hwl := by intro zm zF zle; exact sq_O31_1))); (try (refine wcal 1 ?_ (hwl := by intro zm zF zle; exact sq_O31_1))); (try (refine wcal 2 ?_ (hwl := by intro zm zF zle; exact sq_O31_1))); (try (refine wcal 3 ?_ (hwl := by intro zm zF zle; exact sq_O31_1))); (try (refine wcal 4 ?_ (hwl := by intro zm zF zle; exact sq_O31_1))); (try (refine wcal 5 ?_ (hwl := by intro zm zF zle; exact sq_O31_1))); (try (refine wcal 6 ?_ (hwl := by intro zm zF zle; exact sq_O31_1))); (try (refine wcal 7 ?_ (hwl := by intro zm zF zle; exact sq_O31_1))); (try (refine wcal 8 ?_ (hwl := by intro zm zF zle; exact sq_O31_1))); (try (refine wcal 9 ?_ (hwl := by intro zm zF zle; exact sq_O31_1))); (try (refine wcal 10 ?_ (hwl := by intro zm zF zle; exact sq_O31_1))); (try (refine wcal 11 ?_ (hwl := by intro zm zF zle; exact sq_O31_1))); (try (refine wcal 12 ?_ (hwl := by intro zm zF zle; exact sq_O31_1))); (try (refine wcal 13 ?_ (hwl := by intro zm zF zle; exact sq_O31_1))); (try (refine wcal 14 ?_ (hwl := by intro zm zF zle; exact sq_O31_1))); (try (refine wcal 15 ?_ (hwl := by intro zm zF zle; exact sq_O31_1))); (try (refine wcal 16 ?_ (hwl := by intro zm zF zle; exact sq_O31_1))); (try (refine wcal 17 ?_ (hwl := by intro zm zF zle; exact sq_O31_1))); (try (refine wcal 18 ?_ (hwl := by intro zm zF zle; exact sq_O31_1))); (try (refine wcal 19 ?_ (hwl := by intro zm zF zle; exact sq_O31_1))); (try (refine wcal 20 ?_ (hwl := by intro zm zF zle; exact sq_O31_1))); (try (refine wcal 21 ?_ (hwl := by intro zm zF zle; exact sq_O31_1))); (try (refine wcal 22 ?_ (hwl := by intro zm zF zle; exact sq_O31_1))); (try (refine wcal 23 ?_ (hwl := by intro zm zF zle; exact sq_O31_1))); (try (refine wcal 24 ?_ (hwl := by intro zm zF zle; exact sq_O31_1))); (try (refine wcal 25 ?_ (hwl := by intro zm zF zle; exact sq_O31_1))); (try (refine wcal 26 ?_ (hwl := by intro zm zF zle; exact sq_O31_1))); (try (refine wcal 27 ?_ (hwl := by intro zm zF zle; exact sq_O31_1))); (try (refine wcal 28 ?_ (hwl := by intro zm zF zle; exact sq_O31_1))); (try (refine wcal 29 ?_ (hwl := by intro zm zF zle; exact sq_O31_1))); (try (refine wcal 30 ?_ (hwl := by intro zm zF zle; exact sq_O31_1))); (try (refine wcal 31 ?_ (hwl := by intro zm zF zle; exact sq_O31_1))); (try (refine wcal 32 ?_ (hwl := by intro zm zF zle; exact sq_O31_1))); (try (refine wcal 33 ?_ (hwl := by intro zm zF zle; exact sq_O31_1))); (try (refine wcal 34 ?_ (hwl := by intro zm zF zle; exact sq_O31_1))); (try (refine wcal 35 ?_ (hwl := by intro zm zF zle; exact sq_O31_1))); (try (refine wcal 36 ?_ (hwl := by intro zm zF zle; exact sq_O31_1))); (try (refine wcal 37 ?_ (hwl := by intro zm zF zle; exact sq_O31_1))); (try (refine wcal 38 ?_ (hwl := by intro zm zF zle; exact sq_O31_1))); (try (refine wcal 39 ?_ (hwl := by intro zm zF zle; exact sq_O31_1))); (try (refine wcal 40 ?_ (hwl := by intro zm zF zle; exact sq_O31_1))); (try (refine wcal 41 ?_ (hwl := by intro zm zF zle; exact sq_O31_1))); exact zzn.out) : G := h ⟨next⟩
theorem st_O31_1 {G G' : Prop} (next : G') (h : Bx G' → G := by intro zzn; (first | ((refine st ?_; (repeat intro zzc)); (try ((first | (refine iB_rem ?_; refine WL.rem rfl rfl rfl (by omega) ?_) | (refine iF 14 rfl ?_; refine w_callG Try.func14 ?_ (hs := same_any _ _ _ (by assumption) (by assumption))) | (refine iF 15 rfl ?_; refine w_callG Try.func15 ?_ (hs := text_any _ _ _ (by assumption))) | ((refine iDraw ?_; (first | refine WC.drawAll rfl (by decide +kernel) ?_ | refine WC.draw 1 rfl (by decide +kernel) ?_ | refine WC.draw 2 rfl (by decide +kernel) ?_ | refine WC.draw 3 rfl (by decide +kernel) ?_ | refine WC.draw 4 rfl (by decide +kernel) ?_ | refine WC.draw 5 rfl (by decide +kernel) ?_ | refine WC.draw 6 rfl (by decide +kernel) ?_ | refine WC.draw 7 rfl (by decide +kernel) ?_ | refine WC.draw 8 rfl (by decide +kernel) ?_ | refine WC.draw 9 rfl (by decide +kernel) ?_ | refine WC.draw 10 rfl (by decide +kernel) ?_ | refine WC.draw 11 rfl (by decide +kernel) ?_ | refine WC.draw 12 rfl (by decide +kernel) ?_ | refine WC.draw 13 rfl (by decide +kernel) ?_ | refine WC.draw 14 rfl (by decide +kernel) ?_ | refine WC.draw 15 rfl (by decide +kernel) ?_ | refine WC.draw 16 rfl (by decide +kernel) ?_ | refine WC.draw 17 rfl (by decide +kernel) ?_ | refine WC.draw 18 rfl (by decide +kernel) ?_ | refine WC.draw 19 rfl (by decide +kernel) ?_ | refine WC.draw 20 rfl (by decide +kernel) ?_ | refine WC.draw 21 rfl (by decide +kernel) ?_ | refine WC.draw 22 rfl (by decide +kernel) ?_ | refine WC.draw 23 rfl (by decide +kernel) ?_ | refine WC.draw 24 rfl (by decide +kernel) ?_)); (repeat (refine WD.cons rfl (fun c h => by cases h) sq_O31_1 ?_)); refine WD.nil ?_)); (try (refine st ?_; (repeat intro zzc)))))) | ((first | (refine iB_rem ?_; refine WL.rem rfl rfl rfl (by omega) ?_) | (refine iF 14 rfl ?_; refine w_callG Try.func14 ?_ (hs := same_any _ _ _ (by assumption) (by assumption))) | (refine iF 15 rfl ?_; refine w_callG Try.func15 ?_ (hs := text_any _ _ _ (by assumption))) | ((refine iDraw ?_; (first | refine WC.drawAll rfl (by decide +kernel) ?_ | refine WC.draw 1 rfl (by decide +kernel) ?_ | refine WC.draw 2 rfl (by decide +kernel) ?_ | refine WC.draw 3 rfl (by decide +kernel) ?_ | refine WC.draw 4 rfl (by decide +kernel) ?_ | refine WC.draw 5 rfl (by decide +kernel) ?_ | refine WC.draw 6 rfl (by decide +kernel) ?_ | refine WC.draw 7 rfl (by decide +kernel) ?_ | refine WC.draw 8 rfl (by decide +kernel) ?_ | refine WC.draw 9 rfl (by decide +kernel) ?_ | refine WC.draw 10 rfl (by decide +kernel) ?_ | refine WC.draw 11 rfl (by decide +kernel) ?_ | refine WC.draw 12 rfl (by decide +kernel) ?_ | refine WC.draw 13 rfl (by decide +kernel) ?_ | refine WC.draw 14 rfl (by decide +kernel) ?_ | refine WC.draw 15 rfl (by decide +kernel) ?_ | refine WC.draw 16 rfl (by decide +kernel) ?_ | refine WC.draw 17 rfl (by decide +kernel) ?_ | refine WC.draw 18 rfl (by decide +kernel) ?_ | refine WC.draw 19 rfl (by decide +kernel) ?_ | refine WC.draw 20 rfl (by decide +kernel) ?_ | refine WC.draw 21 rfl (by decide +kernel) ?_ | refine WC.draw 22 rfl (by decide +kernel) ?_ | refine WC.draw 23 rfl (by decide +kernel) ?_ | refine WC.draw 24 rfl (by decide +kernel) ?_)); (repeat (refine WD.cons rfl (fun c h => by cases h) sq_O31_1 ?_)); refine WD.nil ?_)); (try (refine st ?_; (repeat intro zzc))))); (repeat ((first | (refine iB_rem ?_; refine WL.rem rfl rfl rfl (by omega) ?_) | (refine iF 14 rfl ?_; refine w_callG Try.func14 ?_ (hs := same_any _ _ _ (by assumption) (by assumption))) | (refine iF 15 rfl ?_; refine w_callG Try.func15 ?_ (hs := text_any _ _ _ (by assumption))) | ((refine iDraw ?_; (first | refine WC.drawAll rfl (by decide +kernel) ?_ | refine WC.draw 1 rfl (by decide +kernel) ?_ | refine WC.draw 2 rfl (by decide +kernel) ?_ | refine WC.draw 3 rfl (by decide +kernel) ?_ | refine WC.draw 4 rfl (by decide +kernel) ?_ | refine WC.draw 5 rfl (by decide +kernel) ?_ | refine WC.draw 6 rfl (by decide +kernel) ?_ | refine WC.draw 7 rfl (by decide +kernel) ?_ | refine WC.draw 8 rfl (by decide +kernel) ?_ | refine WC.draw 9 rfl (by decide +kernel) ?_ | refine WC.draw 10 rfl (by decide +kernel) ?_ | refine WC.draw 11 rfl (by decide +kernel) ?_ | refine WC.draw 12 rfl (by decide +kernel) ?_ | refine WC.draw 13 rfl (by decide +kernel) ?_ | refine WC.draw 14 rfl (by decide +kernel) ?_ | refine WC.draw 15 rfl (by decide +kernel) ?_ | refine WC.draw 16 rfl (by decide +kernel) ?_ | refine WC.draw 17 rfl (by decide +kernel) ?_ | refine WC.draw 18 rfl (by decide +kernel) ?_ | refine WC.draw 19 rfl (by decide +kernel) ?_ | refine WC.draw 20 rfl (by decide +kernel) ?_ | refine WC.draw 21 rfl (by decide +kernel) ?_ | refine WC.draw 22 rfl (by decide +kernel) ?_ | refine WC.draw 23 rfl (by decide +kernel) ?_ | refine WC.draw 24 rfl (by decide +kernel) ?_)); (repeat (refine WD.cons rfl (fun c h => by cases h) sq_O31_1 ?_)); refine WD.nil ?_)); (try (refine st ?_; (repeat intro zzc))))); (repeat revert zzc); exact zzn.out) : G := h ⟨next⟩
theorem cmx_O31_0 {G G' : Prop} (next : G') (h : Bx G' → G := by intro zzn; (try (refine wcal 0 ?_ (hwl := by intro zm zF zle; have zp := hpl.le zle; exact sq_O31_1))); (try (refine wcal 1 ?_ (hwl := by intro zm zF zle; have zp := hpl.le zle; exact sq_O31_1))); (try (refine wcal 2 ?_ (hwl := by intro zm zF zle; have zp := hpl.le zle; exact sq_O31_1))); (try (refine wcal 3 ?_ (hwl := by intro zm zF zle; have zp := hpl.le zle; exact sq_O31_1))); (try (refine wcal 4 ?_ (hwl := by intro zm zF zle; have zp := hpl.le zle; exact sq_O31_1))); (try (refine wcal 5 ?_ (hwl := by intro zm zF zle; have zp := hpl.le zle; exact sq_O31_1))); (try (refine wcal 6 ?_ (hwl := by intro zm zF zle; have zp := hpl.le zle; exact sq_O31_1))); (try (refine wcal 7 ?_ (hwl := by intro zm zF zle; have zp := hpl.le zle; exact sq_O31_1))); (try (refine wcal 8 ?_ (hwl := by intro zm zF zle; have zp := hpl.le zle; exact sq_O31_1))); (try (refine wcal 9 ?_ (hwl := by intro zm zF zle; have zp := hpl.le zle; exact sq_O31_1))); (try (refine wcal 10 ?_ (hwl := by intro zm zF zle; have zp := hpl.le zle; exact sq_O31_1))); (try (refine wcal 11 ?_ (hwl := by intro zm zF zle; have zp := hpl.le zle; exact sq_O31_1))); (try (refine wcal 12 ?_ (hwl := by intro zm zF zle; have zp := hpl.le zle; exact sq_O31_1))); (try (refine wcal 13 ?_ (hwl := by intro zm zF zle; have zp := hpl.le zle; exact sq_O31_1))); (try (refine wcal 14 ?_ (hwl := by intro zm zF zle; have zp := hpl.le zle; exact sq_O31_1))); (try (refine wcal 15 ?_ (hwl := by intro zm zF zle; have zp := hpl.le zle; exact sq_O31_1))); (try (refine wcal 16 ?_ (hwl := by intro zm zF zle; have zp := hpl.le zle; exact sq_O31_1))); (try (refine wcal 17 ?_ (hwl := by intro zm zF zle; have zp := hpl.le zle; exact sq_O31_1))); (try (refine wcal 18 ?_ (hwl := by intro zm zF zle; have zp := hpl.le zle; exact sq_O31_1))); (try (refine wcal 19 ?_ (hwl := by intro zm zF zle; have zp := hpl.le zle; exact sq_O31_1))); (try (refine wcal 20 ?_ (hwl := by intro zm zF zle; have zp := hpl.le zle; exact sq_O31_1))); (try (refine wcal 21 ?_ (hwl := by intro zm zF zle; have zp := hpl.le zle; exact sq_O31_1))); (try (refine wcal 22 ?_ (hwl := by intro zm zF zle; have zp := hpl.le zle; exact sq_O31_1))); (try (refine wcal 23 ?_ (hwl := by intro zm zF zle; have zp := hpl.le zle; exact sq_O31_1))); (try (refine wcal 24 ?_ (hwl := by intro zm zF zle; have zp := hpl.le zle; exact sq_O31_1))); (try (refine wcal 25 ?_ (hwl := by intro zm zF zle; have zp := hpl.le zle; exact sq_O31_1))); (try (refine wcal 26 ?_ (hwl := by intro zm zF zle; have zp := hpl.le zle; exact sq_O31_1))); (try (refine wcal 27 ?_ (hwl := by intro zm zF zle; have zp := hpl.le zle; exact sq_O31_1))); (try (refine wcal 28 ?_ (hwl := by intro zm zF zle; have zp := hpl.le zle; exact sq_O31_1))); (try (refine wcal 29 ?_ (hwl := by intro zm zF zle; have zp := hpl.le zle; exact sq_O31_1))); (try (refine wcal 30 ?_ (hwl := by intro zm zF zle; have zp := hpl.le zle; exact sq_O31_1))); (try (refine wcal 31 ?_ (hwl := by intro zm zF zle; have zp := hpl.le zle; exact sq_O31_1))); (try (refine wcal 32 ?_ (hwl := by intro zm zF zle; have zp := hpl.le zle; exact sq_O31_1))); (try (refine wcal 33 ?_ (hwl := by intro zm zF zle; have zp := hpl.le zle; exact sq_O31_1))); (try (refine wcal 34 ?_ (hwl := by intro zm zF zle; have zp := hpl.le zle; exact sq_O31_1))); (try (refine wcal 35 ?_ (hwl := by intro zm zF zle; have zp := hpl.le zle; exact sq_O31_1))); (try (refine wcal 36 ?_ (hwl := by intro zm zF zle; have zp := hpl.le zle; exact sq_O31_1))); (try (refine wcal 37 ?_ (hwl := by intro zm zF zle; have zp := hpl.le zle; exact sq_O31_1))); (try (refine wcal 38 ?_ (hwl := by intro zm zF zle; have zp := hpl.le zle; exact sq_O31_1))); (try (refine wcal 39 ?_ (hwl := by intro zm zF zle; have zp := hpl.le zle; exact sq_O31_1))); (try (refine wcal 40 ?_ (hwl := by intro zm zF zle; have zp := hpl.le zle; exact sq_O31_1))); (try (refine wcal 41 ?_ (hwl := by intro zm zF zle; have zp := hpl.le zle; exact sq_O31_1))); exact zzn.out) : G := h ⟨next⟩
theorem ropePlays_any {a : Option Addr} {cap : Nat} {S : List Ply} (hc : S.length ≤ cap) (hl : S.length ≤ 1048576) (ht : ∀ x ∈ S, x.text.length ≤ 1048576) (w0 : World) (m : Mem) (H : SHeap) (hg : GInt 0 m) (hr : ∀ Hp, RowR w0 m Hp 6 a (S.map Ply.cs)) :
    Does Try.prog 10 #[.slice a S.length cap] w0 m H (fun v m' _ => v = .bool true ∧ m.le m') := by
  refine Does.of_body (args := [.slice a S.length cap]) Try.func10 rfl Try.ntmps10 rfl ?_
  have hml : (S.map Ply.cs).length = S.length := by simp
  (try (refine st_O31_1 ?_; intros))
  refine w_callF Try.func11 ?_ (hs := works_any _ _ _)
  rintro v m0 H ⟨hle0, rfl, rfl⟩
  (refine st_O31_1 ?_; intros; rename_i b3 b4)
  refine WC.newRow (T := 23) (sz := 1) ?_
  refine WC.newRow (T := 9) (sz := 1) ?_
  refine WC.loopH [(43, .int .i64 ((0) : Int)), (42, .int .i64 (S.length : Int)), (41, .slice a S.length cap), (3, .pointer (some ⟨b3, 0, none⟩)), (4, .pointer (some ⟨b4, 0, none⟩)), (5, .func (.func 31) #[] #[.pointer (some ⟨b3, 0, none⟩), .pointer (some ⟨b4, 0, none⟩)])] ?_ ?_ (fun j r ds m' H' => ∃ (i : Nat) (Z : List (Nat × List UInt8)) (ra : Option Addr) (rc : Nat) (ta : Option Addr) (tc : Nat) (mm : Mem), j = 2 * (S.length - i) ∧ r = [(43, .int .i64 (i : Int)), (42, .int .i64 (S.length : Int)), (41, .slice a S.length cap), (3, .pointer (some ⟨b3, 0, none⟩)), (4, .pointer (some ⟨b4, 0, none⟩)), (5, .func (.func 31) #[] #[.pointer (some ⟨b3, 0, none⟩), .pointer (some ⟨b4, 0, none⟩)])] ∧ ds = [] ∧ mm = m' ∧ H' = .blk b3 (.cells [.slice ra Z.length rc].toArray 65 (0, 0)) :: .blk b4 (.cells [.slice ta Z.length tc].toArray 35 (0, 0)) :: .row ra rc 23 1 ((Z.map Prod.fst).map ptrV) :: .row ta tc 9 1 ((Z.map Prod.snd).map txtV) :: H ∧ (m.le mm) ∧ (i ≤ S.length) ∧ (Z.length ≤ i) ∧ (∀ z ∈ Z, RopeAt mm (.pointer (some ⟨z.1, 0, none⟩)) z.2)) (2 * (S.length - (0))) ⟨0, ([] : List (Nat × List UInt8)), none, 0, none, 0, m0, rfl, rfl, rfl, rfl, rfl, hle0, Nat.zero_le _, Nat.le_refl _, fun z h => by cases h⟩ ?_
  · (repeat (first | exact Env.Sub.nil | refine Env.Sub.cons rfl ?_))
  · exact zpk
  rintro j r ds m' H' ⟨i, Z, ra, rc, ta, tc, mm, rfl, rfl, rfl, rfl, rfl, hle, hi, hz, hro⟩
  have hg2 := hg.le hle
  have hl1 : ((Z.map Prod.fst).map ptrV).length = Z.length := by simp
  have hl2 : ((Z.map Prod.snd).map txtV).length = Z.length := by simp
  by_cases hil : i < S.length
  · obtain ⟨x, hx, hget, htk, hmem, hdr⟩ := at_idx (f := Ply.cs) hil
    have hbl := ht x hmem
    have hr2 : RowR w0 mm H 6 a (S.map Ply.cs) := (hr H).le hle
    refine WC.rSome hr2.more.more.more.more (by omega) ?_
    rintro a0 rfl
    have hr3 := hr2.more (i := .row ta tc 9 1 ((Z.map Prod.snd).map txtV)) |>.more (i := .row ra rc 23 1 ((Z.map Prod.fst).map ptrV)) |>.more (i := .blk b4 (.cells [.slice ta Z.length tc].toArray 35 (0, 0))) |>.more (i := .blk b3 (.cells [.slice ra Z.length rc].toArray 65 (0, 0)))
    have hxc : x.cs = [.int .i64 x.kind, .int .i64 x.who, .int .i64 x.is_, .int .i64 x.from_, .int .i64 x.to_, str x.text] := rfl
    rw [hxc] at hget
    by_cases hnew : Z.length = 0 ∨ x.kind = 4
    · rcases hnew with hn0 | hk4
      · (refine st_O31_1 ?_; intros; rename_i b7)
        refine w_callF Try.func12 ?_ (hs := new_any x.text (by omega) _ _ _)
        rintro v m1 H1 ⟨hle1, rfl, hv⟩
        unfold newV at hv
        rw [if_neg (by omega)] at hv
        obtain ⟨q, rfl, hq⟩ := hv
        obtain ⟨pb, rfl⟩ := ropes_ptr hq
        (try (refine st_O31_1 ?_; intros))
        refine WL.heap (H' := .blk b3 (.cells [.slice ra Z.length rc].toArray 65 (0, 0)) :: .blk b4 (.cells [.slice ta Z.length tc].toArray 35 (0, 0)) :: .row ra rc 23 1 ((Z.map Prod.fst).map ptrV) :: .row ta tc 9 1 ((Z.map Prod.snd).map txtV) :: .blk b7 (.cells [.int .i64 x.kind, .int .i64 x.who, .int .i64 x.is_, .int .i64 x.from_, .int .i64 x.to_, str x.text].toArray 68 (0, 0)) :: H) zpk ?_
        refine WL.callV rfl Try.func31 rfl rfl (by exact rfl) (by exact rfl) (addYes_any (n := Z.length) (R := Z.map Prod.fst) (T := Z.map Prod.snd) (by simp) (by simp) (by omega) _ _ _) ?_
        rintro v m2 H2 ⟨rfl, rfl, ra2, rc2, ta2, tc2, rfl⟩
        rw [mapR Z pb x.text, mapT Z pb x.text, mapL Z pb x.text]
        (try (refine st_O31_1 ?_; intros))
        refine WQ.next (2 * (S.length - (i + 1))) ⟨i + 1, Z ++ [(pb, x.text)], ra2, rc2, ta2, tc2, m2, rfl, rfl, rfl, rfl, rfl, ?_, ?_, ?_, ?_⟩ (by omega) zsb zpk
        · exact hle.trans hle1
        · omega
        · rw [← mapL]; omega
        · exact snocR (fun z hz => (hro z hz).le hle1) hq
      · by_cases hn0 : Z.length = 0
        · (refine st_O31_1 ?_; intros; rename_i b7)
          refine w_callF Try.func12 ?_ (hs := new_any x.text (by omega) _ _ _)
          rintro v m1 H1 ⟨hle1, rfl, hv⟩
          unfold newV at hv
          rw [if_neg (by omega)] at hv
          obtain ⟨q, rfl, hq⟩ := hv
          obtain ⟨pb, rfl⟩ := ropes_ptr hq
          (try (refine st_O31_1 ?_; intros))
          refine WL.heap (H' := .blk b3 (.cells [.slice ra Z.length rc].toArray 65 (0, 0)) :: .blk b4 (.cells [.slice ta Z.length tc].toArray 35 (0, 0)) :: .row ra rc 23 1 ((Z.map Prod.fst).map ptrV) :: .row ta tc 9 1 ((Z.map Prod.snd).map txtV) :: .blk b7 (.cells [.int .i64 x.kind, .int .i64 x.who, .int .i64 x.is_, .int .i64 x.from_, .int .i64 x.to_, str x.text].toArray 68 (0, 0)) :: H) zpk ?_
          refine WL.callV rfl Try.func31 rfl rfl (by exact rfl) (by exact rfl) (addYes_any (n := Z.length) (R := Z.map Prod.fst) (T := Z.map Prod.snd) (by simp) (by simp) (by omega) _ _ _) ?_
          rintro v m2 H2 ⟨rfl, rfl, ra2, rc2, ta2, tc2, rfl⟩
          rw [mapR Z pb x.text, mapT Z pb x.text, mapL Z pb x.text]
          (try (refine st_O31_1 ?_; intros))
          refine WQ.next (2 * (S.length - (i + 1))) ⟨i + 1, Z ++ [(pb, x.text)], ra2, rc2, ta2, tc2, m2, rfl, rfl, rfl, rfl, rfl, ?_, ?_, ?_, ?_⟩ (by omega) zsb zpk
          · exact hle.trans hle1
          · omega
          · rw [← mapL]; omega
          · exact snocR (fun z hz => (hro z hz).le hle1) hq
        · (refine st_O31_1 ?_; intros; rename_i b7)
          refine w_callF Try.func12 ?_ (hs := new_any x.text (by omega) _ _ _)
          rintro v m1 H1 ⟨hle1, rfl, hv⟩
          unfold newV at hv
          rw [if_neg (by omega)] at hv
          obtain ⟨q, rfl, hq⟩ := hv
          obtain ⟨pb, rfl⟩ := ropes_ptr hq
          (try (refine st_O31_1 ?_; intros))
          refine WL.heap (H' := .blk b3 (.cells [.slice ra Z.length rc].toArray 65 (0, 0)) :: .blk b4 (.cells [.slice ta Z.length tc].toArray 35 (0, 0)) :: .row ra rc 23 1 ((Z.map Prod.fst).map ptrV) :: .row ta tc 9 1 ((Z.map Prod.snd).map txtV) :: .blk b7 (.cells [.int .i64 x.kind, .int .i64 x.who, .int .i64 x.is_, .int .i64 x.from_, .int .i64 x.to_, str x.text].toArray 68 (0, 0)) :: H) zpk ?_
          refine WL.callV rfl Try.func31 rfl rfl (by exact rfl) (by exact rfl) (addYes_any (n := Z.length) (R := Z.map Prod.fst) (T := Z.map Prod.snd) (by simp) (by simp) (by omega) _ _ _) ?_
          rintro v m2 H2 ⟨rfl, rfl, ra2, rc2, ta2, tc2, rfl⟩
          rw [mapR Z pb x.text, mapT Z pb x.text, mapL Z pb x.text]
          (try (refine st_O31_1 ?_; intros))
          refine WQ.next (2 * (S.length - (i + 1))) ⟨i + 1, Z ++ [(pb, x.text)], ra2, rc2, ta2, tc2, m2, rfl, rfl, rfl, rfl, rfl, ?_, ?_, ?_, ?_⟩ (by omega) zsb zpk
          · exact hle.trans hle1
          · omega
          · rw [← mapL]; omega
          · exact snocR (fun z hz => (hro z hz).le hle1) hq
    · have hn0 : ¬ Z.length = 0 := fun h => hnew (.inl h)
      have hk4 : ¬ x.kind = 4 := fun h => hnew (.inr h)
      (refine st_O31_1 ?_; intros; rename_i b7)
      by_cases h1 : x.who.tmod (Z.length : Int) < 0
      · (try (refine st_O31_1 ?_; intros))
        refine WQ.next (2 * (S.length - (i + 1))) ⟨i + 1, Z, ra, rc, ta, tc, mm, rfl, rfl, rfl, rfl, rfl, ?_, ?_, ?_, ?_⟩ (by omega) zsb zpk
        · exact hle
        · omega
        · omega
        · exact hro
      by_cases h2 : x.is_.tmod (Z.length : Int) < 0
      · (try (refine st_O31_1 ?_; intros))
        refine WQ.next (2 * (S.length - (i + 1))) ⟨i + 1, Z, ra, rc, ta, tc, mm, rfl, rfl, rfl, rfl, rfl, ?_, ?_, ?_, ?_⟩ (by omega) zsb zpk
        · exact hle
        · omega
        · omega
        · exact hro
      have h3 := Int.tmod_lt_of_pos x.who (b := (Z.length : Int)) (by omega)
      have h4 := Int.tmod_lt_of_pos x.is_ (b := (Z.length : Int)) (by omega)
      obtain ⟨w, hw⟩ : ∃ w : Nat, x.who.tmod (Z.length : Int) = (w : Int) := ⟨(x.who.tmod (Z.length : Int)).toNat, by omega⟩
      obtain ⟨u, hu⟩ : ∃ u : Nat, x.is_.tmod (Z.length : Int) = (u : Int) := ⟨(x.is_.tmod (Z.length : Int)).toNat, by omega⟩
      rw [hw] at h1 h3 ⊢
      rw [hu] at h2 h4 ⊢
      have hwl : w < Z.length := by omega
      have hul : u < Z.length := by omega
      obtain ⟨pw, sw, g1, g2, hpw⟩ := atR hwl hro
      obtain ⟨pu, su, g3, g4, hpu⟩ := atR hul hro
      have hsw := hpw.len
      have hsu := hpu.len
      generalize hRR : (Z.map Prod.fst).map ptrV = RR at *
      generalize hTT : (Z.map Prod.snd).map txtV = TT at *
      refine WL.rowSome (a := ra) (es := RR) zhs (by omega) ?_
      rintro ra0 rfl
      refine WL.rowSome (a := ta) (es := TT) zhs (by omega) ?_
      rintro ta0 rfl
      subst hRR hTT
      (try (refine st_O31_1 ?_; intros))
      refine WC.join (fun r' ds' m' H' => ∃ (Z2 : List (Nat × List UInt8)) (ra2 : Option Addr) (rc2 : Nat) (ta2 : Option Addr) (tc2 : Nat), r' = [(15, .bool true), (7, .pointer (some ⟨b7, 0, none⟩)), (43, .int .i64 (i : Int)), (42, .int .i64 (S.length : Int)), (41, .slice (some a0) S.length cap), (3, .pointer (some ⟨b3, 0, none⟩)), (4, .pointer (some ⟨b4, 0, none⟩)), (5, .func (.func 31) #[] #[.pointer (some ⟨b3, 0, none⟩), .pointer (some ⟨b4, 0, none⟩)])] ∧ ds' = [] ∧ mm.le m' ∧ Z2.length ≤ Z.length + 1 ∧ 0 < Z2.length ∧ (∀ z ∈ Z2, RopeAt m' (.pointer (some ⟨z.1, 0, none⟩)) z.2) ∧ H' = .blk b3 (.cells [.slice ra2 Z2.length rc2].toArray 65 (0, 0)) :: .blk b4 (.cells [.slice ta2 Z2.length tc2].toArray 35 (0, 0)) :: .row ra2 rc2 23 1 ((Z2.map Prod.fst).map ptrV) :: .row ta2 tc2 9 1 ((Z2.map Prod.snd).map txtV) :: .blk b7 (.cells [.int .i64 x.kind, .int .i64 x.who, .int .i64 x.is_, .int .i64 x.from_, .int .i64 x.to_, str x.text].toArray 68 (0, 0)) :: H) ?_ ?_
      · clear hr2 hr3 hxc hx hget htk hmem hdr h1 h2 h3 h4 hw hu hle0 hr ht hc
        by_cases c0 : x.kind = 0
        · (try (refine st_O31_1 ?_; intros))
          refine w_callF Try.func16 ?_ (hs := slice_any _ _ _ hpw)
          rintro v m1 H1 ⟨hle1, rfl, hv⟩
          obtain ⟨p, e, so, no, rfl, hout, hadd⟩ := add_res (b3 := b3) (b4 := b4) (ra := some ra0) (ta := some ta0) (rc := rc) (tc := tc) (fun e h => slice_err h) hv (by omega) (by omega) (fun z hz => (hro z hz).le hle1)
          (try (refine st_O31_1 ?_; intros))
          refine w_callF Try.func32 ?_ (hs := refSlice_any (by omega) _ _ _)
          rintro v m1 H1 ⟨rfl, rfl, rfl⟩
          rw [hout]
          (try (refine st_O31_1 ?_; intros))
          refine WL.heap (H' := .blk b3 (.cells [.slice (some ra0) Z.length rc].toArray 65 (0, 0)) :: .blk b4 (.cells [.slice (some ta0) Z.length tc].toArray 35 (0, 0)) :: .row (some ra0) rc 23 1 ((Z.map Prod.fst).map ptrV) :: .row (some ta0) tc 9 1 ((Z.map Prod.snd).map txtV) :: .blk b7 (.cells [.int .i64 x.kind, .int .i64 x.who, .int .i64 x.is_, .int .i64 x.from_, .int .i64 x.to_, str x.text].toArray 68 (0, 0)) :: H) zpk ?_
          refine WL.callV rfl Try.func31 rfl rfl (by exact rfl) (by exact rfl) (hadd _ _) ?_
          rintro v m2 H2 ⟨rfl, rfl, Z2, ra2, rc2, ta2, tc2, k1, k2, k3, rfl⟩
          (try (refine st_O31_1 ?_; intros))
          exact WQ.join ⟨Z2, ra2, rc2, ta2, tc2, rfl, rfl, hle1, k1, k2, k3, rfl⟩ zsb zpk
        by_cases c1 : x.kind = 1
        · (try (refine st_O31_1 ?_; intros))
          refine w_callF Try.func18 ?_ (hs := delete_any _ _ _ hpw)
          rintro v m1 H1 ⟨hle1, rfl, hv⟩
          obtain ⟨p, e, so, no, rfl, hout, hadd⟩ := add_res (b3 := b3) (b4 := b4) (ra := some ra0) (ta := some ta0) (rc := rc) (tc := tc) (fun e h => delete_err h) hv (by omega) (by omega) (fun z hz => (hro z hz).le hle1)
          (try (refine st_O31_1 ?_; intros))
          refine w_callF Try.func33 ?_ (hs := refDelete_any (by omega) _ _ _)
          rintro v m1 H1 ⟨rfl, rfl, rfl⟩
          rw [hout]
          (try (refine st_O31_1 ?_; intros))
          refine WL.heap (H' := .blk b3 (.cells [.slice (some ra0) Z.length rc].toArray 65 (0, 0)) :: .blk b4 (.cells [.slice (some ta0) Z.length tc].toArray 35 (0, 0)) :: .row (some ra0) rc 23 1 ((Z.map Prod.fst).map ptrV) :: .row (some ta0) tc 9 1 ((Z.map Prod.snd).map txtV) :: .blk b7 (.cells [.int .i64 x.kind, .int .i64 x.who, .int .i64 x.is_, .int .i64 x.from_, .int .i64 x.to_, str x.text].toArray 68 (0, 0)) :: H) zpk ?_
          refine WL.callV rfl Try.func31 rfl rfl (by exact rfl) (by exact rfl) (hadd _ _) ?_
          rintro v m2 H2 ⟨rfl, rfl, Z2, ra2, rc2, ta2, tc2, k1, k2, k3, rfl⟩
          (try (refine st_O31_1 ?_; intros))
          exact WQ.join ⟨Z2, ra2, rc2, ta2, tc2, rfl, rfl, hle1, k1, k2, k3, rfl⟩ zsb zpk
        by_cases c2 : x.kind = 2
        · (try (refine st_O31_1 ?_; intros))
          refine w_callF Try.func17 ?_ (hs := insert_any (by omega) _ _ _ hpw)
          rintro v m1 H1 ⟨hle1, rfl, hv⟩
          obtain ⟨p, e, so, no, rfl, hout, hadd⟩ := add_res (b3 := b3) (b4 := b4) (ra := some ra0) (ta := some ta0) (rc := rc) (tc := tc) (fun e h => insert_err h) hv (by omega) (by omega) (fun z hz => (hro z hz).le hle1)
          (try (refine st_O31_1 ?_; intros))
          refine w_callF Try.func34 ?_ (hs := refInsert_any (by omega) _ _ _)
          rintro v m1 H1 ⟨rfl, rfl, rfl⟩
          rw [hout]
          (try (refine st_O31_1 ?_; intros))
          refine WL.heap (H' := .blk b3 (.cells [.slice (some ra0) Z.length rc].toArray 65 (0, 0)) :: .blk b4 (.cells [.slice (some ta0) Z.length tc].toArray 35 (0, 0)) :: .row (some ra0) rc 23 1 ((Z.map Prod.fst).map ptrV) :: .row (some ta0) tc 9 1 ((Z.map Prod.snd).map txtV) :: .blk b7 (.cells [.int .i64 x.kind, .int .i64 x.who, .int .i64 x.is_, .int .i64 x.from_, .int .i64 x.to_, str x.text].toArray 68 (0, 0)) :: H) zpk ?_
          refine WL.callV rfl Try.func31 rfl rfl (by exact rfl) (by exact rfl) (hadd _ _) ?_
          rintro v m2 H2 ⟨rfl, rfl, Z2, ra2, rc2, ta2, tc2, k1, k2, k3, rfl⟩
          (try (refine st_O31_1 ?_; intros))
          exact WQ.join ⟨Z2, ra2, rc2, ta2, tc2, rfl, rfl, hle1, k1, k2, k3, rfl⟩ zsb zpk
        by_cases c3 : x.kind = 3
        · (try (refine st_O31_1 ?_; intros))
          refine w_callF Try.func13 ?_ (hs := join_any _ _ _ hpw hpu)
          rintro v m1 H1 ⟨hle1, rfl, hv⟩
          obtain ⟨p, e, so, no, rfl, hout, hadd⟩ := add_res (b3 := b3) (b4 := b4) (ra := some ra0) (ta := some ta0) (rc := rc) (tc := tc) (fun e h => join_err h) hv (by omega) (by omega) (fun z hz => (hro z hz).le hle1)
          (try (refine st_O31_1 ?_; intros))
          refine w_callF Try.func35 ?_ (hs := refJoin_any (by omega) _ _ _)
          rintro v m1 H1 ⟨rfl, rfl, rfl⟩
          rw [hout]
          (try (refine st_O31_1 ?_; intros))
          refine WL.heap (H' := .blk b3 (.cells [.slice (some ra0) Z.length rc].toArray 65 (0, 0)) :: .blk b4 (.cells [.slice (some ta0) Z.length tc].toArray 35 (0, 0)) :: .row (some ra0) rc 23 1 ((Z.map Prod.fst).map ptrV) :: .row (some ta0) tc 9 1 ((Z.map Prod.snd).map txtV) :: .blk b7 (.cells [.int .i64 x.kind, .int .i64 x.who, .int .i64 x.is_, .int .i64 x.from_, .int .i64 x.to_, str x.text].toArray 68 (0, 0)) :: H) zpk ?_
          refine WL.callV rfl Try.func31 rfl rfl (by exact rfl) (by exact rfl) (hadd _ _) ?_
          rintro v m2 H2 ⟨rfl, rfl, Z2, ra2, rc2, ta2, tc2, k1, k2, k3, rfl⟩
          (try (refine st_O31_1 ?_; intros))
          exact WQ.join ⟨Z2, ra2, rc2, ta2, tc2, rfl, rfl, hle1, k1, k2, k3, rfl⟩ zsb zpk
        by_cases c5 : x.kind = 5
        · have hbb : ((idxR sw x.text x.from_).2 == (idxR sw x.text x.from_).2) = true := by simp
          (try (refine st_O31_1 ?_; intros))
          refine w_callF Try.func30 ?_ (hs := index_any _ _ _ hg2 hpw)
          rintro v m1 H1 ⟨hle1, rfl, rfl⟩
          (try (refine st_O31_1 ?_; intros))
          refine w_callF Try.func36 ?_ (hs := refIndex_any (by omega) _ _ _)
          rintro v m1 H1 ⟨rfl, rfl, rfl⟩
          (try (refine st_O31_1 ?_; intros))
          rw [hbb]
          exact WQ.join ⟨Z, some ra0, rc, some ta0, tc, rfl, rfl, hle1, Nat.le_succ _, by omega, fun z hz => (hro z hz).le hle1, rfl⟩ zsb zpk
        by_cases c6 : x.kind = 6
        · have hbb : (dcd (sw = su) == dcd (sw = su)) = true := by simp
          (try (refine st_O31_1 ?_; intros))
          rw [hbb]
          exact WQ.join ⟨Z, some ra0, rc, some ta0, tc, rfl, rfl, Mem.le.refl _, Nat.le_succ _, by omega, hro, rfl⟩ zsb zpk
        · (try (refine st_O31_1 ?_; intros))
          exact WQ.join ⟨Z, some ra0, rc, some ta0, tc, rfl, rfl, Mem.le.refl _, Nat.le_succ _, by omega, hro, rfl⟩ zsb zpk
      rintro _ _ m2 _ ⟨Z2, ra2, rc2, ta2, tc2, rfl, rfl, hle2, k1, k2, k3, rfl⟩
      obtain ⟨pl, sl, g5, g6, hpl⟩ := atR (w := Z2.length - 1) (by omega) k3
      have hsl := hpl.len
      have hl3 : ((Z2.map Prod.fst).map ptrV).length = Z2.length := by simp
      have hl4 : ((Z2.map Prod.snd).map txtV).length = Z2.length := by simp
      generalize hRR : (Z2.map Prod.fst).map ptrV = RR at *
      generalize hTT : (Z2.map Prod.snd).map txtV = TT at *
      (try (refine st_O31_1 ?_; intros))
      refine WL.rowSome (a := ra2) (es := RR) zhs (by omega) ?_
      rintro rb0 rfl
      refine WL.rowSome (a := ta2) (es := TT) zhs (by omega) ?_
      rintro tb0 rfl
      clear hr2 hr3 hxc hx hget htk hmem hdr h1 h2 h3 h4 hw hu hle0 hpw hpu g1 g2 g3 g4 hro
      by_cases hbig : 131072 < sl.length
      · (try (refine st_O31_1 ?_; intros))
        refine w_callF Try.func11 ?_ (hs := works_true (hle.trans hle2))
        rintro v m9 H9 ⟨hle9, rfl, rfl⟩
        (try (refine st_O31_1 ?_; intros))
        exact q_fin0 (H0 := H) ⟨rfl, hle9⟩ (hd := zpk)
      · (try (refine st_O31_1 ?_; intros))
        refine WC.drawE 16 ([.blk b3 (.cells [.slice (some rb0) Z2.length rc2].toArray 65 (0, 0)), .blk b4 (.cells [.slice (some tb0) Z2.length tc2].toArray 35 (0, 0)), .row (some rb0) rc2 23 1 RR, .row (some tb0) tc2 9 1 TT, .blk b7 (.cells [.int .i64 x.kind, .int .i64 x.who, .int .i64 x.is_, .int .i64 x.from_, .int .i64 x.to_, str x.text].toArray 68 (0, 0))]) (H) rfl (by decide +kernel) zpk ?_
        (refine cm_O31_1 ?_)
        refine WE.act1 14 (by decide +kernel) rfl rfl (fun c h => by cases h) ?_
        refine w_callF Try.func37 ?_ (hs := tells_any _ _ _ hpl)
        rintro v m3 H3 ⟨hle3, rfl, rfl⟩
        (try (refine st_O31_1 ?_; intros))
        refine WQ.acted (B := []) (U := H) rfl hle3 zpk ?_
        (refine cm_O31_1 ?_)
        refine WE.done (by decide +kernel) ?_
        (try (refine st_O31_1 ?_; intros))
        subst hRR hTT
        refine WQ.next (2 * (S.length - (i + 1))) ⟨i + 1, Z2, some rb0, rc2, some tb0, tc2, m3, rfl, rfl, rfl, rfl, rfl, ?_, ?_, ?_, ?_⟩ (by omega) zsb zpk
        · exact hle.trans (hle2.trans hle3)
        · omega
        · omega
        · exact fun z hz => (k3 z hz).le hle3
  · have hzl : Z.length ≤ 1048576 := by omega
    clear hz hr hml
    generalize hRR : (Z.map Prod.fst).map ptrV = RR at *
    generalize hTT : (Z.map Prod.snd).map txtV = TT at *
    (try (refine st_O31_1 ?_; intros))
    refine WC.loopH [(276, .int .i64 ((0) : Int)), (275, .int .i64 (Z.length : Int)), (274, .slice ra Z.length rc), (4, .pointer (some ⟨b4, 0, none⟩))] ?_ ?_ (fun j r ds m' H' => ∃ (k : Nat) (m2 : Mem), j = 2 * (Z.length - k) ∧ r = [(276, .int .i64 (k : Int)), (275, .int .i64 (Z.length : Int)), (274, .slice ra Z.length rc), (4, .pointer (some ⟨b4, 0, none⟩))] ∧ ds = [] ∧ m2 = m' ∧ H' = .blk b3 (.cells [.slice ra Z.length rc].toArray 65 (0, 0)) :: .blk b4 (.cells [.slice ta Z.length tc].toArray 35 (0, 0)) :: .row ra rc 23 1 RR :: .row ta tc 9 1 TT :: H ∧ (mm.le m2) ∧ (k ≤ Z.length)) (2 * (Z.length - (0))) ⟨0, mm, rfl, rfl, rfl, rfl, rfl, Mem.le.refl _, Nat.zero_le _⟩ ?_
    · (repeat (first | exact Env.Sub.nil | refine Env.Sub.cons rfl ?_))
    · exact zpk
    rintro j r ds m' H' ⟨k, m2, rfl, rfl, rfl, rfl, rfl, hle2, hk⟩
    by_cases hkl : k < Z.length
    · obtain ⟨pl, sl, g5, g6, hpl⟩ := atR hkl (fun z hz => (hro z hz).le hle2)
      have hsl := hpl.len
      rw [hRR] at g5
      rw [hTT] at g6
      refine WC.rowSome (a := ra) (es := RR) zhs (by omega) ?_
      rintro rb0 rfl
      refine WC.rowSome (a := ta) (es := TT) zhs (by omega) ?_
      rintro tb0 rfl
      have hss : sl = sl := rfl
      clear hl ht hc hg hg2 hi hil hro hle0
      (try (refine st_O31_1 ?_; intros))
      refine WC.drawE 17 ([.blk b3 (.cells [.slice (some rb0) Z.length rc].toArray 65 (0, 0)), .blk b4 (.cells [.slice (some tb0) Z.length tc].toArray 35 (0, 0)), .row (some rb0) rc 23 1 RR, .row (some tb0) tc 9 1 TT]) (H) rfl (by decide +kernel) zpk ?_
      (refine cmx_O31_0 ?_)
      refine WE.act1 14 (by decide +kernel) rfl rfl (fun c h => by cases h) ?_
      (try (refine st_O31_1 ?_; intros))
      refine w_callF Try.func37 ?_ (hs := tells_any _ _ _ hpl)
      rintro v m3 H3 ⟨hle3, rfl, rfl⟩
      (try (refine st_O31_1 ?_; intros))
      refine WQ.acted (B := []) (U := H) rfl hle3 zpk ?_
      (refine cm_O31_1 ?_)
      refine WE.done (by decide +kernel) ?_
      (try (refine st_O31_1 ?_; intros))
      refine WQ.next (2 * (Z.length - (k + 1))) ⟨k + 1, m3, rfl, rfl, rfl, rfl, rfl, ?_, ?_⟩ (by omega) zsb zpk
      · exact hle2.trans hle3
      · omega
    · (try (refine st_O31_1 ?_; intros))
      refine w_callF Try.func11 ?_ (hs := works_true (hle.trans hle2))
      rintro v m9 H9 ⟨hle9, rfl, rfl⟩
      (try (refine st_O31_1 ?_; intros))
      exact q_fin0 (H0 := H) ⟨rfl, hle9⟩ (hd := zpk)
end Go.Proofs.Ytljfncpecpkhhaa

/-
  The law RopePlays: its walk and its argument. No condition.
-/

/-
  A law's conditions, the world's shape kept: for laws that reach a variable of the library's. No condition.
-/
set_option linter.all false
namespace Go.Eng
open Go Go.RowKit Go.ChangeShapes
theorem gint_of {w : World} {g : Nat} (h : ∃ z, w.cell? ⟨g, 0, none⟩ = some (.int .i64 z)) : GInt g (memOf w) := by
  obtain ⟨z, hz⟩ := h
  unfold World.cell? at hz
  cases ho : w.heap[g]? with
  | none => simp [ho] at hz
  | some o =>
    cases o <;> simp [ho] at hz
    case cells cs T fz => exact ⟨cs, T, fz, z, ho, hz⟩
theorem returnsInHanded_of_condS {H : Type} {enc : TypeId × Value → H} {a : Assume} {C : Checked} {os : Os} {f : FuncId} {fn : Func} {s : OpenSpec} {k : (H : Type) → List (DataW H) → Bool} (hk : s.cond = some k) {F : Stop.Interp} {conds : List PathCond} {apart fresh handsOn again : Bool}
    (own : ownKnob C.prog.godebug = none) (started : os.Started) (noInit : C.prog.inits.idxOf? f = none) (hfn : C.prog.funcs[f]? = some fn)
    (witness : ∃ (w : World) (tape : Tape) (i : Input), w.os = os ∧ (w.forCall tape i).Shaped C.prog ∧ i.vars = [] ∧ Input.okWide C.prog (w.forCall tape i) .any w.heap.size f i ∧
      s.pre6 enc C.prog fn conds apart (w.forCall tape i).memory i.args ∧ a.holds C.prog (lone (Frame.enter C.prog f i.args .normal) [] (w.forCall tape i)))
    (contract : ∀ (W : World) (base : Nat) (args : Array Value) (ds gs : List (DataW H)) (before : List MemPlace),
      (∀ (j : Nat) t v, fn.params[j]? = some t → args[j]? = some v → Value.okWide C.prog W .any base t v) →
      DataW.Whole enc C.prog fn.params.toList s.vars apart W args.toList ds gs before →
      conds.all (PathCond.test C.prog ⟨fn.params.toList, ds, s.bare.plain.varTypes C.prog, gs⟩) = true → k H (ds ++ gs) = true → W.ShapedOpen C.prog →
      a.holds C.prog (lone (Frame.enter C.prog f args .normal) [] W) →
      Calls C.prog f args W fun e W' => ∃ v, e = .returned v ∧ (s.at F).post enc C.prog fn apart fresh handsOn again W args v W') :
    ReturnsInHanded a C os f .any (s.pre6 enc C.prog fn conds apart) ((s.at F).post enc C.prog fn apart fresh handsOn again) := by
  refine returnsInHanded_of_calls own started noInit witness ?_
  intro w tape i _ hsh _ hok hpre hholds
  obtain ⟨_, _, _, fn', hfn', _, _, _, _, hval⟩ := hok
  have e : fn' = fn := Option.some.inj (hfn'.symm.trans hfn)
  subst e
  obtain ⟨ds, gs, before, hw, hc, hkk⟩ := (OpenSpec.pre_some hk conds apart _ _).1 hpre.1
  have hw' := DataW.Whole.of_heap (w' := w.forCall tape i) (by rfl) hw
  refine (contract (w.forCall tape i) w.heap.size i.args ds gs before hval hw' hc hkk hsh hholds).mono fun e W' ⟨v, he, hp⟩ => ?_
  subst he
  exact ChangeSpec.post_blind hp
end Go.Eng

