/-
  Parts of a walk, joined: E9 E10 ET19 E30 E17a ET18 E33 EngV EV LM5. No condition.
-/
import Derived.Test.YtelgegefmjlimaaP7
import Derived.Test.YtelgegefmjlimaaP9
import Derived.Test.YtelgegefmjlimaaP8
import Derived.Test.YtelgegefmjlimaaP6
import Derived.Deep.Strs
import Derived.Test.YtelgegefmjlimaaRows
/-
  The walks of package edit, ninth part: where a place goes. No condition.
-/
namespace Go.Eng
/-- what a change that may be bounds -/
theorem sized {l : List Stp} {f t : Int} (h : sizesOf l = some (f, t)) : (∀ s ∈ l, stpOk s) ∧ (atomsOf l).length ≤ 131072 ∧ (atomsOf (plainOf l)).length ≤ 131072 ∧ f = (fromA (atomsOf l) : Int) ∧ t = (toA (atomsOf l) : Int) ∧ 0 ≤ f ∧ f ≤ 65536 ∧ 0 ≤ t ∧ t ≤ 65536 := by
  obtain ⟨h1, h2, h3, h4, h5⟩ := sizesOf_some h
  have hok : ∀ s ∈ l, stpOk s := fun s hs => (h1 s hs).1
  have a1 := atoms_le (atomsOf l)
  have a2 := atoms_le (atomsOf (plainOf l))
  obtain ⟨n1, n2⟩ := nf_sizes l hok
  rw [plain_atoms, n1, n2] at a2
  unfold maxT at h4 h5
  rw [plain_atoms]
  exact ⟨hok, by omega, by omega, h2, h3, by omega, by omega, by omega, by omega⟩
end Go.Eng
namespace Go.Proofs.Ytelgegefmjlimaa
open Go Go.Eng
set_option maxRecDepth 100000
set_option maxHeartbeats 4000000
set_option linter.all false
attribute [local irreducible] WL WC WQ QFun QLoop Does Q1 QRound QAssign Go.Addr.add
theorem move_any {a : Option Addr} {cap : Nat} {l : List Stp} {at_ : Int} {bh : Bool} (hok : ∀ s ∈ l, stpOk s) (hl : (atomsOf l).length ≤ 1000000000) (hat : -1000000000 ≤ at_ ∧ at_ ≤ 1000000000) (w0 : World) (m : Mem) (H : SHeap) (hr : RowR w0 m H 3 a (l.map Stp.cs)) :
    Does Try.prog 41 #[.slice a l.length cap, .int .i64 at_, .bool bh] w0 m H (Gives (.int .i64 (moveOf l at_ bh)) m H) := by
  refine Does.of_body (args := [.slice a l.length cap, .int .i64 at_, .bool bh]) Try.func41 rfl Try.ntmps41 rfl ?_
  have hln : (l.map Stp.cs).length = l.length := by simp
  have hlen := steps_le l hok
  (try (refine st ?_; intros))
  refine WC.loopH [(13, .int .i64 ((0) : Int)), (12, .int .i64 (l.length : Int)), (11, .slice a l.length cap), (1, .int .i64 at_), (2, .bool bh), (7, .int .i64 (0)), (8, .int .i64 (0))] ?_ ?_ (fun j r ds m' H' => ∃ (i : _) (o : Int) (ah : Int), j = l.length - i ∧ r = [(13, .int .i64 (i : Int)), (12, .int .i64 (l.length : Int)), (11, .slice a l.length cap), (1, .int .i64 at_), (2, .bool bh), (7, .int .i64 o), (8, .int .i64 ah)] ∧ ds = [] ∧ m = m' ∧ H' = H ∧ (i ≤ l.length) ∧ (0 ≤ o ∧ o ≤ ((atomsOf (l.take i)).length : Int) ∧ 0 ≤ ah ∧ ah ≤ ((atomsOf (l.take i)).length : Int)) ∧ ((l.drop i).foldl (moveStep at_ bh) (o, ah) = l.foldl (moveStep at_ bh) (0, 0)) ∧ (RowR w0 m H 3 a (l.map Stp.cs))) (l.length - (0)) ⟨0, 0, 0, rfl, rfl, rfl, rfl, rfl, by omega, by simp, rfl, hr⟩ ?_
  · (repeat (first | exact Env.Sub.nil | refine Env.Sub.cons rfl ?_))
  · exact (fun w h => Pick.sat (by iterate 60 (try (first | exact Pick.all | (apply Pick.take; (· (repeat (first | exact Out.here | apply Out.there)))) | apply Pick.drop))) h)
  rintro j r ds m' H' ⟨i, o, ah, rfl, rfl, rfl, rfl, rfl, hi, hb, hs, hr⟩
  generalize H' = H at *
  by_cases hlt : i < l.length
  · obtain ⟨x, hx, hget, htk, hmem, hdr⟩ := at_idx (f := Stp.cs) hlt
    have hxl : (atomsOf (l.take (i + 1))).length = (atomsOf (l.take i)).length + x.atoms.length := by rw [htk, atoms_append, atoms_one, List.length_append]
    have hxm : (atomsOf (l.take (i + 1))).length ≤ (atomsOf l).length := by
      have e : atomsOf l = atomsOf (l.take (i + 1)) ++ atomsOf (l.drop (i + 1)) := by rw [← atoms_append, List.take_append_drop]
      rw [e, List.length_append]; omega
    rw [atoms_len] at hxl
    rw [hdr, List.foldl_cons] at hs
    refine WC.rSome hr (by omega) ?_
    rintro a0 rfl
    rcases hok x hmem with ⟨h1, h2, h3⟩ | ⟨h1, h2, h3⟩ | ⟨h1, h2, h3⟩
    · have e : moveStep at_ bh (o, ah) x = (o + max 0 (min x.k (at_ - ah)), ah + x.k) := by simp [moveStep, h2, h3]
      rw [e] at hs
      (try (refine st ?_; intros))
      refine WQ.next (l.length - (i + 1)) ⟨i + 1, o + max 0 (min x.k (at_ - ah)), ah + x.k, rfl, rfl, rfl, rfl, rfl, ?_, ?_, ?_, ?_⟩ (by omega) (by (repeat (first | exact Env.Sub.nil | refine Env.Sub.cons rfl ?_))) (fun w h => Pick.sat (by iterate 60 (try (first | exact Pick.all | (apply Pick.take; (· (repeat (first | exact Out.here | apply Out.there)))) | apply Pick.drop))) h)
      · omega
      · omega
      · exact hs
      · assumption
    · have e : moveStep at_ bh (o, ah) x = (o, ah + x.d.length) := by simp [moveStep, h2, h3]
      rw [e] at hs
      (try (refine st ?_; intros))
      refine WQ.next (l.length - (i + 1)) ⟨i + 1, o, ah + x.d.length, rfl, rfl, rfl, rfl, rfl, ?_, ?_, ?_, ?_⟩ (by omega) (by (repeat (first | exact Env.Sub.nil | refine Env.Sub.cons rfl ?_))) (fun w h => Pick.sat (by iterate 60 (try (first | exact Pick.all | (apply Pick.take; (· (repeat (first | exact Out.here | apply Out.there)))) | apply Pick.drop))) h)
      · omega
      · omega
      · exact hs
      · assumption
    · rcases (show ah < at_ ∨ ah = at_ ∨ at_ < ah by omega) with h4 | h4 | h4
      · have e : moveStep at_ bh (o, ah) x = (o + x.p.length, ah) := by simp [moveStep, h3, h4]
        rw [e] at hs
        (try (refine st ?_; intros))
        refine WQ.next (l.length - (i + 1)) ⟨i + 1, o + x.p.length, ah, rfl, rfl, rfl, rfl, rfl, ?_, ?_, ?_, ?_⟩ (by omega) (by (repeat (first | exact Env.Sub.nil | refine Env.Sub.cons rfl ?_))) (fun w h => Pick.sat (by iterate 60 (try (first | exact Pick.all | (apply Pick.take; (· (repeat (first | exact Out.here | apply Out.there)))) | apply Pick.drop))) h)
        · omega
        · omega
        · exact hs
        · assumption
      · cases bh with
        | true =>
          have e : moveStep at_ true (o, ah) x = (o + x.p.length, ah) := by simp [moveStep, h3, h4]
          rw [e] at hs
          (try (refine st ?_; intros))
          refine WQ.next (l.length - (i + 1)) ⟨i + 1, o + x.p.length, ah, rfl, rfl, rfl, rfl, rfl, ?_, ?_, ?_, ?_⟩ (by omega) (by (repeat (first | exact Env.Sub.nil | refine Env.Sub.cons rfl ?_))) (fun w h => Pick.sat (by iterate 60 (try (first | exact Pick.all | (apply Pick.take; (· (repeat (first | exact Out.here | apply Out.there)))) | apply Pick.drop))) h)
          · omega
          · omega
          · exact hs
          · assumption
        | false =>
          have e : moveStep at_ false (o, ah) x = (o, ah) := by simp [moveStep, h3, h4]
          rw [e] at hs
          (try (refine st ?_; intros))
          refine WQ.next (l.length - (i + 1)) ⟨i + 1, o, ah, rfl, rfl, rfl, rfl, rfl, ?_, ?_, ?_, ?_⟩ (by omega) (by (repeat (first | exact Env.Sub.nil | refine Env.Sub.cons rfl ?_))) (fun w h => Pick.sat (by iterate 60 (try (first | exact Pick.all | (apply Pick.take; (· (repeat (first | exact Out.here | apply Out.there)))) | apply Pick.drop))) h)
          · omega
          · omega
          · exact hs
          · assumption
      · have e : moveStep at_ bh (o, ah) x = (o, ah) := by
          simp only [moveStep]
          rw [if_pos h3, if_neg (by omega)]
        rw [e] at hs
        (try (refine st ?_; intros))
        refine WQ.next (l.length - (i + 1)) ⟨i + 1, o, ah, rfl, rfl, rfl, rfl, rfl, ?_, ?_, ?_, ?_⟩ (by omega) (by (repeat (first | exact Env.Sub.nil | refine Env.Sub.cons rfl ?_))) (fun w h => Pick.sat (by iterate 60 (try (first | exact Pick.all | (apply Pick.take; (· (repeat (first | exact Out.here | apply Out.there)))) | apply Pick.drop))) h)
        · omega
        · omega
        · exact hs
        · assumption
  · obtain rfl : i = l.length := by omega
    rw [List.drop_length, List.foldl_nil] at hs
    (try (refine st ?_; intros))
    exact q_fin0 (H0 := H) (Gives.mk (by rw [moveOf, ← hs])) (hd := (fun w h => Pick.sat (by iterate 60 (try (first | exact Pick.all | (apply Pick.take; (· (repeat (first | exact Out.here | apply Out.there)))) | apply Pick.drop))) h))
def moveV (l : List Stp) (at_ : Int) (bh : Bool) : Value := match sizesOf l with
  | none => .tuple #[.int .i64 0, .int .i64 2]
  | some (f, _) => if at_ < 0 ∨ f < at_ then .tuple #[.int .i64 0, .int .i64 5] else .tuple #[.int .i64 (moveOf (plainOf l) at_ bh), .int .i64 0]
theorem sq_E9_1 {G : Prop} (h : G := by (repeat (first | (refine sp ?_; (repeat intro zzc)) | (refine iF 40 rfl ?_; refine w_callG Try.func40 ?_ (hs := sizes_any (by assumption) _ _ _ (by assumption))))); exact WQ.q1 rfl) : G := h
theorem st_E9_1 {G G' : Prop} (next : G') (h : Bx G' → G := by intro zzn; (first | ((refine st ?_; (repeat intro zzc)); (try ((first | (refine iF 40 rfl ?_; refine w_callG Try.func40 ?_ (hs := sizes_any (by assumption) _ _ _ (by assumption))) | ((refine iDraw ?_; (first | refine WC.drawAll rfl (by decide +kernel) ?_ | refine WC.draw 1 rfl (by decide +kernel) ?_ | refine WC.draw 2 rfl (by decide +kernel) ?_ | refine WC.draw 3 rfl (by decide +kernel) ?_ | refine WC.draw 4 rfl (by decide +kernel) ?_ | refine WC.draw 5 rfl (by decide +kernel) ?_ | refine WC.draw 6 rfl (by decide +kernel) ?_ | refine WC.draw 7 rfl (by decide +kernel) ?_ | refine WC.draw 8 rfl (by decide +kernel) ?_ | refine WC.draw 9 rfl (by decide +kernel) ?_ | refine WC.draw 10 rfl (by decide +kernel) ?_ | refine WC.draw 11 rfl (by decide +kernel) ?_ | refine WC.draw 12 rfl (by decide +kernel) ?_ | refine WC.draw 13 rfl (by decide +kernel) ?_ | refine WC.draw 14 rfl (by decide +kernel) ?_ | refine WC.draw 15 rfl (by decide +kernel) ?_ | refine WC.draw 16 rfl (by decide +kernel) ?_ | refine WC.draw 17 rfl (by decide +kernel) ?_ | refine WC.draw 18 rfl (by decide +kernel) ?_ | refine WC.draw 19 rfl (by decide +kernel) ?_ | refine WC.draw 20 rfl (by decide +kernel) ?_ | refine WC.draw 21 rfl (by decide +kernel) ?_ | refine WC.draw 22 rfl (by decide +kernel) ?_ | refine WC.draw 23 rfl (by decide +kernel) ?_ | refine WC.draw 24 rfl (by decide +kernel) ?_)); (repeat (refine WD.cons rfl (fun c h => by cases h) sq_E9_1 ?_)); refine WD.nil ?_)); (try (refine st ?_; (repeat intro zzc)))))) | ((first | (refine iF 40 rfl ?_; refine w_callG Try.func40 ?_ (hs := sizes_any (by assumption) _ _ _ (by assumption))) | ((refine iDraw ?_; (first | refine WC.drawAll rfl (by decide +kernel) ?_ | refine WC.draw 1 rfl (by decide +kernel) ?_ | refine WC.draw 2 rfl (by decide +kernel) ?_ | refine WC.draw 3 rfl (by decide +kernel) ?_ | refine WC.draw 4 rfl (by decide +kernel) ?_ | refine WC.draw 5 rfl (by decide +kernel) ?_ | refine WC.draw 6 rfl (by decide +kernel) ?_ | refine WC.draw 7 rfl (by decide +kernel) ?_ | refine WC.draw 8 rfl (by decide +kernel) ?_ | refine WC.draw 9 rfl (by decide +kernel) ?_ | refine WC.draw 10 rfl (by decide +kernel) ?_ | refine WC.draw 11 rfl (by decide +kernel) ?_ | refine WC.draw 12 rfl (by decide +kernel) ?_ | refine WC.draw 13 rfl (by decide +kernel) ?_ | refine WC.draw 14 rfl (by decide +kernel) ?_ | refine WC.draw 15 rfl (by decide +kernel) ?_ | refine WC.draw 16 rfl (by decide +kernel) ?_ | refine WC.draw 17 rfl (by decide +kernel) ?_ | refine WC.draw 18 rfl (by decide +kernel) ?_ | refine WC.draw 19 rfl (by decide +kernel) ?_ | refine WC.draw 20 rfl (by decide +kernel) ?_ | refine WC.draw 21 rfl (by decide +kernel) ?_ | refine WC.draw 22 rfl (by decide +kernel) ?_ | refine WC.draw 23 rfl (by decide +kernel) ?_ | refine WC.draw 24 rfl (by decide +kernel) ?_)); (repeat (refine WD.cons rfl (fun c h => by cases h) sq_E9_1 ?_)); refine WD.nil ?_)); (try (refine st ?_; (repeat intro zzc))))); (repeat ((first | (refine iF 40 rfl ?_; refine w_callG Try.func40 ?_ (hs := sizes_any (by assumption) _ _ _ (by assumption))) | ((refine iDraw ?_; (first | refine WC.drawAll rfl (by decide +kernel) ?_ | refine WC.draw 1 rfl (by decide +kernel) ?_ | refine WC.draw 2 rfl (by decide +kernel) ?_ | refine WC.draw 3 rfl (by decide +kernel) ?_ | refine WC.draw 4 rfl (by decide +kernel) ?_ | refine WC.draw 5 rfl (by decide +kernel) ?_ | refine WC.draw 6 rfl (by decide +kernel) ?_ | refine WC.draw 7 rfl (by decide +kernel) ?_ | refine WC.draw 8 rfl (by decide +kernel) ?_ | refine WC.draw 9 rfl (by decide +kernel) ?_ | refine WC.draw 10 rfl (by decide +kernel) ?_ | refine WC.draw 11 rfl (by decide +kernel) ?_ | refine WC.draw 12 rfl (by decide +kernel) ?_ | refine WC.draw 13 rfl (by decide +kernel) ?_ | refine WC.draw 14 rfl (by decide +kernel) ?_ | refine WC.draw 15 rfl (by decide +kernel) ?_ | refine WC.draw 16 rfl (by decide +kernel) ?_ | refine WC.draw 17 rfl (by decide +kernel) ?_ | refine WC.draw 18 rfl (by decide +kernel) ?_ | refine WC.draw 19 rfl (by decide +kernel) ?_ | refine WC.draw 20 rfl (by decide +kernel) ?_ | refine WC.draw 21 rfl (by decide +kernel) ?_ | refine WC.draw 22 rfl (by decide +kernel) ?_ | refine WC.draw 23 rfl (by decide +kernel) ?_ | refine WC.draw 24 rfl (by decide +kernel) ?_)); (repeat (refine WD.cons rfl (fun c h => by cases h) sq_E9_1 ?_)); refine WD.nil ?_)); (try (refine st ?_; (repeat intro zzc))))); (repeat revert zzc); exact zzn.out) : G := h ⟨next⟩
theorem eMove_any {a : Option Addr} {cap : Nat} {l : List Stp} {at_ : Int} {bh : Bool} (hf : Fit l) (w0 : World) (m : Mem) (H : SHeap) (hr : RowR w0 m H 3 a (l.map Stp.cs)) :
    Does Try.prog 15 #[.slice a l.length cap, .int .i64 at_, .bool bh] w0 m H (Gives (moveV l at_ bh) m H) := by
  refine Does.of_body (args := [.slice a l.length cap, .int .i64 at_, .bool bh]) Try.func15 rfl Try.ntmps15 rfl ?_
  cases hs : sizesOf l with
  | none =>
    have e : moveV l at_ bh = .tuple #[.int .i64 0, .int .i64 2] := by simp [moveV, hs]
    have e2 : szP (sizesOf l) = .tuple #[.int .i64 0, .int .i64 0, .int .i64 2] := by rw [hs]; rfl
    rw [e]
    (try (refine st_E9_1 ?_; intros))
    rw [e2]
    (try (refine st_E9_1 ?_; intros))
    exact q_fin0 (H0 := H) (Gives.mk rfl) (hd := (fun w h => Pick.sat (by iterate 60 (try (first | exact Pick.all | (apply Pick.take; (· (repeat (first | exact Out.here | apply Out.there)))) | apply Pick.drop))) h))
  | some ft =>
    obtain ⟨f, t⟩ := ft
    have e2 : szP (sizesOf l) = .tuple #[.int .i64 f, .int .i64 t, .int .i64 0] := by rw [hs]; rfl
    obtain ⟨hok, hal, hpl, _, _, g1, g2, _, _⟩ := sized hs
    by_cases h1 : at_ < 0 ∨ f < at_
    · have e : moveV l at_ bh = .tuple #[.int .i64 0, .int .i64 5] := by simp [moveV, hs, h1]
      rw [e]
      rcases (show at_ < 0 ∨ (0 ≤ at_ ∧ f < at_) by omega) with h2 | h2
      all_goals ((try (refine st_E9_1 ?_; intros)); rw [e2]; (try (refine st_E9_1 ?_; intros)); exact q_fin0 (H0 := H) (Gives.mk rfl) (hd := (fun w h => Pick.sat (by iterate 60 (try (first | exact Pick.all | (apply Pick.take; (· (repeat (first | exact Out.here | apply Out.there)))) | apply Pick.drop))) h)))
    · have e : moveV l at_ bh = .tuple #[.int .i64 (moveOf (plainOf l) at_ bh), .int .i64 0] := by simp [moveV, hs, h1]
      rw [e]
      (try (refine st_E9_1 ?_; intros))
      rw [e2]
      (try (refine st_E9_1 ?_; intros))
      refine w_callF Try.func42 ?_ (hs := plain_any hok (by omega) _ _ _ hr)
      rintro v m1 H1 ⟨rfl, c, cp, rfl, rfl⟩
      (try (refine st_E9_1 ?_; intros))
      refine w_callF Try.func41 ?_ (hs := move_any (plain_ok l) (by omega) (by omega) _ _ _ (RowR.row (by (repeat (first | exact List.Mem.head _ | apply List.Mem.tail)))))
      rintro v m2 H2 ⟨rfl, rfl, rfl⟩
      (try (refine st_E9_1 ?_; intros))
      exact q_fin0 (H0 := H) (Gives.mk rfl) (hd := (fun w h => Pick.sat (by iterate 60 (try (first | exact Pick.all | (apply Pick.take; (· (repeat (first | exact Out.here | apply Out.there)))) | apply Pick.drop))) h))
end Go.Proofs.Ytelgegefmjlimaa

/-
  The walks of package edit, tenth part: what a change makes of a text; the law's example. No condition.
-/
namespace Go.Eng
open Go Go.RowKit
theorem RowR.blk {w0 : World} {m : Mem} {H : SHeap} {b sz : Nat} {T : TypeId} {fz : Nat × Nat} {es : List (List Value)} {L : List Value} (hm : Item.blk b (.cells L.toArray T fz) ∈ H) (h1 : ∀ e ∈ es, e.length = sz) (hL : es.flatten = L) : RowR w0 m H sz (.some ⟨b, 0, .none⟩) es := by
  subst hL
  intro w hs
  refine ⟨h1, fun j v hj => ?_⟩
  rw [add_none]
  exact Cell.blk hm (by simpa using hj) w hs
def bV (b : UInt8) : List Value := [.int .u8 (b.toNat : Int)]
def applyV (s : List UInt8) (l : List Stp) : Value := match sizesOf l with
  | none => .tuple #[str [], .int .i64 2]
  | some (f, _) => if f ≠ s.length then .tuple #[str [], .int .i64 5] else match applyA s (atomsOf l) with
    | none => .tuple #[str [], .int .i64 270]
    | some o => .tuple #[str o, .int .i64 0]
end Go.Eng
namespace Go.Proofs.Ytelgegefmjlimaa
open Go Go.Eng
set_option maxRecDepth 100000
set_option maxHeartbeats 4000000
set_option linter.all false
attribute [local irreducible] WL WC WQ QFun QLoop Does Q1 QRound QAssign Go.Addr.add
attribute [local irreducible] applyA sizesF sizesOf
theorem sq_E10_1 {G : Prop} (h : G := by (repeat (first | (refine sp ?_; (repeat intro zzc)) | (refine iF 40 rfl ?_; refine w_callG Try.func40 ?_ (hs := sizes_any (by assumption) _ _ _ (by assumption))))); exact WQ.q1 rfl) : G := h
theorem st_E10_1 {G G' : Prop} (next : G') (h : Bx G' → G := by intro zzn; (first | ((refine st ?_; (repeat intro zzc)); (try ((first | (refine iF 40 rfl ?_; refine w_callG Try.func40 ?_ (hs := sizes_any (by assumption) _ _ _ (by assumption))) | ((refine iDraw ?_; (first | refine WC.drawAll rfl (by decide +kernel) ?_ | refine WC.draw 1 rfl (by decide +kernel) ?_ | refine WC.draw 2 rfl (by decide +kernel) ?_ | refine WC.draw 3 rfl (by decide +kernel) ?_ | refine WC.draw 4 rfl (by decide +kernel) ?_ | refine WC.draw 5 rfl (by decide +kernel) ?_ | refine WC.draw 6 rfl (by decide +kernel) ?_ | refine WC.draw 7 rfl (by decide +kernel) ?_ | refine WC.draw 8 rfl (by decide +kernel) ?_ | refine WC.draw 9 rfl (by decide +kernel) ?_ | refine WC.draw 10 rfl (by decide +kernel) ?_ | refine WC.draw 11 rfl (by decide +kernel) ?_ | refine WC.draw 12 rfl (by decide +kernel) ?_ | refine WC.draw 13 rfl (by decide +kernel) ?_ | refine WC.draw 14 rfl (by decide +kernel) ?_ | refine WC.draw 15 rfl (by decide +kernel) ?_ | refine WC.draw 16 rfl (by decide +kernel) ?_ | refine WC.draw 17 rfl (by decide +kernel) ?_ | refine WC.draw 18 rfl (by decide +kernel) ?_ | refine WC.draw 19 rfl (by decide +kernel) ?_ | refine WC.draw 20 rfl (by decide +kernel) ?_ | refine WC.draw 21 rfl (by decide +kernel) ?_ | refine WC.draw 22 rfl (by decide +kernel) ?_ | refine WC.draw 23 rfl (by decide +kernel) ?_ | refine WC.draw 24 rfl (by decide +kernel) ?_)); (repeat (refine WD.cons rfl (fun c h => by cases h) sq_E10_1 ?_)); refine WD.nil ?_)); (try (refine st ?_; (repeat intro zzc)))))) | ((first | (refine iF 40 rfl ?_; refine w_callG Try.func40 ?_ (hs := sizes_any (by assumption) _ _ _ (by assumption))) | ((refine iDraw ?_; (first | refine WC.drawAll rfl (by decide +kernel) ?_ | refine WC.draw 1 rfl (by decide +kernel) ?_ | refine WC.draw 2 rfl (by decide +kernel) ?_ | refine WC.draw 3 rfl (by decide +kernel) ?_ | refine WC.draw 4 rfl (by decide +kernel) ?_ | refine WC.draw 5 rfl (by decide +kernel) ?_ | refine WC.draw 6 rfl (by decide +kernel) ?_ | refine WC.draw 7 rfl (by decide +kernel) ?_ | refine WC.draw 8 rfl (by decide +kernel) ?_ | refine WC.draw 9 rfl (by decide +kernel) ?_ | refine WC.draw 10 rfl (by decide +kernel) ?_ | refine WC.draw 11 rfl (by decide +kernel) ?_ | refine WC.draw 12 rfl (by decide +kernel) ?_ | refine WC.draw 13 rfl (by decide +kernel) ?_ | refine WC.draw 14 rfl (by decide +kernel) ?_ | refine WC.draw 15 rfl (by decide +kernel) ?_ | refine WC.draw 16 rfl (by decide +kernel) ?_ | refine WC.draw 17 rfl (by decide +kernel) ?_ | refine WC.draw 18 rfl (by decide +kernel) ?_ | refine WC.draw 19 rfl (by decide +kernel) ?_ | refine WC.draw 20 rfl (by decide +kernel) ?_ | refine WC.draw 21 rfl (by decide +kernel) ?_ | refine WC.draw 22 rfl (by decide +kernel) ?_ | refine WC.draw 23 rfl (by decide +kernel) ?_ | refine WC.draw 24 rfl (by decide +kernel) ?_)); (repeat (refine WD.cons rfl (fun c h => by cases h) sq_E10_1 ?_)); refine WD.nil ?_)); (try (refine st ?_; (repeat intro zzc))))); (repeat ((first | (refine iF 40 rfl ?_; refine w_callG Try.func40 ?_ (hs := sizes_any (by assumption) _ _ _ (by assumption))) | ((refine iDraw ?_; (first | refine WC.drawAll rfl (by decide +kernel) ?_ | refine WC.draw 1 rfl (by decide +kernel) ?_ | refine WC.draw 2 rfl (by decide +kernel) ?_ | refine WC.draw 3 rfl (by decide +kernel) ?_ | refine WC.draw 4 rfl (by decide +kernel) ?_ | refine WC.draw 5 rfl (by decide +kernel) ?_ | refine WC.draw 6 rfl (by decide +kernel) ?_ | refine WC.draw 7 rfl (by decide +kernel) ?_ | refine WC.draw 8 rfl (by decide +kernel) ?_ | refine WC.draw 9 rfl (by decide +kernel) ?_ | refine WC.draw 10 rfl (by decide +kernel) ?_ | refine WC.draw 11 rfl (by decide +kernel) ?_ | refine WC.draw 12 rfl (by decide +kernel) ?_ | refine WC.draw 13 rfl (by decide +kernel) ?_ | refine WC.draw 14 rfl (by decide +kernel) ?_ | refine WC.draw 15 rfl (by decide +kernel) ?_ | refine WC.draw 16 rfl (by decide +kernel) ?_ | refine WC.draw 17 rfl (by decide +kernel) ?_ | refine WC.draw 18 rfl (by decide +kernel) ?_ | refine WC.draw 19 rfl (by decide +kernel) ?_ | refine WC.draw 20 rfl (by decide +kernel) ?_ | refine WC.draw 21 rfl (by decide +kernel) ?_ | refine WC.draw 22 rfl (by decide +kernel) ?_ | refine WC.draw 23 rfl (by decide +kernel) ?_ | refine WC.draw 24 rfl (by decide +kernel) ?_)); (repeat (refine WD.cons rfl (fun c h => by cases h) sq_E10_1 ?_)); refine WD.nil ?_)); (try (refine st ?_; (repeat intro zzc))))); (repeat revert zzc); exact zzn.out) : G := h ⟨next⟩
theorem apply_any {a : Option Addr} {cap : Nat} {l : List Stp} {s : List UInt8} (hf : Fit l) (hsl : s.length ≤ 1000000000) (w0 : World) (m : Mem) (H : SHeap) (hr : RowR w0 m H 3 a (l.map Stp.cs)) :
    Does Try.prog 22 #[str s, .slice a l.length cap] w0 m H (Gives (applyV s l) m H) := by
  refine Does.of_body (args := [str s, .slice a l.length cap]) Try.func22 rfl Try.ntmps22 rfl ?_
  have hln : (l.map Stp.cs).length = l.length := by simp
  have hlen := hf.len
  cases hs : sizesOf l with
  | none =>
    have e : applyV s l = .tuple #[str [], .int .i64 2] := by simp only [applyV, hs]
    have e2 : szP (sizesOf l) = .tuple #[.int .i64 0, .int .i64 0, .int .i64 2] := by rw [hs]; rfl
    rw [e]
    (try (refine st_E10_1 ?_; intros))
    rw [e2]
    (try (refine st_E10_1 ?_; intros))
    exact q_fin0 (H0 := H) (Gives.mk rfl) (hd := (fun w h => Pick.sat (by iterate 60 (try (first | exact Pick.all | (apply Pick.take; (· (repeat (first | exact Out.here | apply Out.there)))) | apply Pick.drop))) h))
  | some ft =>
    obtain ⟨f, t⟩ := ft
    have e2 : szP (sizesOf l) = .tuple #[.int .i64 f, .int .i64 t, .int .i64 0] := by rw [hs]; rfl
    obtain ⟨hok, hal, hpl, hfr, _, g1, g2, _, _⟩ := sized hs
    by_cases hfs : f = s.length
    · (try (refine st_E10_1 ?_; intros))
      rw [e2]
      (try (refine st_E10_1 ?_; intros))
      refine WC.newRow (T := 5) (sz := 1) ?_
      refine WC.loopH [(29, .int .i64 ((0) : Int)), (28, .int .i64 (l.length : Int)), (27, .slice a l.length cap), (0, str (s)), (9, .slice (none) (0) (0))] ?_ ?_ (fun j r ds m' H' => ∃ i S a9 c9 n9 O, j = l.length - i ∧ r = [(29, .int .i64 (i : Int)), (28, .int .i64 (l.length : Int)), (27, .slice a l.length cap), (0, str S), (9, .slice a9 n9 c9)] ∧ ds = [] ∧ m = m' ∧ H' = .row a9 c9 5 1 (O.map bV) :: H ∧ (i ≤ l.length) ∧ (n9 = O.length) ∧ (O.length ≤ (atomsOf (l.take i)).length + s.length - S.length) ∧ (S.length ≤ s.length) ∧ (fromA (atomsOf (l.drop i)) = S.length) ∧ ((applyA S (atomsOf (l.drop i))).map (O ++ ·) = applyA s (atomsOf l))) (l.length - (0)) ⟨0, s, none, 0, 0, ([] : List UInt8), rfl, rfl, rfl, rfl, rfl, by omega, rfl, by simp, by omega, by rw [List.drop_zero]; omega, by simp⟩ ?_
      · (repeat (first | exact Env.Sub.nil | refine Env.Sub.cons rfl ?_))
      · exact (fun w h => Pick.sat (by iterate 60 (try (first | exact Pick.all | (apply Pick.take; (· (repeat (first | exact Out.here | apply Out.there)))) | apply Pick.drop))) h)
      rintro j r ds m' H' ⟨i, S, a9, c9, n9, O, rfl, rfl, rfl, rfl, rfl, hi, hn9, hO, hSl, hSf, hR⟩
      have hOl : (O.map bV).length = O.length := by simp
      have htl : (atomsOf (l.take i)).length ≤ (atomsOf l).length := by
        have e : atomsOf l = atomsOf (l.take i) ++ atomsOf (l.drop i) := by rw [← atoms_append, List.take_append_drop]
        rw [e]; simp
      subst hn9
      by_cases hlt : i < l.length
      · obtain ⟨x, hx, hget, htk, hmem, hdr⟩ := at_idx (f := Stp.cs) hlt
        have hxl : (atomsOf (l.take (i + 1))).length = (atomsOf (l.take i)).length + x.atoms.length := by rw [htk, atoms_append, atoms_one, List.length_append]
        have hxm : (atomsOf (l.take (i + 1))).length ≤ (atomsOf l).length := by
          have e : atomsOf l = atomsOf (l.take (i + 1)) ++ atomsOf (l.drop (i + 1)) := by rw [← atoms_append, List.take_append_drop]
          rw [e, List.length_append]; omega
        rw [atoms_len] at hxl
        rw [hdr, atoms_cons] at hR hSf
        rw [fromA_append, from_step] at hSf
        have hr1 := hr.more (i := .row a9 c9 5 1 (O.map bV))
        have hxok := hok x hmem
        refine WC.rSome hr1 (by omega) ?_
        rintro a0 rfl
        rcases hxok with ⟨h1, h2, h3⟩ | ⟨h1, h2, h3⟩ | ⟨h1, h2, h3⟩
        · have h2' : x.d.length = 0 := by rw [h2]; rfl
          have h3' : x.p.length = 0 := by rw [h3]; rfl
          have ea : x.atoms = List.replicate x.k.toNat .k := by simp [Stp.atoms, h2, h3]
          rw [ea, applyA_ks x.k.toNat S _ (by omega), Option.map_map] at hR
          have hmin : (S.take x.k.toNat).length = x.k.toNat := by simp; omega
          have hed : (S.drop x.k.toNat).length = S.length - x.k.toNat := by simp
          (refine st_E10_1 ?_; intros; rename_i bx a8 c8)
          rw [hOl, hmin]
          have em : O.map bV ++ (S.take x.k.toNat).map (fun b => [Value.int .u8 (b.toNat : Int)]) = (O ++ S.take x.k.toNat).map bV := by rw [List.map_append]; rfl
          rw [em]
          refine WQ.next (l.length - (i + 1)) ⟨i + 1, S.drop x.k.toNat, a8, c8, O.length + x.k.toNat, O ++ S.take x.k.toNat, rfl, rfl, rfl, rfl, rfl, ?_, ?_, ?_, ?_, ?_, ?_⟩ (by omega) (by (repeat (first | exact Env.Sub.nil | refine Env.Sub.cons rfl ?_))) (fun w h => Pick.sat (by iterate 60 (try (first | exact Pick.all | (apply Pick.take; (· (repeat (first | exact Out.here | apply Out.there)))) | apply Pick.drop))) h)
          · omega
          · rw [List.length_append, hmin]
          · rw [List.length_append, hmin]; omega
          · omega
          · omega
          · rw [← hR]; congr 1; funext q; simp
        · have h3' : x.p.length = 0 := by rw [h3]; rfl
          have ea : x.atoms = x.d.map .d := by simp [Stp.atoms, h1, h3]
          rw [ea, applyA_ds x.d S _ (by omega)] at hR
          have hed : (S.drop x.d.length).length = S.length - x.d.length := by simp
          by_cases h4 : S.take x.d.length = x.d
          · rw [if_pos h4] at hR
            (try (refine st_E10_1 ?_; intros))
            refine WQ.next (l.length - (i + 1)) ⟨i + 1, S.drop x.d.length, a9, c9, O.length, O, rfl, rfl, rfl, rfl, rfl, ?_, ?_, ?_, ?_, ?_, ?_⟩ (by omega) (by (repeat (first | exact Env.Sub.nil | refine Env.Sub.cons rfl ?_))) (fun w h => Pick.sat (by iterate 60 (try (first | exact Pick.all | (apply Pick.take; (· (repeat (first | exact Out.here | apply Out.there)))) | apply Pick.drop))) h)
            · omega
            · rfl
            · omega
            · omega
            · omega
            · exact hR
          · rw [if_neg h4] at hR
            have e : applyV s l = .tuple #[str [], .int .i64 270] := by simp only [applyV, hs, hfs, ne_eq, not_true, if_false, ← hR, Option.map_none]
            rw [e]
            (try (refine st_E10_1 ?_; intros))
            exact q_fin0 (H0 := H) (Gives.mk rfl) (hd := (fun w h => Pick.sat (by iterate 60 (try (first | exact Pick.all | (apply Pick.take; (· (repeat (first | exact Out.here | apply Out.there)))) | apply Pick.drop))) h))
        · have h2' : x.d.length = 0 := by rw [h2]; rfl
          have ea : x.atoms = x.p.map .p := by simp [Stp.atoms, h1, h2]
          rw [ea, applyA_ps S x.p, Option.map_map] at hR
          (refine st_E10_1 ?_; intros; rename_i bx a8 c8)
          rw [hOl]
          have em : O.map bV ++ x.p.map (fun b => [Value.int .u8 (b.toNat : Int)]) = (O ++ x.p).map bV := by rw [List.map_append]; rfl
          rw [em]
          refine WQ.next (l.length - (i + 1)) ⟨i + 1, S, a8, c8, O.length + x.p.length, O ++ x.p, rfl, rfl, rfl, rfl, rfl, ?_, ?_, ?_, ?_, ?_, ?_⟩ (by omega) (by (repeat (first | exact Env.Sub.nil | refine Env.Sub.cons rfl ?_))) (fun w h => Pick.sat (by iterate 60 (try (first | exact Pick.all | (apply Pick.take; (· (repeat (first | exact Out.here | apply Out.there)))) | apply Pick.drop))) h)
          · omega
          · rw [List.length_append]
          · rw [List.length_append]; omega
          · omega
          · omega
          · rw [← hR]; congr 1; funext q; simp
      · obtain rfl : i = l.length := by omega
        rw [List.drop_length] at hR
        have e : applyV s l = .tuple #[str O, .int .i64 0] := by
          have : some O = applyA s (atomsOf l) := by rw [← hR, show atomsOf [] = [] from rfl, applyA_nil]; simp
          simp only [applyV, hs, hfs, ne_eq, not_true, if_false, ← this]
        rw [e]
        (try (refine st_E10_1 ?_; intros))
        refine WL.rowStr (s := O) rfl rfl (by (repeat (first | exact List.Mem.head _ | apply List.Mem.tail))) rfl rfl rfl rfl rfl ?_
        (try (refine st_E10_1 ?_; intros))
        exact q_fin0 (H0 := H) (Gives.mk rfl) (hd := (fun w h => Pick.sat (by iterate 60 (try (first | exact Pick.all | (apply Pick.take; (· (repeat (first | exact Out.here | apply Out.there)))) | apply Pick.drop))) h))
    · have e : applyV s l = .tuple #[str [], .int .i64 5] := by simp [applyV, hs, hfs]
      rw [e]
      (try (refine st_E10_1 ?_; intros))
      rw [e2]
      (try (refine st_E10_1 ?_; intros))
      exact q_fin0 (H0 := H) (Gives.mk rfl) (hd := (fun w h => Pick.sat (by iterate 60 (try (first | exact Pick.all | (apply Pick.take; (· (repeat (first | exact Out.here | apply Out.there)))) | apply Pick.drop))) h))
theorem sq_E10_2 {G : Prop} (h : G := by (repeat (first | (refine sp ?_; (repeat intro zzc)))); exact WQ.q1 rfl) : G := h
theorem st_E10_2 {G G' : Prop} (next : G') (h : Bx G' → G := by intro zzn; (first | ((refine st ?_; (repeat intro zzc)); (try ((first | ((refine iDraw ?_; (first | refine WC.drawAll rfl (by decide +kernel) ?_ | refine WC.draw 1 rfl (by decide +kernel) ?_ | refine WC.draw 2 rfl (by decide +kernel) ?_ | refine WC.draw 3 rfl (by decide +kernel) ?_ | refine WC.draw 4 rfl (by decide +kernel) ?_ | refine WC.draw 5 rfl (by decide +kernel) ?_ | refine WC.draw 6 rfl (by decide +kernel) ?_ | refine WC.draw 7 rfl (by decide +kernel) ?_ | refine WC.draw 8 rfl (by decide +kernel) ?_ | refine WC.draw 9 rfl (by decide +kernel) ?_ | refine WC.draw 10 rfl (by decide +kernel) ?_ | refine WC.draw 11 rfl (by decide +kernel) ?_ | refine WC.draw 12 rfl (by decide +kernel) ?_ | refine WC.draw 13 rfl (by decide +kernel) ?_ | refine WC.draw 14 rfl (by decide +kernel) ?_ | refine WC.draw 15 rfl (by decide +kernel) ?_ | refine WC.draw 16 rfl (by decide +kernel) ?_ | refine WC.draw 17 rfl (by decide +kernel) ?_ | refine WC.draw 18 rfl (by decide +kernel) ?_ | refine WC.draw 19 rfl (by decide +kernel) ?_ | refine WC.draw 20 rfl (by decide +kernel) ?_ | refine WC.draw 21 rfl (by decide +kernel) ?_ | refine WC.draw 22 rfl (by decide +kernel) ?_ | refine WC.draw 23 rfl (by decide +kernel) ?_ | refine WC.draw 24 rfl (by decide +kernel) ?_)); (repeat (refine WD.cons rfl (fun c h => by cases h) sq_E10_2 ?_)); refine WD.nil ?_)); (try (refine st ?_; (repeat intro zzc)))))) | ((first | ((refine iDraw ?_; (first | refine WC.drawAll rfl (by decide +kernel) ?_ | refine WC.draw 1 rfl (by decide +kernel) ?_ | refine WC.draw 2 rfl (by decide +kernel) ?_ | refine WC.draw 3 rfl (by decide +kernel) ?_ | refine WC.draw 4 rfl (by decide +kernel) ?_ | refine WC.draw 5 rfl (by decide +kernel) ?_ | refine WC.draw 6 rfl (by decide +kernel) ?_ | refine WC.draw 7 rfl (by decide +kernel) ?_ | refine WC.draw 8 rfl (by decide +kernel) ?_ | refine WC.draw 9 rfl (by decide +kernel) ?_ | refine WC.draw 10 rfl (by decide +kernel) ?_ | refine WC.draw 11 rfl (by decide +kernel) ?_ | refine WC.draw 12 rfl (by decide +kernel) ?_ | refine WC.draw 13 rfl (by decide +kernel) ?_ | refine WC.draw 14 rfl (by decide +kernel) ?_ | refine WC.draw 15 rfl (by decide +kernel) ?_ | refine WC.draw 16 rfl (by decide +kernel) ?_ | refine WC.draw 17 rfl (by decide +kernel) ?_ | refine WC.draw 18 rfl (by decide +kernel) ?_ | refine WC.draw 19 rfl (by decide +kernel) ?_ | refine WC.draw 20 rfl (by decide +kernel) ?_ | refine WC.draw 21 rfl (by decide +kernel) ?_ | refine WC.draw 22 rfl (by decide +kernel) ?_ | refine WC.draw 23 rfl (by decide +kernel) ?_ | refine WC.draw 24 rfl (by decide +kernel) ?_)); (repeat (refine WD.cons rfl (fun c h => by cases h) sq_E10_2 ?_)); refine WD.nil ?_)); (try (refine st ?_; (repeat intro zzc))))); (repeat ((first | ((refine iDraw ?_; (first | refine WC.drawAll rfl (by decide +kernel) ?_ | refine WC.draw 1 rfl (by decide +kernel) ?_ | refine WC.draw 2 rfl (by decide +kernel) ?_ | refine WC.draw 3 rfl (by decide +kernel) ?_ | refine WC.draw 4 rfl (by decide +kernel) ?_ | refine WC.draw 5 rfl (by decide +kernel) ?_ | refine WC.draw 6 rfl (by decide +kernel) ?_ | refine WC.draw 7 rfl (by decide +kernel) ?_ | refine WC.draw 8 rfl (by decide +kernel) ?_ | refine WC.draw 9 rfl (by decide +kernel) ?_ | refine WC.draw 10 rfl (by decide +kernel) ?_ | refine WC.draw 11 rfl (by decide +kernel) ?_ | refine WC.draw 12 rfl (by decide +kernel) ?_ | refine WC.draw 13 rfl (by decide +kernel) ?_ | refine WC.draw 14 rfl (by decide +kernel) ?_ | refine WC.draw 15 rfl (by decide +kernel) ?_ | refine WC.draw 16 rfl (by decide +kernel) ?_ | refine WC.draw 17 rfl (by decide +kernel) ?_ | refine WC.draw 18 rfl (by decide +kernel) ?_ | refine WC.draw 19 rfl (by decide +kernel) ?_ | refine WC.draw 20 rfl (by decide +kernel) ?_ | refine WC.draw 21 rfl (by decide +kernel) ?_ | refine WC.draw 22 rfl (by decide +kernel) ?_ | refine WC.draw 23 rfl (by decide +kernel) ?_ | refine WC.draw 24 rfl (by decide +kernel) ?_)); (repeat (refine WD.cons rfl (fun c h => by cases h) sq_E10_2 ?_)); refine WD.nil ?_)); (try (refine st ?_; (repeat intro zzc))))); (repeat revert zzc); exact zzn.out) : G := h ⟨next⟩
theorem live_val : applyV [97, 98] [⟨1, [], []⟩, ⟨0, [98], []⟩, ⟨0, [], [99]⟩] = .tuple #[str [97, 99], .int .i64 0] := by
  have h1 : sizesOf [⟨1, [], []⟩, ⟨0, [98], []⟩, ⟨0, [], [99]⟩] = some (2, 2) := by decide +kernel
  have h2 : applyA [97, 98] (atomsOf [⟨1, [], []⟩, ⟨0, [98], []⟩, ⟨0, [], [99]⟩]) = some [97, 99] := by decide +kernel
  simp only [applyV, h1, h2]
  rfl
theorem live_any (w0 : World) (m : Mem) (H : SHeap) : Does Try.prog 12 #[] w0 m H (Gives (.bool true) m H) := by
  refine Does.of_body (args := []) Try.func12 rfl Try.ntmps12 rfl ?_
  (refine st_E10_2 ?_; intros; rename_i b)
  refine w_callF Try.func22 ?_ (hs := apply_any (s := [97, 98]) (l := [⟨1, [], []⟩, ⟨0, [98], []⟩, ⟨0, [], [99]⟩]) ⟨by decide, by decide, by decide, by decide⟩ (by decide) _ _ _ (RowR.blk (by (repeat (first | exact List.Mem.head _ | apply List.Mem.tail))) (by decide) rfl))
  rintro v m1 H1 ⟨rfl, rfl, rfl⟩
  rw [live_val]
  (try (refine st_E10_2 ?_; intros))
  (refine q_fin0 ?_)
  exact Gives.mk (by rw [dcd_true rfl])
end Go.Proofs.Ytelgegefmjlimaa

/-
  Plain facts on changes: lists that builders make, applied. No condition.
-/
namespace Go.Eng
open Go
theorem mem_atoms {l : List Stp} {s : Stp} (h : s ∈ l) : s.atoms.length ≤ (atomsOf l).length := by
  obtain ⟨x, y, rfl⟩ := List.append_of_mem h
  rw [atoms_append, atoms_cons, List.length_append, List.length_append]; omega
theorem fit_list {L : List Atm} (h1 : fromA L ≤ 65536) (h2 : toA L ≤ 65536) : Fit (listOf L) := by
  obtain ⟨e1, e2⟩ := list_sizes L
  have hok := (list_ok L).1
  have ha := atoms_le (atomsOf (listOf L))
  have hl := steps_le (listOf L) hok
  refine ⟨by omega, fun s hs => ?_, fun s hs => ?_, fun s hs => ?_⟩
  all_goals
    have := mem_atoms hs
    have hb := stp_bounds (hok s hs)
    omega
def okV (t : List UInt8) : Value := .tuple #[str t, .int .i64 0]
theorem apply_cases (s : List UInt8) (l : List Stp) : (∃ e : Int, e ≠ 0 ∧ applyV s l = .tuple #[str [], .int .i64 e]) ∨ (∃ t tt, sizesOf l = some ((s.length : Int), tt) ∧ applyA s (atomsOf l) = some t ∧ applyV s l = okV t) := by
  unfold applyV
  cases hs : sizesOf l with
  | none => exact .inl ⟨2, by decide, rfl⟩
  | some ft =>
    obtain ⟨f, tt⟩ := ft
    simp only
    by_cases hf : f = s.length
    · subst hf
      simp only [ne_eq, not_true, if_false]
      cases ha : applyA s (atomsOf l) with
      | none => exact .inl ⟨270, by decide, rfl⟩
      | some t => exact .inr ⟨t, tt, rfl, rfl, rfl⟩
    · simp only [ne_eq, hf, not_false_eq_true, if_true]
      exact .inl ⟨5, by decide, rfl⟩
theorem apply_listV {L : List Atm} {s t : List UInt8} (h1 : fromA L = s.length) (h2 : applyA s L = some t) (h3 : fromA L ≤ 65536) (h4 : toA L ≤ 65536) : applyV s (listOf L) = okV t := by
  unfold applyV
  rw [sizes_list L h3 h4]
  simp only
  rw [if_neg (by omega), apply_list, h2]; rfl
end Go.Eng

/-
  The walks of the law's edge and cuts: where the rows of a change begin and end. No condition.
-/
namespace Go.Eng
open Go
/-- up to which byte a change has gone, of the text that it is of, or of the one that it makes -/
def goneA (from_ : Bool) (L : List Atm) : Nat := if from_ then fromA L else toA L
theorem gone_snoc (f : Bool) (l : List Stp) (s : Stp) : goneA f (atomsOf (l ++ [s])) = goneA f (atomsOf l) + (s.k.toNat + if f then s.d.length else s.p.length) := by
  unfold goneA
  rw [atoms_append, atoms_one]
  cases f
  · simp only [Bool.false_eq_true, if_false]; rw [toA_append, to_step]
  · simp only [if_true]; rw [fromA_append, from_step]
theorem gone_le (f : Bool) (L : List Atm) : goneA f L ≤ L.length := by
  unfold goneA
  cases f
  · have := atoms_le L; simp only [Bool.false_eq_true, if_false]
    induction L with
    | nil => exact Nat.le_refl _
    | cons a L ih => cases a <;> simp only [toA, List.length_cons] <;> (have := ih (atoms_le L); omega)
  · simp only [if_true]
    induction L with
    | nil => exact Nat.le_refl _
    | cons a L ih => cases a <;> simp only [fromA, List.length_cons] <;> omega
end Go.Eng
namespace Go.Proofs.Ytelgegefmjlimaa
open Go Go.Eng
set_option maxRecDepth 100000
set_option maxHeartbeats 4000000
set_option linter.all false
attribute [local irreducible] WL WC WQ QFun QLoop Does Q1 QRound QAssign Go.Addr.add
attribute [local irreducible] readP pieces dl from_
theorem edge_any (l : List UInt8) (e : Nat) (hl : l.length ≤ 1000000) (hr : Go.Eng.Reach l e) (he : e ≤ l.length) (w0 : World) (m : Mem) (H : SHeap) :
    Does Try.prog 57 #[str l, .int .i64 (e : Int)] w0 m H (Gives (.bool true) m H) := by
  refine Does.of_body (args := [str l, .int .i64 (e : Int)]) Try.func57 rfl Try.ntmps57 rfl ?_
  (refine st ?_; intros; rename_i it)
  refine WC.loopH [(7, .pointer (some ⟨it, 0, none⟩)), (0, str l), (1, .int .i64 (e : Int))] ?_ ?_ (fun j r ds m' H' => ∃ (k : Nat), j = 2 * (l.length - k) ∧ r = [(7, .pointer (some ⟨it, 0, none⟩)), (0, str l), (1, .int .i64 (e : Int))] ∧ ds = [] ∧ m = m' ∧ H' = .blk it (.stringIter ⟨l.toArray⟩ k) :: H ∧ (Go.Eng.Reach l k) ∧ (k ≤ e)) (2 * (l.length - (0))) ⟨0, rfl, rfl, rfl, rfl, rfl, Go.Eng.Reach.zero l, Nat.zero_le _⟩ ?_
  · (repeat (first | exact Env.Sub.nil | refine Env.Sub.cons rfl ?_))
  · exact (fun w h => Pick.sat (by iterate 60 (try (first | exact Pick.all | (apply Pick.take; (· (repeat (first | exact Out.here | apply Out.there)))) | apply Pick.drop))) h)
  rintro j r ds m' H' ⟨k, rfl, rfl, rfl, rfl, rfl, hk, hke⟩
  by_cases hkl : k < l.length
  · have hw := readP_w hkl
    have hwe := readP_w_eq l k
    by_cases hke2 : k = e
    · subst hke2
      (try (refine st ?_; intros))
      exact q_fin0 (H0 := H) (Gives.mk rfl) (hd := (fun w h => Pick.sat (by iterate 60 (try (first | exact Pick.all | (apply Pick.take; (· (repeat (first | exact Out.here | apply Out.there)))) | apply Pick.drop))) h))
    · have hnx := reach_next hk hr he (by omega)
      (try (refine st ?_; intros))
      refine WQ.next (2 * (l.length - (k + (dl (l.drop k)).2))) ⟨k + (dl (l.drop k)).2, rfl, rfl, rfl, rfl, rfl, ?_, ?_⟩ (by omega) (by (repeat (first | exact Env.Sub.nil | refine Env.Sub.cons rfl ?_))) (fun w h => Pick.sat (by iterate 60 (try (first | exact Pick.all | (apply Pick.take; (· (repeat (first | exact Out.here | apply Out.there)))) | apply Pick.drop))) h)
      · rw [← hwe]; exact hk.step hkl
      · omega
  · obtain rfl : k = l.length := by omega
    obtain rfl : e = l.length := by omega
    (try (refine st ?_; intros))
    exact q_fin0 (H0 := H) (Gives.mk (show Value.bool (dcd ((l.length : Int) = (l.length : Int))) = Value.bool true from congrArg Value.bool (dcd_true rfl))) (hd := (fun w h => Pick.sat (by iterate 60 (try (first | exact Pick.all | (apply Pick.take; (· (repeat (first | exact Out.here | apply Out.there)))) | apply Pick.drop))) h))
theorem cuts_any {a : Option Addr} {cap : Nat} {l : List Stp} {s : List UInt8} {f : Bool} (hok : ∀ x ∈ l, stpOk x) (hl : (atomsOf l).length ≤ 1000000) (hs : s.length ≤ 1000000)
    (hc : ∀ i, i ≤ l.length → goneA f (atomsOf (l.take i)) ≤ s.length ∧ Go.Eng.Reach s (goneA f (atomsOf (l.take i)))) (he : goneA f (atomsOf l) = s.length) (w0 : World) (m : Mem) (H : SHeap) (hr : RowR w0 m H 3 a (l.map Stp.cs)) :
    Does Try.prog 23 #[str s, .slice a l.length cap, .bool f] w0 m H (Gives (.bool true) m H) := by
  refine Does.of_body (args := [str s, .slice a l.length cap, .bool f]) Try.func23 rfl Try.ntmps23 rfl ?_
  have hln : (l.map Stp.cs).length = l.length := by simp
  have hlen := steps_le l hok
  (try (refine st ?_; intros))
  refine WC.loopH [(8, .int .i64 ((0) : Int)), (7, .int .i64 ((0) : Int)), (0, str s), (1, .slice a l.length cap), (2, .bool f)] ?_ ?_ (fun j r ds m' H' => ∃ (i : Nat) (at_ : Nat), j = l.length - i ∧ r = [(8, .int .i64 (i : Int)), (7, .int .i64 (at_ : Int)), (0, str s), (1, .slice a l.length cap), (2, .bool f)] ∧ ds = [] ∧ m = m' ∧ H' = H ∧ (i ≤ l.length) ∧ (at_ = goneA f (atomsOf (l.take i))) ∧ (RowR w0 m H 3 a (l.map Stp.cs))) (l.length - (0)) ⟨0, 0, rfl, rfl, rfl, rfl, rfl, by omega, by cases f <;> simp [goneA, atomsOf, fromA, toA], hr⟩ ?_
  · (repeat (first | exact Env.Sub.nil | refine Env.Sub.cons rfl ?_))
  · exact (fun w h => Pick.sat (by iterate 60 (try (first | exact Pick.all | (apply Pick.take; (· (repeat (first | exact Out.here | apply Out.there)))) | apply Pick.drop))) h)
  rintro j r ds m' H' ⟨i, at_, rfl, rfl, rfl, rfl, rfl, hi, hat, hr⟩
  generalize H' = H at *
  by_cases hlt : i < l.length
  · obtain ⟨x, hx, hget, htk, hmem, hdr⟩ := at_idx (f := Stp.cs) hlt
    have hxb := stp_bounds (hok x hmem)
    have hxm := mem_atoms hmem
    have hg := gone_snoc f (l.take i) x
    rw [← htk, ← hat] at hg
    obtain ⟨hc1, hc2⟩ := hc (i + 1) (by omega)
    refine WC.rSome hr (by omega) ?_
    rintro a0 rfl
    cases f with
    | true =>
      simp only [if_true] at hg
      have e : (at_ : Int) + x.k + (x.d.length : Int) = ((goneA true (atomsOf (l.take (i + 1))) : Nat) : Int) := by omega
      (try (refine st ?_; intros))
      rw [e]
      refine w_callF Try.func57 ?_ (hs := edge_any s (goneA true (atomsOf (l.take (i + 1)))) hs hc2 hc1 _ _ _)
      rintro v m H1 ⟨rfl, rfl, rfl⟩
      (try (refine st ?_; intros))
      refine WQ.next (l.length - (i + 1)) ⟨i + 1, goneA true (atomsOf (l.take (i + 1))), rfl, rfl, rfl, rfl, rfl, ?_, ?_, ?_⟩ (by omega) (by (repeat (first | exact Env.Sub.nil | refine Env.Sub.cons rfl ?_))) (fun w h => Pick.sat (by iterate 60 (try (first | exact Pick.all | (apply Pick.take; (· (repeat (first | exact Out.here | apply Out.there)))) | apply Pick.drop))) h)
      · omega
      · rfl
      · assumption
    | false =>
      simp only [Bool.false_eq_true, if_false] at hg
      have e : (at_ : Int) + x.k + (x.p.length : Int) = ((goneA false (atomsOf (l.take (i + 1))) : Nat) : Int) := by omega
      (try (refine st ?_; intros))
      rw [e]
      refine w_callF Try.func57 ?_ (hs := edge_any s (goneA false (atomsOf (l.take (i + 1)))) hs hc2 hc1 _ _ _)
      rintro v m H1 ⟨rfl, rfl, rfl⟩
      (try (refine st ?_; intros))
      refine WQ.next (l.length - (i + 1)) ⟨i + 1, goneA false (atomsOf (l.take (i + 1))), rfl, rfl, rfl, rfl, rfl, ?_, ?_, ?_⟩ (by omega) (by (repeat (first | exact Env.Sub.nil | refine Env.Sub.cons rfl ?_))) (fun w h => Pick.sat (by iterate 60 (try (first | exact Pick.all | (apply Pick.take; (· (repeat (first | exact Out.here | apply Out.there)))) | apply Pick.drop))) h)
      · omega
      · rfl
      · assumption
  · obtain rfl : i = l.length := by omega
    rw [List.take_length, he] at hat
    subst hat
    (try (refine st ?_; intros))
    exact q_fin0 (H0 := H) (Gives.mk (show Value.bool (dcd ((s.length : Int) = (s.length : Int))) = Value.bool true from congrArg Value.bool (dcd_true rfl))) (hd := (fun w h => Pick.sat (by iterate 60 (try (first | exact Pick.all | (apply Pick.take; (· (repeat (first | exact Out.here | apply Out.there)))) | apply Pick.drop))) h))
end Go.Proofs.Ytelgegefmjlimaa

/-
  The walk of the law's comparison of changes. No condition.
-/
namespace Go.Proofs.Ytelgegefmjlimaa
open Go Go.Eng
set_option maxRecDepth 100000
set_option maxHeartbeats 4000000
set_option linter.all false
attribute [local irreducible] WL WC WQ QFun QLoop Does Q1 QRound QAssign Go.Addr.add
theorem same_any {pa pb : Option Addr} {ca cb : Nat} {l : List Stp} (hl : l.length ≤ 1000000000) (w0 : World) (m : Mem) (H : SHeap) (hra : RowR w0 m H 3 pa (l.map Stp.cs)) (hrb : RowR w0 m H 3 pb (l.map Stp.cs)) :
    Does Try.prog 19 #[.slice pa l.length ca, .slice pb l.length cb] w0 m H (Gives (.bool true) m H) := by
  refine Does.of_body (args := [.slice pa l.length ca, .slice pb l.length cb]) Try.func19 rfl Try.ntmps19 rfl ?_
  have hln : (l.map Stp.cs).length = l.length := by simp
  (try (refine st ?_; intros))
  refine WC.loopH [(5, .int .i64 ((0) : Int)), (0, .slice pa l.length ca), (1, .slice pb l.length cb)] ?_ ?_ (fun j r ds m' H' => ∃ i, j = l.length - i ∧ r = [(5, .int .i64 (i : Int)), (0, .slice pa l.length ca), (1, .slice pb l.length cb)] ∧ ds = [] ∧ m = m' ∧ H' = H ∧ (i ≤ l.length) ∧ (RowR w0 m H 3 pa (l.map Stp.cs)) ∧ (RowR w0 m H 3 pb (l.map Stp.cs))) (l.length - (0)) ⟨0, rfl, rfl, rfl, rfl, rfl, by omega, hra, hrb⟩ ?_
  · (repeat (first | exact Env.Sub.nil | refine Env.Sub.cons rfl ?_))
  · exact (fun w h => Pick.sat (by iterate 60 (try (first | exact Pick.all | (apply Pick.take; (· (repeat (first | exact Out.here | apply Out.there)))) | apply Pick.drop))) h)
  rintro j r ds m' H' ⟨i, rfl, rfl, rfl, rfl, rfl, hi, hra, hrb⟩
  generalize H' = H at *
  by_cases hlt : i < l.length
  · obtain ⟨x, hx, hget, htk, hmem, hdr⟩ := at_idx (f := Stp.cs) hlt
    refine WC.rSome hra (by omega) ?_
    rintro a0 rfl
    refine WC.rSome hrb (by omega) ?_
    rintro b0 rfl
    have h1 : x.d = x.d := rfl
    have h2 : x.p = x.p := rfl
    (try (refine st ?_; intros))
    refine WQ.next (l.length - (i + 1)) ⟨i + 1, rfl, rfl, rfl, rfl, rfl, ?_, ?_, ?_⟩ (by omega) (by (repeat (first | exact Env.Sub.nil | refine Env.Sub.cons rfl ?_))) (fun w h => Pick.sat (by iterate 60 (try (first | exact Pick.all | (apply Pick.take; (· (repeat (first | exact Out.here | apply Out.there)))) | apply Pick.drop))) h)
    · omega
    · assumption
    · assumption
  · obtain rfl : i = l.length := by omega
    (try (refine st ?_; intros))
    exact q_fin0 (H0 := H) (Gives.mk rfl) (hd := (fun w h => Pick.sat (by iterate 60 (try (first | exact Pick.all | (apply Pick.take; (· (repeat (first | exact Out.here | apply Out.there)))) | apply Pick.drop))) h))
end Go.Proofs.Ytelgegefmjlimaa

/-
  Plain facts on changes: where the rows of Between's change begin and end. No condition.
-/
namespace Go.Eng
open Go
/-- a list's beginnings, byte by byte -/
theorem take_atoms (l : List Stp) (i : Nat) : ∃ r, atomsOf l = atomsOf (l.take i) ++ r := ⟨atomsOf (l.drop i), by rw [← atoms_append, List.take_append_drop]⟩
/-- the steps of Between's change -/
def kS (n : Nat) : List Stp := if n = 0 then [] else [⟨n, [], []⟩]
def pS (P : List UInt8) : List Stp := if P = [] then [] else [⟨0, [], P⟩]
def dS (D : List UInt8) : List Stp := if D = [] then [] else [⟨0, D, []⟩]
theorem bet_steps (h f : Nat) (P D : List UInt8) : ((⟨(Bld.start.keep (h : Int)).l, P, D⟩ : Bld).keep (f : Int)).close.l = kS h ++ pS P ++ dS D ++ kS f ∨ (P = [] ∧ D = [] ∧ ((⟨(Bld.start.keep (h : Int)).l, P, D⟩ : Bld).keep (f : Int)).close.l = kS (h + f)) := by
  have e0 : (Bld.start.keep (h : Int)).l = kS h := by
    unfold Bld.keep kS
    by_cases hh : h = 0
    · subst hh; rfl
    · rw [if_neg (by omega), if_neg hh]; rfl
  rw [e0]
  by_cases hf : f = 0
  · subst hf
    left
    have : ((⟨kS h, P, D⟩ : Bld).keep ((0 : Nat) : Int)) = ⟨kS h, P, D⟩ := rfl
    rw [this]
    unfold Bld.close pS dS kS
    simp
  · have e1 : ((⟨kS h, P, D⟩ : Bld).keep (f : Int)).close.l = addKeep (kS h ++ pS P ++ dS D) f := by
      rw [close_keep _ _ (by omega)]
      unfold Bld.keep
      rw [if_neg (by omega)]
      rfl
    rw [e1]
    by_cases hD : D = []
    · by_cases hP : P = []
      · right
        refine ⟨hP, hD, ?_⟩
        subst hP; subst hD
        have : kS h ++ pS [] ++ dS [] = kS h := by unfold pS dS; simp
        rw [this]
        unfold kS
        by_cases hh : h = 0
        · subst hh; simp [addKeep, hf]
        · rw [if_neg hh, if_neg (by omega)]
          simp only [addKeep, List.getLast?_singleton]
          rw [if_pos (by omega)]
          simp only [List.dropLast_singleton, List.nil_append]
          congr 2
      · left
        have hl : (kS h ++ pS P ++ dS D).getLast? = some ⟨0, [], P⟩ := by unfold pS dS; rw [if_neg hP, if_pos hD]; simp
        unfold addKeep
        rw [hl]
        simp only
        rw [if_neg (by omega)]
        have e2 : kS f = [⟨f, [], []⟩] := by unfold kS; rw [if_neg hf]
        rw [e2]
    · left
      have hl : (kS h ++ pS P ++ dS D).getLast? = some ⟨0, D, []⟩ := by unfold dS; rw [if_neg hD]; simp
      unfold addKeep
      rw [hl]
      simp only
      rw [if_neg (by omega)]
      have e2 : kS f = [⟨f, [], []⟩] := by unfold kS; rw [if_neg hf]
      rw [e2]
end Go.Eng

/-
  The walk of the law EditBetween. No condition.
-/
namespace Go.Eng
open Go
theorem gone_cons (f : Bool) (x : Stp) (l : List Stp) : goneA f (atomsOf (x :: l)) = (x.k.toNat + if f then x.d.length else x.p.length) + goneA f (atomsOf l) := by
  unfold goneA
  rw [atoms_cons]
  cases f
  · simp only [Bool.false_eq_true, if_false]; rw [toA_append, to_step]
  · simp only [if_true]; rw [fromA_append, from_step]
theorem gone_nil (f : Bool) : goneA f (atomsOf []) = 0 := by cases f <;> rfl
theorem marks4 (f : Bool) (h k : Nat) (P D : List UInt8) (i : Nat) (g : Nat → Prop) (g0 : g 0) (g1 : g h) (g2 : g (h + if f then D.length else P.length)) (g3 : g (h + (if f then D.length else P.length) + k)) :
    g (goneA f (atomsOf ((kS h ++ pS P ++ dS D ++ kS k).take i))) := by
  have hP : P = [] → P.length = 0 := fun h => by rw [h]; rfl
  have hD : D = [] → D.length = 0 := fun h => by rw [h]; rfl
  have fin : ∀ n : Nat, (n = 0 ∨ n = h ∨ n = (h + if f then D.length else P.length) ∨ n = (h + (if f then D.length else P.length) + k)) → g n := by
    rintro n (rfl | rfl | rfl | rfl) <;> assumption
  apply fin
  unfold kS pS dS
  cases f <;> simp only [Bool.false_eq_true, if_false, if_true]
  all_goals
    by_cases h0 : h = 0 <;> by_cases k0 : k = 0 <;> by_cases p0 : P = [] <;> by_cases d0 : D = [] <;> simp only [h0, k0, p0, d0, if_true, if_false, List.nil_append, List.append_nil, List.cons_append] <;>
      rcases i with _ | _ | _ | _ | i <;> simp [gone_cons, gone_nil, hP, hD, h0, k0, p0, d0]
  all_goals omega
end Go.Eng
namespace Go.Eng
open Go
/-- where the rows of Between's change begin and end -/
theorem bet_marks (f : Bool) (s t : List UInt8) (i : Nat) (g : Nat → Prop) (g0 : g 0) (g1 : g (headOf s t)) (g2 : g ((if f then s.length else t.length) - footOf s t)) (g3 : g (if f then s.length else t.length)) :
    g (goneA f (atomsOf ((listOf (betA s t)).take i))) := by
  obtain ⟨b1, b2, b3, b4, _⟩ := bet_facts s t
  have hP : ((t.take (t.length - footOf s t)).drop (headOf s t)).length = t.length - footOf s t - headOf s t := by rw [List.length_drop, List.length_take]; omega
  have hD : ((s.take (s.length - footOf s t)).drop (headOf s t)).length = s.length - footOf s t - headOf s t := by rw [List.length_drop, List.length_take]; omega
  rw [bet_list]
  generalize (t.take (t.length - footOf s t)).drop (headOf s t) = P at *
  generalize (s.take (s.length - footOf s t)).drop (headOf s t) = D at *
  rcases bet_steps (headOf s t) (footOf s t) P D with e | ⟨hp, hd, e⟩
  · rw [e]
    refine marks4 f _ _ P D i g g0 g1 ?_ ?_
    · have : headOf s t + (if f then D.length else P.length) = (if f then s.length else t.length) - footOf s t := by cases f <;> simp only [Bool.false_eq_true, if_false, if_true] <;> omega
      rw [this]; exact g2
    · have : headOf s t + (if f then D.length else P.length) + footOf s t = (if f then s.length else t.length) := by cases f <;> simp only [Bool.false_eq_true, if_false, if_true] <;> omega
      rw [this]; exact g3
  · rw [e]
    rw [hp, List.length_nil] at hP
    rw [hd, List.length_nil] at hD
    have hsum : headOf s t + footOf s t = if f then s.length else t.length := by cases f <;> simp only [Bool.false_eq_true, if_false, if_true] <;> omega
    unfold kS
    by_cases h0 : headOf s t + footOf s t = 0
    · rw [if_pos h0, List.take_nil, gone_nil]; exact g0
    · rw [if_neg h0]
      cases i with
      | zero => rw [List.take_zero, gone_nil]; exact g0
      | succ i =>
        rw [List.take_succ_cons, List.take_nil, gone_cons, gone_nil]
        have : ((headOf s t + footOf s t : Nat) : Int).toNat + (if f then ([] : List UInt8).length else ([] : List UInt8).length) + 0 = if f then s.length else t.length := by rw [← hsum, Int.toNat_natCast]; cases f <;> rfl
        rw [this]; exact g3
theorem bet_all (s t : List UInt8) (hs : s.length ≤ 65536) (ht : t.length ≤ 65536) : Fit (listOf (betA s t)) ∧ (∀ x ∈ listOf (betA s t), stpOk x) ∧ (atomsOf (listOf (betA s t))).length ≤ 200000 ∧ applyV s (listOf (betA s t)) = okV t ∧ goneA true (atomsOf (listOf (betA s t))) = s.length ∧ goneA false (atomsOf (listOf (betA s t))) = t.length := by
  obtain ⟨h1, h2⟩ := bet_sizes s t
  obtain ⟨e1, e2⟩ := list_sizes (betA s t)
  have ha := atoms_le (atomsOf (listOf (betA s t)))
  refine ⟨fit_list (by omega) (by omega), (list_ok _).1, by omega, apply_listV h1 (bet_apply s t) (by omega) (by omega), ?_, ?_⟩
  · show fromA _ = _; omega
  · show toA _ = _; omega
end Go.Eng
namespace Go.Proofs.Ytelgegefmjlimaa
open Go Go.Eng
set_option maxRecDepth 100000
set_option maxHeartbeats 4000000
set_option linter.all false
attribute [local irreducible] WL WC WQ QFun QLoop Does Q1 QRound QAssign Go.Addr.add
theorem sq_E33_1 {G : Prop} (h : G := by (repeat (first | (refine sp ?_; (repeat intro zzc)) | (refine iF 12 rfl ?_; refine w_callG Try.func12 ?_ (hs := live_any _ _ _)))); exact WQ.q1 rfl) : G := h
theorem st_E33_1 {G G' : Prop} (next : G') (h : Bx G' → G := by intro zzn; (first | ((refine st ?_; (repeat intro zzc)); (try ((first | (refine iF 12 rfl ?_; refine w_callG Try.func12 ?_ (hs := live_any _ _ _)) | ((refine iDraw ?_; (first | refine WC.drawAll rfl (by decide +kernel) ?_ | refine WC.draw 1 rfl (by decide +kernel) ?_ | refine WC.draw 2 rfl (by decide +kernel) ?_ | refine WC.draw 3 rfl (by decide +kernel) ?_ | refine WC.draw 4 rfl (by decide +kernel) ?_ | refine WC.draw 5 rfl (by decide +kernel) ?_ | refine WC.draw 6 rfl (by decide +kernel) ?_ | refine WC.draw 7 rfl (by decide +kernel) ?_ | refine WC.draw 8 rfl (by decide +kernel) ?_ | refine WC.draw 9 rfl (by decide +kernel) ?_ | refine WC.draw 10 rfl (by decide +kernel) ?_ | refine WC.draw 11 rfl (by decide +kernel) ?_ | refine WC.draw 12 rfl (by decide +kernel) ?_ | refine WC.draw 13 rfl (by decide +kernel) ?_ | refine WC.draw 14 rfl (by decide +kernel) ?_ | refine WC.draw 15 rfl (by decide +kernel) ?_ | refine WC.draw 16 rfl (by decide +kernel) ?_ | refine WC.draw 17 rfl (by decide +kernel) ?_ | refine WC.draw 18 rfl (by decide +kernel) ?_ | refine WC.draw 19 rfl (by decide +kernel) ?_ | refine WC.draw 20 rfl (by decide +kernel) ?_ | refine WC.draw 21 rfl (by decide +kernel) ?_ | refine WC.draw 22 rfl (by decide +kernel) ?_ | refine WC.draw 23 rfl (by decide +kernel) ?_ | refine WC.draw 24 rfl (by decide +kernel) ?_)); (repeat (refine WD.cons rfl (fun c h => by cases h) sq_E33_1 ?_)); refine WD.nil ?_)); (try (refine st ?_; (repeat intro zzc)))))) | ((first | (refine iF 12 rfl ?_; refine w_callG Try.func12 ?_ (hs := live_any _ _ _)) | ((refine iDraw ?_; (first | refine WC.drawAll rfl (by decide +kernel) ?_ | refine WC.draw 1 rfl (by decide +kernel) ?_ | refine WC.draw 2 rfl (by decide +kernel) ?_ | refine WC.draw 3 rfl (by decide +kernel) ?_ | refine WC.draw 4 rfl (by decide +kernel) ?_ | refine WC.draw 5 rfl (by decide +kernel) ?_ | refine WC.draw 6 rfl (by decide +kernel) ?_ | refine WC.draw 7 rfl (by decide +kernel) ?_ | refine WC.draw 8 rfl (by decide +kernel) ?_ | refine WC.draw 9 rfl (by decide +kernel) ?_ | refine WC.draw 10 rfl (by decide +kernel) ?_ | refine WC.draw 11 rfl (by decide +kernel) ?_ | refine WC.draw 12 rfl (by decide +kernel) ?_ | refine WC.draw 13 rfl (by decide +kernel) ?_ | refine WC.draw 14 rfl (by decide +kernel) ?_ | refine WC.draw 15 rfl (by decide +kernel) ?_ | refine WC.draw 16 rfl (by decide +kernel) ?_ | refine WC.draw 17 rfl (by decide +kernel) ?_ | refine WC.draw 18 rfl (by decide +kernel) ?_ | refine WC.draw 19 rfl (by decide +kernel) ?_ | refine WC.draw 20 rfl (by decide +kernel) ?_ | refine WC.draw 21 rfl (by decide +kernel) ?_ | refine WC.draw 22 rfl (by decide +kernel) ?_ | refine WC.draw 23 rfl (by decide +kernel) ?_ | refine WC.draw 24 rfl (by decide +kernel) ?_)); (repeat (refine WD.cons rfl (fun c h => by cases h) sq_E33_1 ?_)); refine WD.nil ?_)); (try (refine st ?_; (repeat intro zzc))))); (repeat ((first | (refine iF 12 rfl ?_; refine w_callG Try.func12 ?_ (hs := live_any _ _ _)) | ((refine iDraw ?_; (first | refine WC.drawAll rfl (by decide +kernel) ?_ | refine WC.draw 1 rfl (by decide +kernel) ?_ | refine WC.draw 2 rfl (by decide +kernel) ?_ | refine WC.draw 3 rfl (by decide +kernel) ?_ | refine WC.draw 4 rfl (by decide +kernel) ?_ | refine WC.draw 5 rfl (by decide +kernel) ?_ | refine WC.draw 6 rfl (by decide +kernel) ?_ | refine WC.draw 7 rfl (by decide +kernel) ?_ | refine WC.draw 8 rfl (by decide +kernel) ?_ | refine WC.draw 9 rfl (by decide +kernel) ?_ | refine WC.draw 10 rfl (by decide +kernel) ?_ | refine WC.draw 11 rfl (by decide +kernel) ?_ | refine WC.draw 12 rfl (by decide +kernel) ?_ | refine WC.draw 13 rfl (by decide +kernel) ?_ | refine WC.draw 14 rfl (by decide +kernel) ?_ | refine WC.draw 15 rfl (by decide +kernel) ?_ | refine WC.draw 16 rfl (by decide +kernel) ?_ | refine WC.draw 17 rfl (by decide +kernel) ?_ | refine WC.draw 18 rfl (by decide +kernel) ?_ | refine WC.draw 19 rfl (by decide +kernel) ?_ | refine WC.draw 20 rfl (by decide +kernel) ?_ | refine WC.draw 21 rfl (by decide +kernel) ?_ | refine WC.draw 22 rfl (by decide +kernel) ?_ | refine WC.draw 23 rfl (by decide +kernel) ?_ | refine WC.draw 24 rfl (by decide +kernel) ?_)); (repeat (refine WD.cons rfl (fun c h => by cases h) sq_E33_1 ?_)); refine WD.nil ?_)); (try (refine st ?_; (repeat intro zzc))))); (repeat revert zzc); exact zzn.out) : G := h ⟨next⟩
attribute [local irreducible] applyV listOf goneA
theorem editBetween_any (s t : List UInt8) (hs : s.length ≤ 9223372036854775807) (ht : t.length ≤ 9223372036854775807) (w0 : World) (m : Mem) (H : SHeap) :
    Does Try.prog 5 #[str s, str t] w0 m H (fun v m' _ => v = .bool true ∧ m.le m') := by
  refine Does.of_body (args := [str s, str t]) Try.func5 rfl Try.ntmps5 rfl ?_
  by_cases h1 : s.length ≤ 5000
  · by_cases h2 : t.length ≤ 5000
    · obtain ⟨hf, hok, hal, hap, hg1, hg2⟩ := bet_all s t (by omega) (by omega)
      obtain ⟨_, _, _, _, _, _, r1, r2, r3, r4⟩ := bet_facts s t
      have rend : ∀ l : List UInt8, Go.Eng.Reach l l.length := fun l => ⟨pieces l, by rw [from_nil (by omega), List.append_nil]⟩
      have hlen := hf.len
      have hc1 : ∀ i, i ≤ (listOf (betA s t)).length → goneA true (atomsOf ((listOf (betA s t)).take i)) ≤ s.length ∧ Go.Eng.Reach s (goneA true (atomsOf ((listOf (betA s t)).take i))) := by
        intro i _
        obtain ⟨b1, _, b3, _⟩ := bet_facts s t
        refine bet_marks true s t i (fun n => n ≤ s.length ∧ Go.Eng.Reach s n) ⟨Nat.zero_le _, Reach.zero s⟩ ⟨b1, r1⟩ ?_ ?_
        · simp only [if_true]; exact ⟨by omega, r3⟩
        · simp only [if_true]; exact ⟨Nat.le_refl _, rend s⟩
      have hc2 : ∀ i, i ≤ (listOf (betA s t)).length → goneA false (atomsOf ((listOf (betA s t)).take i)) ≤ t.length ∧ Go.Eng.Reach t (goneA false (atomsOf ((listOf (betA s t)).take i))) := by
        intro i _
        obtain ⟨_, b2, _, b4, _⟩ := bet_facts s t
        refine bet_marks false s t i (fun n => n ≤ t.length ∧ Go.Eng.Reach t n) ⟨Nat.zero_le _, Reach.zero t⟩ ⟨b2, r2⟩ ?_ ?_
        · simp only [Bool.false_eq_true, if_false]; exact ⟨by omega, r4⟩
        · simp only [Bool.false_eq_true, if_false]; exact ⟨Nat.le_refl _, rend t⟩
      have hbt := between_any s t (by omega) (by omega)
      have hrb := rBetween_any s t (by omega) (by omega)
      generalize listOf (betA s t) = R at *
      (try (refine st_E33_1 ?_; intros))
      refine w_callF Try.func20 ?_ (hs := hbt _ _ _)
      rintro v m H1 ⟨rfl, c1, p1, rfl, rfl⟩
      (try (refine st_E33_1 ?_; intros))
      refine w_callF Try.func21 ?_ (hs := hrb _ _ _)
      rintro v m H1 ⟨rfl, c2, p2, rfl, rfl⟩
      (try (refine st_E33_1 ?_; intros))
      refine w_callF Try.func19 ?_ (hs := same_any (l := R) (by omega) _ _ _ (RowR.row (a := c1) (by (repeat (first | exact List.Mem.head _ | apply List.Mem.tail)))) (RowR.row (a := c2) (by (repeat (first | exact List.Mem.head _ | apply List.Mem.tail)))))
      rintro v m H1 ⟨rfl, rfl, rfl⟩
      (try (refine st_E33_1 ?_; intros))
      refine w_callF Try.func22 ?_ (hs := apply_any hf (by omega) _ _ _ (RowR.row (a := c1) (by (repeat (first | exact List.Mem.head _ | apply List.Mem.tail)))))
      rintro v m H1 ⟨rfl, rfl, rfl⟩
      rw [hap, okV]
      have htt : t = t := rfl
      (try (refine st_E33_1 ?_; intros))
      refine w_callF Try.func23 ?_ (hs := cuts_any (f := true) hok (by omega) (by omega) hc1 hg1 _ _ _ (RowR.row (a := c1) (by (repeat (first | exact List.Mem.head _ | apply List.Mem.tail)))))
      rintro v m H1 ⟨rfl, rfl, rfl⟩
      (try (refine st_E33_1 ?_; intros))
      refine w_callF Try.func23 ?_ (hs := cuts_any (f := false) hok (by omega) (by omega) hc2 hg2 _ _ _ (RowR.row (a := c1) (by (repeat (first | exact List.Mem.head _ | apply List.Mem.tail)))))
      rintro v m H1 ⟨rfl, rfl, rfl⟩
      (try (refine st_E33_1 ?_; intros))
      (refine q_fin0 ?_)
      exact ⟨rfl, Mem.le.refl _⟩
    · (try (refine st_E33_1 ?_; intros))
      (refine q_fin0 ?_)
      exact ⟨rfl, Mem.le.refl _⟩
  · (try (refine st_E33_1 ?_; intros))
    (refine q_fin0 ?_)
    exact ⟨rfl, Mem.le.refl _⟩
end Go.Proofs.Ytelgegefmjlimaa

/-
  A walk's engine: a law's arguments that are slices of elements of several cells. No condition.
-/
set_option linter.all false
namespace Go.Eng
open Go Go.RowKit Go.ChangeShapes Go.WideShapes Go.ChangeMaps
section
variable {H : Type} {enc : TypeId × Value → H} {P : Program}
theorem rows_at {sz : Nat} : ∀ {es : List (List Value)}, (∀ e ∈ es, e.length = sz) → ∀ {j : Nat} {v : Value}, es.flatten[j]? = some v → ∃ i c e, es[i]? = some e ∧ c < sz ∧ j = i * sz + c ∧ e[c]? = some v
  | [], _, j, v, h => by simp at h
  | e :: es, he, j, v, h => by
    have hl : e.length = sz := he e List.mem_cons_self
    rw [List.flatten_cons] at h
    by_cases hj : j < sz
    · rw [List.getElem?_append_left (by omega)] at h
      exact ⟨0, j, e, rfl, hj, by simp, h⟩
    · rw [List.getElem?_append_right (by omega), hl] at h
      obtain ⟨i, c, e', h1, h2, h3, h4⟩ := rows_at (fun x hx => he x (List.mem_cons_of_mem _ hx)) h
      exact ⟨i + 1, c, e', by simpa using h1, h2, by rw [Nat.add_mul, Nat.one_mul]; omega, h4⟩
theorem open_rows {α : Type} [Inhabited α] (sz : Nat) (val : α → List Value) (dat : α → DataW H) (ok : α → Prop) (hsz : ∀ x, (val x).length = sz) {W : World} {r : Go.Reach} {b0 : Nat} {t e : TypeId} {v : Value} {d : DataW H} {ps : List MemPlace} (ht : P.underlying t = some (.slice e)) (hc : P.cellsOf e = sz)
    (hone : ∀ (n : Nat) (u : List Value) (y : DataW H × List MemPlace), DataW.trod enc P W 0 (fun _ => true) true n e u = some y → ∃ x, u = val x ∧ y.1 = dat x ∧ ok x)
    (hval : Value.okWide P W r b0 t v) (h : DataW.Trod enc P W 0 (fun _ => true) true t v d ps) : ∃ (a : Option Addr) (cap : Nat) (ns : List α) (spare : List (DataW H)), v = .slice a ns.length cap ∧ ns.length ≤ cap ∧ (∀ x ∈ ns, ok x) ∧
      (d = .nil ∧ ns = [] ∨ d = .slice (ns.map dat) spare) ∧ ∀ w0 Hp, RowR w0 (memOf W) Hp sz a (ns.map val) := by
  obtain ⟨a, len, cap, rfl⟩ := okWide_slice ht hval
  obtain ⟨n, hn⟩ := h
  rcases Deep.open_slice ht hn with ⟨h1, h2⟩ | ⟨a', len', cap', m, n', D, Pl, h1, _, hle, _, hm, h2, hx⟩
  · simp [Value.cells] at h1
    obtain ⟨rfl, rfl, rfl⟩ := h1
    exact ⟨none, 0, [], [], rfl, Nat.le_refl _, (by simp), .inl ⟨congrArg Prod.fst h2, rfl⟩, fun _ _ => RowR.nil⟩
  · simp [Value.cells] at h1
    obtain ⟨rfl, rfl, rfl⟩ := h1
    simp only [if_true] at hm
    subst hm
    rw [hc] at hx
    obtain ⟨X, hX⟩ := Deep.choose_lt (α := α) (n := m) (p := fun i x => W.cells? 0 (a'.add (i * sz)) sz = some (val x) ∧ D i = dat x ∧ ok x) (fun i hi => by
      obtain ⟨u, g1, g2⟩ := hx i hi
      obtain ⟨x, rfl, e2, e3⟩ := hone _ _ _ g2
      exact ⟨x, g1, e2, e3⟩)
    refine ⟨some a', m, (List.range len).map X, (List.range (m - len)).map fun j => D (len + j), by simp, by simpa using hle, ?_, .inr ?_, fun w0 Hp => ?_⟩
    · intro x hxm
      obtain ⟨i, hi, rfl⟩ := List.mem_map.1 hxm
      exact (hX i (by have := List.mem_range.1 hi; omega)).2.2
    · have := congrArg Prod.fst h2
      simp only at this
      rw [this, List.map_map]
      congr 1
      exact List.map_congr_left fun i hi => (hX i (by have := List.mem_range.1 hi; omega)).2.1
    · have hall : ∀ e ∈ ((List.range len).map X).map val, e.length = sz := by
        intro e he
        obtain ⟨x, _, rfl⟩ := List.mem_map.1 he
        exact hsz x
      refine RowR.came hall ?_
      intro j v hj
      obtain ⟨i, c, e, h1, h2, rfl, h4⟩ := rows_at hall hj
      rw [List.getElem?_map, List.getElem?_map] at h1
      obtain ⟨x, hx1, rfl⟩ := Option.map_eq_some_iff.1 h1
      obtain ⟨i', hi, rfl⟩ := Option.map_eq_some_iff.1 hx1
      obtain ⟨hjl, rfl⟩ := List.getElem?_eq_some_iff.1 hi
      rw [List.getElem_range] at h4
      have hjl' : i < len := by simpa using hjl
      have g := (World.cells?_some (hX i (by omega)).1).2.2 c h2
      rw [h4] at g
      rw [← g, Go.Addr.add_add]
/-- slices of elements of three cells: a number and two texts -/
theorem open_trips {k : IntKind} {f0 f1 f2 : Field} {W : World} {r : Go.Reach} {b0 : Nat} {t e : TypeId} {v : Value} {d : DataW H} {ps : List MemPlace} (ht : P.underlying t = some (.slice e)) (he : P.underlying e = some (.struct #[f0, f1, f2])) (hc : P.cellsOf e = 3)
    (h0 : f0.offset = 0 ∧ P.underlying f0.type = some (.int k) ∧ P.cellsOf f0.type = 1) (h1 : f1.offset = 1 ∧ P.underlying f1.type = some .string ∧ P.cellsOf f1.type = 1) (h2 : f2.offset = 2 ∧ P.underlying f2.type = some .string ∧ P.cellsOf f2.type = 1)
    (hval : Value.okWide P W r b0 t v) (h : DataW.Trod enc P W 0 (fun _ => true) true t v d ps) : ∃ (a : Option Addr) (cap : Nat) (ns : List (Int × List UInt8 × List UInt8)) (spare : List (DataW H)), v = .slice a ns.length cap ∧ ns.length ≤ cap ∧ (∀ x ∈ ns, (Lit.int k x.1).wf = true) ∧
      (d = .nil ∧ ns = [] ∨ d = .slice (ns.map fun x => .agg [.lit (.int k x.1), .lit (.string x.2.1), .lit (.string x.2.2)]) spare) ∧ ∀ w0 Hp, RowR w0 (memOf W) Hp 3 a (ns.map fun x => [Value.int k x.1, str x.2.1, str x.2.2]) := by
  refine open_rows 3 (fun x : Int × List UInt8 × List UInt8 => [Value.int k x.1, str x.2.1, str x.2.2]) _ (fun x => (Lit.int k x.1).wf = true) (fun _ => rfl) ht hc (fun n u y hy => ?_) hval h
  obtain ⟨y0, y1, y2, m, rfl, hl, g0, g1, g2⟩ := Deep.trod_struct3 he hy
  rw [hc] at hl
  obtain ⟨c0, c1, c2, rfl⟩ : ∃ c0 c1 c2, u = [c0, c1, c2] := by
    match u, hl with
    | [c0, c1, c2], _ => exact ⟨c0, c1, c2, rfl⟩
  rw [h0.1, h0.2.2] at g0
  rw [h1.1, h1.2.2] at g1
  rw [h2.1, h2.2.2] at g2
  obtain ⟨x0, e0, d0, w0⟩ := DataW.trod_int h0.2.1 g0
  obtain ⟨x1, e1, d1, w1⟩ := DataW.trod_string h1.2.1 g1
  obtain ⟨x2, e2, d2, w2⟩ := DataW.trod_string h2.2.1 g2
  simp at e0 e1 e2
  subst e0 e1 e2 d0 d1 d2
  refine ⟨(x0, x1.data.toList, x2.data.toList), rfl, ?_, w0⟩
  simp
end
end Go.Eng

/-
  How the laws' arguments that are changes are read. No condition.
-/
namespace Go.Eng
open Go Go.RowKit Go.ChangeShapes Go.WideShapes Go.ChangeMaps
def Stp.dat {H : Type} (x : Stp) : DataW H := .agg [.lit (.int .i64 x.k), .lit (.string x.d), .lit (.string x.p)]
theorem open_steps {H : Type} {enc : TypeId × Value → H} {P : Program} {f0 f1 f2 : Field} {W : World} {r : Go.Reach} {b0 : Nat} {t e : TypeId} {v : Value} {d : DataW H} {ps : List MemPlace} (ht : P.underlying t = some (.slice e)) (he : P.underlying e = some (.struct #[f0, f1, f2])) (hc : P.cellsOf e = 3)
    (h0 : f0.offset = 0 ∧ P.underlying f0.type = some (.int .i64) ∧ P.cellsOf f0.type = 1) (h1 : f1.offset = 1 ∧ P.underlying f1.type = some .string ∧ P.cellsOf f1.type = 1) (h2 : f2.offset = 2 ∧ P.underlying f2.type = some .string ∧ P.cellsOf f2.type = 1)
    (hval : Value.okWide P W r b0 t v) (h : DataW.Trod enc P W 0 (fun _ => true) true t v d ps) : ∃ (a : Option Addr) (cap : Nat) (l : List Stp) (spare : List (DataW H)), v = .slice a l.length cap ∧ l.length ≤ cap ∧ (∀ x ∈ l, -9223372036854775808 ≤ x.k ∧ x.k ≤ 9223372036854775807) ∧
      (d = .nil ∧ l = [] ∨ d = .slice (l.map Stp.dat) spare) ∧ ∀ w0 Hp, RowR w0 (memOf W) Hp 3 a (l.map Stp.cs) := by
  obtain ⟨a, cap, ns, sp, h1, h2, h3, h4, h5⟩ := open_trips (k := .i64) ht he hc h0 h1 h2 hval h
  refine ⟨a, cap, ns.map fun x => ⟨x.1, x.2.1, x.2.2⟩, sp, by rw [List.length_map]; exact h1, by rw [List.length_map]; exact h2, ?_, ?_, ?_⟩
  · intro x hx
    obtain ⟨y, hy, rfl⟩ := List.mem_map.1 hx
    have := h3 y hy
    simp only [Lit.wf, Bool.and_eq_true, decide_eq_true_eq] at this
    exact this
  · rcases h4 with ⟨g1, g2⟩ | g
    · exact .inl ⟨g1, by rw [g2]; rfl⟩
    · exact .inr (by rw [g, List.map_map]; rfl)
  · intro w0 Hp
    have := h5 w0 Hp
    rwa [List.map_map]
end Go.Eng
namespace Go.Proofs.Ytelgegefmjlimaa
open Go Go.Eng
theorem steps_len {H : Type} (l : List Stp) : l.length ≤ Rows.uptoBulkAll (l.map (Stp.dat (H := H))) ∧ ∀ x ∈ l, x.d.length ≤ Rows.uptoBulkAll (l.map (Stp.dat (H := H))) ∧ x.p.length ≤ Rows.uptoBulkAll (l.map (Stp.dat (H := H))) := by
  induction l with
  | nil => simp
  | cons x l ih =>
    have h1 : Rows.uptoBulk (Stp.dat (H := H) x) = 1 + (x.d.length + 1 + (x.p.length + 1)) + 1 := by simp [Stp.dat, Rows.uptoBulk, Rows.uptoBulkAll]
    simp only [List.map_cons, Rows.uptoBulkAll, List.length_cons]
    refine ⟨by omega, fun y hy => ?_⟩
    rcases List.mem_cons.1 hy with rfl | hy
    · omega
    · have := ih.2 y hy; omega
theorem fit_of {H : Type} {d : DataW H} {l : List Stp} {spare : List (DataW H)} (hk : ∀ x ∈ l, -9223372036854775808 ≤ x.k ∧ x.k ≤ 9223372036854775807) (hd : d = .nil ∧ l = [] ∨ d = .slice (l.map Stp.dat) spare) (hb : Rows.uptoBulk d ≤ 1048576) : Fit l := by
  rcases hd with ⟨rfl, rfl⟩ | rfl
  · exact ⟨by simp, by simp, by simp, by simp⟩
  · simp only [Rows.uptoBulk] at hb
    obtain ⟨h1, h2⟩ := steps_len (H := H) l
    exact ⟨by omega, hk, fun x hx => by have := h2 x hx; omega, fun x hx => by have := h2 x hx; omega⟩
end Go.Proofs.Ytelgegefmjlimaa

/-
  What the law EditBetween needs. No condition.
-/

