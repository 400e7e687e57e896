/-
  Parts of a walk, joined: C3 CT4 C9 C10 CT5 C11 C13 CT6 C14 CT7 C15 C16 C20 EngQ. No condition.
-/
import Derived.Test.YtpghpbknjdnkkaaP4
import Derived.Test.YtpghpbknjdnkkaaProg
import Derived.Test.YtpghpbknjdnkkaaP5
import Derived.Test.YtpghpbknjdnkkaaP2
import Derived.ChangeMaps5
import Derived.ReadAgain
import Derived.ChangeBook
import Derived.Deep.Slices
import Derived.WalkKit
import Derived.ProofKit
import Derived.OpenShut
import Derived.JoinedCond
set_option linter.all false
/-
  The walks of the reference's kinds of runes (canticleref03). No condition.
-/
namespace Go.Proofs.Ytpghpbknjdnkkaa
open Go Go.Eng
set_option maxRecDepth 100000
set_option maxHeartbeats 4000000
set_option linter.all false
attribute [local irreducible] WL WC WQ QFun QLoop Does Q1 QRound QAssign Go.Addr.add
attribute [local irreducible] Great Small Wide kindN
theorem in_any (a b c : Int) (w0 : World) (m : Mem) (H : SHeap) : Does Try.prog 79 #[.int .i32 a, .int .i32 b, .int .i32 c] w0 m H (Gives (.bool (dcd (b ≤ a ∧ a ≤ c))) m H) := by
  refine Does.of_body (args := [.int .i32 a, .int .i32 b, .int .i32 c]) Try.func79 rfl Try.ntmps79 rfl ?_
  (repeat' (first | (refine st ?_; intros) | (first | refine c_ways (fun h1 => ?_) (fun h1 => ?_) | refine c_nways (fun h1 => ?_) (fun h1 => ?_) | refine w_gways (fun h1 => ?_) (fun h1 => ?_) | refine w_gnways (fun h1 => ?_) (fun h1 => ?_))))
  all_goals ((refine q_fin0 ?_); refine Gives.mk (congrArg _ ?_))
  all_goals first | (refine tru_iff ?_; omega) | (refine fls_iff ?_; omega) | (refine dcd_cong ?_; omega)
theorem sq_C3_1 {G : Prop} (h : G := by (repeat (first | (refine sp ?_; (repeat intro zzc)) | (refine iF 79 rfl ?_; refine w_callG Try.func79 ?_ (hs := in_any _ _ _ _ _ _)))); exact WQ.q1 rfl) : G := h
theorem st_C3_1 {G G' : Prop} (next : G') (h : Bx G' → G := by intro zzn; (first | ((refine st ?_; (repeat intro zzc)); (try ((first | (refine iF 79 rfl ?_; refine w_callG Try.func79 ?_ (hs := in_any _ _ _ _ _ _)) | ((refine iDraw ?_; (first | refine WC.drawAll rfl (by decide +kernel) ?_ | refine WC.draw 1 rfl (by decide +kernel) ?_ | refine WC.draw 2 rfl (by decide +kernel) ?_ | refine WC.draw 3 rfl (by decide +kernel) ?_ | refine WC.draw 4 rfl (by decide +kernel) ?_ | refine WC.draw 5 rfl (by decide +kernel) ?_ | refine WC.draw 6 rfl (by decide +kernel) ?_ | refine WC.draw 7 rfl (by decide +kernel) ?_ | refine WC.draw 8 rfl (by decide +kernel) ?_ | refine WC.draw 9 rfl (by decide +kernel) ?_ | refine WC.draw 10 rfl (by decide +kernel) ?_ | refine WC.draw 11 rfl (by decide +kernel) ?_ | refine WC.draw 12 rfl (by decide +kernel) ?_ | refine WC.draw 13 rfl (by decide +kernel) ?_ | refine WC.draw 14 rfl (by decide +kernel) ?_ | refine WC.draw 15 rfl (by decide +kernel) ?_ | refine WC.draw 16 rfl (by decide +kernel) ?_ | refine WC.draw 17 rfl (by decide +kernel) ?_ | refine WC.draw 18 rfl (by decide +kernel) ?_ | refine WC.draw 19 rfl (by decide +kernel) ?_ | refine WC.draw 20 rfl (by decide +kernel) ?_ | refine WC.draw 21 rfl (by decide +kernel) ?_ | refine WC.draw 22 rfl (by decide +kernel) ?_ | refine WC.draw 23 rfl (by decide +kernel) ?_ | refine WC.draw 24 rfl (by decide +kernel) ?_)); (repeat (refine WD.cons rfl (fun c h => by cases h) sq_C3_1 ?_)); refine WD.nil ?_)); (try (refine st ?_; (repeat intro zzc)))))) | ((first | (refine iF 79 rfl ?_; refine w_callG Try.func79 ?_ (hs := in_any _ _ _ _ _ _)) | ((refine iDraw ?_; (first | refine WC.drawAll rfl (by decide +kernel) ?_ | refine WC.draw 1 rfl (by decide +kernel) ?_ | refine WC.draw 2 rfl (by decide +kernel) ?_ | refine WC.draw 3 rfl (by decide +kernel) ?_ | refine WC.draw 4 rfl (by decide +kernel) ?_ | refine WC.draw 5 rfl (by decide +kernel) ?_ | refine WC.draw 6 rfl (by decide +kernel) ?_ | refine WC.draw 7 rfl (by decide +kernel) ?_ | refine WC.draw 8 rfl (by decide +kernel) ?_ | refine WC.draw 9 rfl (by decide +kernel) ?_ | refine WC.draw 10 rfl (by decide +kernel) ?_ | refine WC.draw 11 rfl (by decide +kernel) ?_ | refine WC.draw 12 rfl (by decide +kernel) ?_ | refine WC.draw 13 rfl (by decide +kernel) ?_ | refine WC.draw 14 rfl (by decide +kernel) ?_ | refine WC.draw 15 rfl (by decide +kernel) ?_ | refine WC.draw 16 rfl (by decide +kernel) ?_ | refine WC.draw 17 rfl (by decide +kernel) ?_ | refine WC.draw 18 rfl (by decide +kernel) ?_ | refine WC.draw 19 rfl (by decide +kernel) ?_ | refine WC.draw 20 rfl (by decide +kernel) ?_ | refine WC.draw 21 rfl (by decide +kernel) ?_ | refine WC.draw 22 rfl (by decide +kernel) ?_ | refine WC.draw 23 rfl (by decide +kernel) ?_ | refine WC.draw 24 rfl (by decide +kernel) ?_)); (repeat (refine WD.cons rfl (fun c h => by cases h) sq_C3_1 ?_)); refine WD.nil ?_)); (try (refine st ?_; (repeat intro zzc))))); (repeat ((first | (refine iF 79 rfl ?_; refine w_callG Try.func79 ?_ (hs := in_any _ _ _ _ _ _)) | ((refine iDraw ?_; (first | refine WC.drawAll rfl (by decide +kernel) ?_ | refine WC.draw 1 rfl (by decide +kernel) ?_ | refine WC.draw 2 rfl (by decide +kernel) ?_ | refine WC.draw 3 rfl (by decide +kernel) ?_ | refine WC.draw 4 rfl (by decide +kernel) ?_ | refine WC.draw 5 rfl (by decide +kernel) ?_ | refine WC.draw 6 rfl (by decide +kernel) ?_ | refine WC.draw 7 rfl (by decide +kernel) ?_ | refine WC.draw 8 rfl (by decide +kernel) ?_ | refine WC.draw 9 rfl (by decide +kernel) ?_ | refine WC.draw 10 rfl (by decide +kernel) ?_ | refine WC.draw 11 rfl (by decide +kernel) ?_ | refine WC.draw 12 rfl (by decide +kernel) ?_ | refine WC.draw 13 rfl (by decide +kernel) ?_ | refine WC.draw 14 rfl (by decide +kernel) ?_ | refine WC.draw 15 rfl (by decide +kernel) ?_ | refine WC.draw 16 rfl (by decide +kernel) ?_ | refine WC.draw 17 rfl (by decide +kernel) ?_ | refine WC.draw 18 rfl (by decide +kernel) ?_ | refine WC.draw 19 rfl (by decide +kernel) ?_ | refine WC.draw 20 rfl (by decide +kernel) ?_ | refine WC.draw 21 rfl (by decide +kernel) ?_ | refine WC.draw 22 rfl (by decide +kernel) ?_ | refine WC.draw 23 rfl (by decide +kernel) ?_ | refine WC.draw 24 rfl (by decide +kernel) ?_)); (repeat (refine WD.cons rfl (fun c h => by cases h) sq_C3_1 ?_)); refine WD.nil ?_)); (try (refine st ?_; (repeat intro zzc))))); (repeat revert zzc); exact zzn.out) : G := h ⟨next⟩
theorem refGreat_any (r : Nat) (hr : r ≤ 1114111) (w0 : World) (m : Mem) (H : SHeap) : Does Try.prog 80 #[.int .i32 (r : Int)] w0 m H (Gives (.bool (dcd (Great r))) m H) := by
  refine Does.of_body (args := [.int .i32 (r : Int)]) Try.func80 rfl Try.ntmps80 rfl ?_
  (repeat' (first | (refine st_C3_1 ?_; intros) | (first | refine c_ways (fun h1 => ?_) (fun h1 => ?_) | refine c_nways (fun h1 => ?_) (fun h1 => ?_) | refine w_gways (fun h1 => ?_) (fun h1 => ?_) | refine w_gnways (fun h1 => ?_) (fun h1 => ?_))))
  all_goals ((refine q_fin0 ?_); refine Gives.mk (congrArg _ ?_))
  all_goals first | (refine tru_iff ?_; unfold Great; omega) | (refine fls_iff ?_; unfold Great; omega) | (refine dcd_cong ?_; unfold Great; omega) | (rw [dcd_not]; refine dcd_cong ?_; unfold Great; omega)
theorem refSmall_any (r : Nat) (hr : r ≤ 1114111) (w0 : World) (m : Mem) (H : SHeap) : Does Try.prog 81 #[.int .i32 (r : Int)] w0 m H (Gives (.bool (dcd (Small r))) m H) := by
  refine Does.of_body (args := [.int .i32 (r : Int)]) Try.func81 rfl Try.ntmps81 rfl ?_
  (repeat' (first | (refine st_C3_1 ?_; intros) | (first | refine c_ways (fun h1 => ?_) (fun h1 => ?_) | refine c_nways (fun h1 => ?_) (fun h1 => ?_) | refine w_gways (fun h1 => ?_) (fun h1 => ?_) | refine w_gnways (fun h1 => ?_) (fun h1 => ?_))))
  all_goals ((refine q_fin0 ?_); refine Gives.mk (congrArg _ ?_))
  all_goals first | (refine tru_iff ?_; unfold Small; omega) | (refine fls_iff ?_; unfold Small; omega) | (refine dcd_cong ?_; unfold Small; omega) | (rw [dcd_not]; refine dcd_cong ?_; unfold Small; omega)
theorem sq_C3_2 {G : Prop} (h : G := by (repeat (first | (refine sp ?_; (repeat intro zzc)) | (refine iF 79 rfl ?_; refine w_callG Try.func79 ?_ (hs := in_any _ _ _ _ _ _)) | (refine iF 80 rfl ?_; refine w_callG Try.func80 ?_ (hs := refGreat_any _ (by omega) _ _ _)) | (refine iF 81 rfl ?_; refine w_callG Try.func81 ?_ (hs := refSmall_any _ (by omega) _ _ _)))); exact WQ.q1 rfl) : G := h
theorem st_C3_2 {G G' : Prop} (next : G') (h : Bx G' → G := by intro zzn; (first | ((refine st ?_; (repeat intro zzc)); (try ((first | (refine iF 79 rfl ?_; refine w_callG Try.func79 ?_ (hs := in_any _ _ _ _ _ _)) | (refine iF 80 rfl ?_; refine w_callG Try.func80 ?_ (hs := refGreat_any _ (by omega) _ _ _)) | (refine iF 81 rfl ?_; refine w_callG Try.func81 ?_ (hs := refSmall_any _ (by omega) _ _ _)) | ((refine iDraw ?_; (first | refine WC.drawAll rfl (by decide +kernel) ?_ | refine WC.draw 1 rfl (by decide +kernel) ?_ | refine WC.draw 2 rfl (by decide +kernel) ?_ | refine WC.draw 3 rfl (by decide +kernel) ?_ | refine WC.draw 4 rfl (by decide +kernel) ?_ | refine WC.draw 5 rfl (by decide +kernel) ?_ | refine WC.draw 6 rfl (by decide +kernel) ?_ | refine WC.draw 7 rfl (by decide +kernel) ?_ | refine WC.draw 8 rfl (by decide +kernel) ?_ | refine WC.draw 9 rfl (by decide +kernel) ?_ | refine WC.draw 10 rfl (by decide +kernel) ?_ | refine WC.draw 11 rfl (by decide +kernel) ?_ | refine WC.draw 12 rfl (by decide +kernel) ?_ | refine WC.draw 13 rfl (by decide +kernel) ?_ | refine WC.draw 14 rfl (by decide +kernel) ?_ | refine WC.draw 15 rfl (by decide +kernel) ?_ | refine WC.draw 16 rfl (by decide +kernel) ?_ | refine WC.draw 17 rfl (by decide +kernel) ?_ | refine WC.draw 18 rfl (by decide +kernel) ?_ | refine WC.draw 19 rfl (by decide +kernel) ?_ | refine WC.draw 20 rfl (by decide +kernel) ?_ | refine WC.draw 21 rfl (by decide +kernel) ?_ | refine WC.draw 22 rfl (by decide +kernel) ?_ | refine WC.draw 23 rfl (by decide +kernel) ?_ | refine WC.draw 24 rfl (by decide +kernel) ?_)); (repeat (refine WD.cons rfl (fun c h => by cases h) sq_C3_2 ?_)); refine WD.nil ?_)); (try (refine st ?_; (repeat intro zzc)))))) | ((first | (refine iF 79 rfl ?_; refine w_callG Try.func79 ?_ (hs := in_any _ _ _ _ _ _)) | (refine iF 80 rfl ?_; refine w_callG Try.func80 ?_ (hs := refGreat_any _ (by omega) _ _ _)) | (refine iF 81 rfl ?_; refine w_callG Try.func81 ?_ (hs := refSmall_any _ (by omega) _ _ _)) | ((refine iDraw ?_; (first | refine WC.drawAll rfl (by decide +kernel) ?_ | refine WC.draw 1 rfl (by decide +kernel) ?_ | refine WC.draw 2 rfl (by decide +kernel) ?_ | refine WC.draw 3 rfl (by decide +kernel) ?_ | refine WC.draw 4 rfl (by decide +kernel) ?_ | refine WC.draw 5 rfl (by decide +kernel) ?_ | refine WC.draw 6 rfl (by decide +kernel) ?_ | refine WC.draw 7 rfl (by decide +kernel) ?_ | refine WC.draw 8 rfl (by decide +kernel) ?_ | refine WC.draw 9 rfl (by decide +kernel) ?_ | refine WC.draw 10 rfl (by decide +kernel) ?_ | refine WC.draw 11 rfl (by decide +kernel) ?_ | refine WC.draw 12 rfl (by decide +kernel) ?_ | refine WC.draw 13 rfl (by decide +kernel) ?_ | refine WC.draw 14 rfl (by decide +kernel) ?_ | refine WC.draw 15 rfl (by decide +kernel) ?_ | refine WC.draw 16 rfl (by decide +kernel) ?_ | refine WC.draw 17 rfl (by decide +kernel) ?_ | refine WC.draw 18 rfl (by decide +kernel) ?_ | refine WC.draw 19 rfl (by decide +kernel) ?_ | refine WC.draw 20 rfl (by decide +kernel) ?_ | refine WC.draw 21 rfl (by decide +kernel) ?_ | refine WC.draw 22 rfl (by decide +kernel) ?_ | refine WC.draw 23 rfl (by decide +kernel) ?_ | refine WC.draw 24 rfl (by decide +kernel) ?_)); (repeat (refine WD.cons rfl (fun c h => by cases h) sq_C3_2 ?_)); refine WD.nil ?_)); (try (refine st ?_; (repeat intro zzc))))); (repeat ((first | (refine iF 79 rfl ?_; refine w_callG Try.func79 ?_ (hs := in_any _ _ _ _ _ _)) | (refine iF 80 rfl ?_; refine w_callG Try.func80 ?_ (hs := refGreat_any _ (by omega) _ _ _)) | (refine iF 81 rfl ?_; refine w_callG Try.func81 ?_ (hs := refSmall_any _ (by omega) _ _ _)) | ((refine iDraw ?_; (first | refine WC.drawAll rfl (by decide +kernel) ?_ | refine WC.draw 1 rfl (by decide +kernel) ?_ | refine WC.draw 2 rfl (by decide +kernel) ?_ | refine WC.draw 3 rfl (by decide +kernel) ?_ | refine WC.draw 4 rfl (by decide +kernel) ?_ | refine WC.draw 5 rfl (by decide +kernel) ?_ | refine WC.draw 6 rfl (by decide +kernel) ?_ | refine WC.draw 7 rfl (by decide +kernel) ?_ | refine WC.draw 8 rfl (by decide +kernel) ?_ | refine WC.draw 9 rfl (by decide +kernel) ?_ | refine WC.draw 10 rfl (by decide +kernel) ?_ | refine WC.draw 11 rfl (by decide +kernel) ?_ | refine WC.draw 12 rfl (by decide +kernel) ?_ | refine WC.draw 13 rfl (by decide +kernel) ?_ | refine WC.draw 14 rfl (by decide +kernel) ?_ | refine WC.draw 15 rfl (by decide +kernel) ?_ | refine WC.draw 16 rfl (by decide +kernel) ?_ | refine WC.draw 17 rfl (by decide +kernel) ?_ | refine WC.draw 18 rfl (by decide +kernel) ?_ | refine WC.draw 19 rfl (by decide +kernel) ?_ | refine WC.draw 20 rfl (by decide +kernel) ?_ | refine WC.draw 21 rfl (by decide +kernel) ?_ | refine WC.draw 22 rfl (by decide +kernel) ?_ | refine WC.draw 23 rfl (by decide +kernel) ?_ | refine WC.draw 24 rfl (by decide +kernel) ?_)); (repeat (refine WD.cons rfl (fun c h => by cases h) sq_C3_2 ?_)); refine WD.nil ?_)); (try (refine st ?_; (repeat intro zzc))))); (repeat revert zzc); exact zzn.out) : G := h ⟨next⟩
theorem refKind_any (r : Nat) (hr : r ≤ 1114111) (ho : r < 55296 ∨ 57343 < r) (w0 : World) (m : Mem) (H : SHeap) : Does Try.prog 67 #[.int .i32 (r : Int)] w0 m H (Gives (.int .i64 (kindN r : Int)) m H) := by
  refine Does.of_body (args := [.int .i32 (r : Int)]) Try.func67 rfl Try.ntmps67 rfl ?_
  (repeat' (first | (refine st_C3_2 ?_; intros) | (first | refine c_ways (fun h1 => ?_) (fun h1 => ?_) | refine c_nways (fun h1 => ?_) (fun h1 => ?_) | refine w_gways (fun h1 => ?_) (fun h1 => ?_) | refine w_gnways (fun h1 => ?_) (fun h1 => ?_))))
  all_goals ((refine q_fin0 ?_); refine Gives.mk (congrArg _ ?_))
  all_goals first | (have hk := kind_letter (r := r) (.inl (by assumption)); omega) | (have hk := kind_letter (r := r) (.inr (by assumption)); omega) | (have hk := kind_spec (r := r) (not_or.2 ⟨by assumption, by assumption⟩); unfold Blank Dash Quote Point Ctl at hk; omega)
end Go.Proofs.Ytpghpbknjdnkkaa

/-
  Plain facts on clusters as the reference finds them: how many pieces a cluster takes, where it ends, its columns. No condition.
-/
namespace Go.Eng
open Go
def special (h : Nat) : Prop := h = 11 ∨ h = 4 ∨ h = 9
theorem run_none {h : Nat} {p : Pc} {ps : List Pc} (hs : special h) (hn : ∀ x xs, ps = x :: xs → ¬ (p.r = 13 ∧ x.r = 10)) : runC h p ps = 0 := by
  cases ps with
  | nil => rfl
  | cons x xs =>
    refine if_neg ?_
    rintro (g | ⟨g, _⟩)
    · exact hn x xs rfl g
    · unfold special at hs; omega
theorem run_crlf {h : Nat} {p x : Pc} {xs : List Pc} (hs : special h) (hp : p.r = 13) (hx : x.r = 10) : runC h p (x :: xs) = 1 := by
  have e : runC h p (x :: xs) = runC h x xs + 1 := if_pos (.inl ⟨hp, hx⟩)
  rw [e, run_none hs (fun y ys _ g => by omega)]
theorem glue_plain {h : Nat} {q x : Pc} (hs : ¬ special h) (hq : q.r ≠ 13) (hx : x.b = true → x.r = 65533) : Glue h q x ↔ (kindP x = 2 ∨ x.r = 8205 ∨ (h = 10 ∧ kindP x = 10 ∧ q.r = 8205)) := by
  have h1 : h ≠ 11 ∧ h ≠ 4 ∧ h ≠ 9 := by unfold special at hs; omega
  constructor
  · rintro (g | ⟨_, g⟩)
    · exact absurd g.1 hq
    · exact g.2
  · intro g
    refine .inr ⟨h1, ?_, g⟩
    cases hb : x.b with
    | false => rfl
    | true =>
      have e1 := kindP_b hb
      have e2 := hx hb
      omega
theorem glue_not13 {h : Nat} {q x : Pc} (hq : q.r ≠ 13) (hg : Glue h q x) : x.r ≠ 13 := by
  rcases hg with g | ⟨_, hb, g⟩
  · omega
  · intro e
    have e1 : kindP x = 4 := by rw [kindP_r hb, e]; exact kind_cr
    omega
theorem kind_cr_of {p : Pc} (hb : p.b = true → p.r = 65533) (h : p.r = 13) : kindP p = 4 := by
  have hbf : p.b = false := by
    cases g : p.b with
    | false => rfl
    | true => have := hb g; omega
  rw [kindP_r hbf, h]; exact kind_cr
theorem run_nil (h : Nat) (q : Pc) : runC h q [] = 0 := rfl
theorem run_step {h : Nat} {q x : Pc} {xs : List Pc} (hg : Glue h q x) : runC h q (x :: xs) = runC h x xs + 1 := if_pos hg
theorem run_stop {h : Nat} {q x : Pc} {xs : List Pc} (hg : ¬ Glue h q x) : runC h q (x :: xs) = 0 := if_neg hg
/-- the columns of some pieces -/
def maxC (ps : List Pc) : Nat := ps.foldl (fun n p => max n (colP p)) 0
theorem maxC_snoc (ps : List Pc) (p : Pc) : maxC (ps ++ [p]) = max (maxC ps) (colP p) := by simp [maxC]
theorem ext_fold : ∀ (ps : List Pc) (c : Cl), (ps.foldl Cl.ext c).a = c.a ∧ (ps.foldl Cl.ext c).z = ((ps.getLast?).map (fun p => p.at_ + p.w)).getD c.z ∧ (ps.foldl Cl.ext c).c = ps.foldl (fun n p => max n (colP p)) c.c
  | [], c => ⟨rfl, rfl, rfl⟩
  | p :: ps, c => by
    obtain ⟨h1, h2, h3⟩ := ext_fold ps (c.ext p)
    refine ⟨h1, ?_, h3⟩
    rw [List.foldl_cons, h2]
    cases ps with
    | nil => rfl
    | cons x xs => rw [List.getLast?_cons_cons]; cases hh : (x :: xs).getLast? with
      | none => simp at hh
      | some y => rfl
/-- a cluster made of its pieces -/
theorem ext_made {ps : List Pc} {i n : Nat} {p x : Pc} (hp : ps[i]? = some p) (hx : ps[i + n]? = some x) :
    ((ps.drop (i + 1)).take n).foldl Cl.ext (headC p) = ⟨p.at_, x.at_ + x.w, maxC ((ps.drop i).take (n + 1))⟩ := by
  obtain ⟨h1, h2, h3⟩ := ext_fold ((ps.drop (i + 1)).take n) (headC p)
  have hi : i < ps.length := by rcases List.getElem?_eq_some_iff.1 hp with ⟨h, _⟩; exact h
  have hin : i + n < ps.length := by rcases List.getElem?_eq_some_iff.1 hx with ⟨h, _⟩; exact h
  have hpe : ps[i] = p := by rcases List.getElem?_eq_some_iff.1 hp with ⟨_, h⟩; exact h
  have hd : ps.drop i = p :: ps.drop (i + 1) := by rw [List.drop_eq_getElem_cons hi, hpe]
  have e3 : (((ps.drop (i + 1)).take n).foldl Cl.ext (headC p)).c = maxC ((ps.drop i).take (n + 1)) := by
    rw [h3, hd, List.take_succ_cons, maxC, List.foldl_cons]
    have : max 0 (colP p) = colP p := by omega
    rw [this]; rfl
  have e2 : (((ps.drop (i + 1)).take n).foldl Cl.ext (headC p)).z = x.at_ + x.w := by
    rw [h2]
    cases n with
    | zero =>
      rw [Nat.add_zero, hp] at hx
      cases hx
      simp [headC]
    | succ n =>
      have hl : ((ps.drop (i + 1)).take (n + 1)).getLast? = some x := by
        rw [List.getLast?_eq_getElem?]
        have e : ((ps.drop (i + 1)).take (n + 1)).length = n + 1 := by rw [List.length_take, List.length_drop]; omega
        rw [e, Nat.add_sub_cancel, List.getElem?_take_of_lt (by omega), List.getElem?_drop, ← hx]
        congr 1; omega
      rw [hl]; rfl
  generalize ((ps.drop (i + 1)).take n).foldl Cl.ext (headC p) = C at *
  obtain ⟨a, z, c⟩ := C
  simp only at h1 e2 e3
  subst h1 e2 e3
  rfl
/-- a piece's first byte -/
theorem first_byte {l : List UInt8} {k c : Nat} (hk : k < l.length) (hc : c < 128) : gb l k = c ↔ (readP l k).r = c := by
  have hn : gb l k = nb (l.drop k) 0 := by rw [nb_drop, Nat.add_zero]
  rw [readP_r_eq, hn]
  rcases dl_cases (l.drop k) (by simp; omega) with ⟨h1, h2, h3⟩ | ⟨h1, h2⟩
  · have h4 := h3.2 0 (by have := wd_pos (dl (l.drop k)).1; omega)
    rw [h4, fm0]
    constructor
    · intro h
      split at h
      · exact h
      · split at h
        · omega
        · split at h <;> omega
    · intro h; rw [h, if_pos (by omega)]
  · rw [h1]
    constructor
    · intro h
      exfalso
      refine h2 c (.inl (by omega)) ⟨?_, ?_⟩
      · have : wd c = 1 := by unfold wd; rw [if_pos (by omega)]
        rw [this]; simp; omega
      · intro j hj
        have e : wd c = 1 := by unfold wd; rw [if_pos (by omega)]
        rw [e] at hj
        obtain rfl : j = 0 := by omega
        rw [h, fm0, if_pos (by omega)]
    · intro h; simp only at h; omega
end Go.Eng

/-
  The walk of the reference's Pieces (canticleref05). No condition.
-/
namespace Go.Eng
open Go
/-- a piece as the reference of this layer has it -/
def Pc.c5 (p : Pc) : List Value := [.int .i64 (p.at_ : Int), .int .i64 ((p.at_ + p.w : Nat) : Int), .int .i64 (kindP p : Int), .bool (dcd (p.r = 8205)), .int .i64 (colP p : Int)]
theorem pc_ok {l : List UInt8} {p : Pc} (h : p ∈ pieces l) : okr p.r := by
  obtain ⟨A, B, e⟩ := List.append_of_mem h
  have hsp := pieces_split e
  rw [hsp.2.1]; exact readP_ok hsp.1
end Go.Eng
namespace Go.Proofs.Ytpghpbknjdnkkaa
open Go Go.Eng
set_option maxRecDepth 100000
set_option maxHeartbeats 4000000
set_option linter.all false
attribute [local irreducible] WL WC WQ QFun QLoop Does Q1 QRound QAssign Go.Addr.add
attribute [local irreducible] Wide kindN kindP colP pieces readP dl
theorem sq_C9_1 {G : Prop} (h : G := by (repeat (first | (refine sp ?_; (repeat intro zzc)) | (refine iF 67 rfl ?_; refine w_callG Try.func67 ?_ (hs := refKind_any _ (by omega) (by omega) _ _ _)) | (refine iF 68 rfl ?_; refine w_callG Try.func68 ?_ (hs := wide2_any _ (by omega) _ _ _)))); exact WQ.q1 rfl) : G := h
theorem cm_C9_1 {G G' : Prop} (next : G') (h : Bx G' → G := by intro zzn; (try (refine wcal 0 ?_ (hwl := by intro zm zF zle; exact sq_C9_1))); (try (refine wcal 1 ?_ (hwl := by intro zm zF zle; exact sq_C9_1))); (try (refine wcal 2 ?_ (hwl := by intro zm zF zle; exact sq_C9_1))); (try (refine wcal 3 ?_ (hwl := by intro zm zF zle; exact sq_C9_1))); (try (refine wcal 4 ?_ (hwl := by intro zm zF zle; exact sq_C9_1))); (try (refine wcal 5 ?_ (hwl := by intro zm zF zle; exact sq_C9_1))); (try (refine wcal 6 ?_ (hwl := by intro zm zF zle; exact sq_C9_1))); (try (refine wcal 7 ?_ (hwl := by intro zm zF zle; exact sq_C9_1))); (try (refine wcal 8 ?_ (hwl := by intro zm zF zle; exact sq_C9_1))); (try (refine wcal 9 ?_ (hwl := by intro zm zF zle; exact sq_C9_1))); (try (refine wcal 10 ?_ (hwl := by intro zm zF zle; exact sq_C9_1))); (try (refine wcal 11 ?_ (hwl := by intro zm zF zle; exact sq_C9_1))); (try (refine wcal 12 ?_ (hwl := by intro zm zF zle; exact sq_C9_1))); (try (refine wcal 13 ?_ (hwl := by intro zm zF zle; exact sq_C9_1))); (try (refine wcal 14 ?_ (hwl := by intro zm zF zle; exact sq_C9_1))); (try (refine wcal 15 ?_ (hwl := by intro zm zF zle; exact sq_C9_1))); (try (refine wcal 16 ?_ (hwl := by intro zm zF zle; exact sq_C9_1))); (try (refine wcal 17 ?_ (hwl := by intro zm zF zle; exact sq_C9_1))); (try (refine wcal 18 ?_ (hwl := by intro zm zF zle; exact sq_C9_1))); (try (refine wcal 19 ?_ (hwl := by intro zm zF zle; exact sq_C9_1))); (try (refine wcal 20 ?_ (hwl := by intro zm zF zle; exact sq_C9_1))); (try (refine wcal 21 ?_ (hwl := by intro zm zF zle; exact sq_C9_1))); (try (refine wcal 22 ?_ (hwl := by intro zm zF zle; exact sq_C9_1))); (try (refine wcal 23 ?_ (hwl := by intro zm zF zle; exact sq_C9_1))); (try (refine wcal 24 ?_ (hwl := by intro zm zF zle; exact sq_C9_1))); (try (refine wcal 25 ?_ (hwl := by intro zm zF zle; exact sq_C9_1))); (try (refine wcal 26 ?_ (hwl := by intro zm zF zle; exact sq_C9_1))); (try (refine wcal 27 ?_ (hwl := by intro zm zF zle; exact sq_C9_1))); (try (refine wcal 28 ?_ (hwl := by intro zm zF zle; exact sq_C9_1))); (try (refine wcal 29 ?_ (hwl := by intro zm zF zle; exact sq_C9_1))); (try (refine wcal 30 ?_ (hwl := by intro zm zF zle; exact sq_C9_1))); (try (refine wcal 31 ?_ (hwl := by intro zm zF zle; exact sq_C9_1))); (try (refine wcal 32 ?_ (hwl := by intro zm zF zle; exact sq_C9_1))); (try (refine wcal 33 ?_ (hwl := by intro zm zF zle; exact sq_C9_1))); (try (refine wcal 34 ?_ (hwl := by intro zm zF zle; exact sq_C9_1))); (try (refine wcal 35 ?_ (hwl := by intro zm zF zle; exact sq_C9_1))); (try (refine wcal 36 ?_ (hwl := by intro zm zF zle; exact sq_C9_1))); (try (refine wcal 37 ?_ (hwl := by intro zm zF zle; exact sq_C9_1))); (try (refine wcal 38 ?_ (hwl := by intro zm zF zle; exact sq_C9_1))); (try (refine wcal 39 ?_ (hwl := by intro zm zF zle; exact sq_C9_1))); (try (refine wcal 40 ?_ (hwl := by intro zm zF zle; exact sq_C9_1))); (try (refine wcal 41 ?_ (hwl := by intro zm zF zle; exact sq_C9_1))); exact zzn.out) : G := h ⟨next⟩
theorem st_C9_1 {G G' : Prop} (next : G') (h : Bx G' → G := by intro zzn; (first | ((refine st ?_; (repeat intro zzc)); (try ((first | (refine iF 67 rfl ?_; refine w_callG Try.func67 ?_ (hs := refKind_any _ (by omega) (by omega) _ _ _)) | (refine iF 68 rfl ?_; refine w_callG Try.func68 ?_ (hs := wide2_any _ (by omega) _ _ _)) | ((refine iDraw ?_; (first | refine WC.drawAll rfl (by decide +kernel) ?_ | refine WC.draw 1 rfl (by decide +kernel) ?_ | refine WC.draw 2 rfl (by decide +kernel) ?_ | refine WC.draw 3 rfl (by decide +kernel) ?_ | refine WC.draw 4 rfl (by decide +kernel) ?_ | refine WC.draw 5 rfl (by decide +kernel) ?_ | refine WC.draw 6 rfl (by decide +kernel) ?_ | refine WC.draw 7 rfl (by decide +kernel) ?_ | refine WC.draw 8 rfl (by decide +kernel) ?_ | refine WC.draw 9 rfl (by decide +kernel) ?_ | refine WC.draw 10 rfl (by decide +kernel) ?_ | refine WC.draw 11 rfl (by decide +kernel) ?_ | refine WC.draw 12 rfl (by decide +kernel) ?_ | refine WC.draw 13 rfl (by decide +kernel) ?_ | refine WC.draw 14 rfl (by decide +kernel) ?_ | refine WC.draw 15 rfl (by decide +kernel) ?_ | refine WC.draw 16 rfl (by decide +kernel) ?_ | refine WC.draw 17 rfl (by decide +kernel) ?_ | refine WC.draw 18 rfl (by decide +kernel) ?_ | refine WC.draw 19 rfl (by decide +kernel) ?_ | refine WC.draw 20 rfl (by decide +kernel) ?_ | refine WC.draw 21 rfl (by decide +kernel) ?_ | refine WC.draw 22 rfl (by decide +kernel) ?_ | refine WC.draw 23 rfl (by decide +kernel) ?_ | refine WC.draw 24 rfl (by decide +kernel) ?_)); (repeat (refine WD.cons rfl (fun c h => by cases h) sq_C9_1 ?_)); refine WD.nil ?_)); (try (refine st ?_; (repeat intro zzc)))))) | ((first | (refine iF 67 rfl ?_; refine w_callG Try.func67 ?_ (hs := refKind_any _ (by omega) (by omega) _ _ _)) | (refine iF 68 rfl ?_; refine w_callG Try.func68 ?_ (hs := wide2_any _ (by omega) _ _ _)) | ((refine iDraw ?_; (first | refine WC.drawAll rfl (by decide +kernel) ?_ | refine WC.draw 1 rfl (by decide +kernel) ?_ | refine WC.draw 2 rfl (by decide +kernel) ?_ | refine WC.draw 3 rfl (by decide +kernel) ?_ | refine WC.draw 4 rfl (by decide +kernel) ?_ | refine WC.draw 5 rfl (by decide +kernel) ?_ | refine WC.draw 6 rfl (by decide +kernel) ?_ | refine WC.draw 7 rfl (by decide +kernel) ?_ | refine WC.draw 8 rfl (by decide +kernel) ?_ | refine WC.draw 9 rfl (by decide +kernel) ?_ | refine WC.draw 10 rfl (by decide +kernel) ?_ | refine WC.draw 11 rfl (by decide +kernel) ?_ | refine WC.draw 12 rfl (by decide +kernel) ?_ | refine WC.draw 13 rfl (by decide +kernel) ?_ | refine WC.draw 14 rfl (by decide +kernel) ?_ | refine WC.draw 15 rfl (by decide +kernel) ?_ | refine WC.draw 16 rfl (by decide +kernel) ?_ | refine WC.draw 17 rfl (by decide +kernel) ?_ | refine WC.draw 18 rfl (by decide +kernel) ?_ | refine WC.draw 19 rfl (by decide +kernel) ?_ | refine WC.draw 20 rfl (by decide +kernel) ?_ | refine WC.draw 21 rfl (by decide +kernel) ?_ | refine WC.draw 22 rfl (by decide +kernel) ?_ | refine WC.draw 23 rfl (by decide +kernel) ?_ | refine WC.draw 24 rfl (by decide +kernel) ?_)); (repeat (refine WD.cons rfl (fun c h => by cases h) sq_C9_1 ?_)); refine WD.nil ?_)); (try (refine st ?_; (repeat intro zzc))))); (repeat ((first | (refine iF 67 rfl ?_; refine w_callG Try.func67 ?_ (hs := refKind_any _ (by omega) (by omega) _ _ _)) | (refine iF 68 rfl ?_; refine w_callG Try.func68 ?_ (hs := wide2_any _ (by omega) _ _ _)) | ((refine iDraw ?_; (first | refine WC.drawAll rfl (by decide +kernel) ?_ | refine WC.draw 1 rfl (by decide +kernel) ?_ | refine WC.draw 2 rfl (by decide +kernel) ?_ | refine WC.draw 3 rfl (by decide +kernel) ?_ | refine WC.draw 4 rfl (by decide +kernel) ?_ | refine WC.draw 5 rfl (by decide +kernel) ?_ | refine WC.draw 6 rfl (by decide +kernel) ?_ | refine WC.draw 7 rfl (by decide +kernel) ?_ | refine WC.draw 8 rfl (by decide +kernel) ?_ | refine WC.draw 9 rfl (by decide +kernel) ?_ | refine WC.draw 10 rfl (by decide +kernel) ?_ | refine WC.draw 11 rfl (by decide +kernel) ?_ | refine WC.draw 12 rfl (by decide +kernel) ?_ | refine WC.draw 13 rfl (by decide +kernel) ?_ | refine WC.draw 14 rfl (by decide +kernel) ?_ | refine WC.draw 15 rfl (by decide +kernel) ?_ | refine WC.draw 16 rfl (by decide +kernel) ?_ | refine WC.draw 17 rfl (by decide +kernel) ?_ | refine WC.draw 18 rfl (by decide +kernel) ?_ | refine WC.draw 19 rfl (by decide +kernel) ?_ | refine WC.draw 20 rfl (by decide +kernel) ?_ | refine WC.draw 21 rfl (by decide +kernel) ?_ | refine WC.draw 22 rfl (by decide +kernel) ?_ | refine WC.draw 23 rfl (by decide +kernel) ?_ | refine WC.draw 24 rfl (by decide +kernel) ?_)); (repeat (refine WD.cons rfl (fun c h => by cases h) sq_C9_1 ?_)); refine WD.nil ?_)); (try (refine st ?_; (repeat intro zzc))))); (repeat revert zzc); exact zzn.out) : G := h ⟨next⟩
theorem p5_any (l : List UInt8) (hl : l.length ≤ 4194304) (w0 : World) (m : Mem) (H : SHeap) :
    Does Try.prog 52 #[str l] w0 m H (fun v m' H' => m' = m ∧ ∃ c cp, v = .slice c (pieces l).length cp ∧ H' = .row c cp 87 5 ((pieces l).map Pc.c5) :: H) := by
  refine Does.of_body (args := [str l]) Try.func52 rfl Try.ntmps52 rfl ?_
  have hcnt := pieces_length l
  (try (refine st_C9_1 ?_; intros))
  refine w_callF Try.func66 ?_ (hs := p2_any l (by omega) _ _ _)
  rintro v m H1 ⟨rfl, c, cp, rfl, rfl⟩
  (try (refine st_C9_1 ?_; intros))
  refine WC.newRow (T := 87) (sz := 5) ?_
  refine WC.loopH [(5, .int .i64 ((0) : Int)), (3, .slice c (pieces l).length cp), (4, .slice (none) (0) (0))] ?_ ?_ (fun j r ds m' H' => ∃ (i : Nat) (a : Option Addr) (cap : Nat), j = (pieces l).length - i ∧ r = [(5, .int .i64 (i : Int)), (3, .slice c (pieces l).length cp), (4, .slice a i cap)] ∧ ds = [] ∧ m = m' ∧ H' = .row a cap 87 5 (((pieces l).take i).map Pc.c5) :: .row c cp 102 3 ((pieces l).map Pc.c3) :: H ∧ (i ≤ (pieces l).length)) ((pieces l).length - (0)) ⟨0, none, 0, rfl, rfl, rfl, rfl, rfl, Nat.zero_le _⟩ ?_
  · (repeat (first | exact Env.Sub.nil | refine Env.Sub.cons rfl ?_))
  · exact zpk
  rintro j r ds m' H' ⟨i, a, cap, rfl, rfl, rfl, rfl, rfl, hi⟩
  have hel : (((pieces l).take i).map Pc.c5).length = i := by simp; omega
  have hel2 : ((pieces l).map Pc.c3).length = (pieces l).length := by simp
  by_cases hlt : i < (pieces l).length
  · have hmem : (pieces l)[i] ∈ pieces l := List.getElem_mem hlt
    have hpb := pc_broken hmem
    have hok := pc_ok hmem
    have hmw := mem_w hmem
    have hnext : ((pieces l).take i).map Pc.c5 ++ [((pieces l)[i]).c5] = ((pieces l).take (i + 1)).map Pc.c5 := by
      rw [List.take_succ_eq_append_getElem hlt, List.map_append]; rfl
    have hget : ((pieces l).map Pc.c3)[i]? = some ((pieces l)[i]).c3 := by simp [hlt]
    generalize hpi : (pieces l)[i] = pi at *
    generalize hE : (pieces l).map Pc.c3 = E at *
    generalize hD : ((pieces l).take i).map Pc.c5 = D at *
    have hc3 : pi.c3 = [.int .i64 (pi.at_ : Int), .int .i64 (pi.w : Int), .int .i32 (pi.r : Int)] := rfl
    have hat : (pi.at_ : Int) + (pi.w : Int) = ((pi.at_ + pi.w : Nat) : Int) := by omega
    have hr1 := okr_le hok
    have hr2 : pi.r < 55296 ∨ 57343 < pi.r := by unfold okr at hok; omega
    rw [hc3] at hget
    refine WC.rowSome (a := c) (es := E) zhs (by omega) ?_
    rintro c0 rfl
    (try (refine st_C9_1 ?_; intros))
    refine WC.drawE 19 ([.row (some c0) cp 102 3 E]) (.row a cap 87 5 D :: H) rfl (by decide +kernel) zpk ?_
    (refine cm_C9_1 ?_)
    refine WE.act1 18 (by decide +kernel) rfl rfl (fun c h => by cases h) ?_
    (refine st_C9_1 ?_; intros; rename_i bp)
    refine WQ.acted (B := [.blk bp (.cells [.int .i64 0, .int .i64 0, .int .i64 0, .bool false, .int .i64 0].toArray 87 (0, 0))]) (U := .row a cap 87 5 D :: H) rfl (Mem.le.refl _) zpk ?_
    refine WE.done (by decide +kernel) ?_
    rw [hat]
    by_cases hb : pi.b = true
    · obtain ⟨h1, h2⟩ := hpb.1 hb
      have ec : [Value.int .i64 (pi.at_ : Int), .int .i64 ((pi.at_ + pi.w : Nat) : Int), .int .i64 11, .bool false, .int .i64 1] = pi.c5 := by
        unfold Pc.c5 colP; rw [kindP_b hb, dcd_false (p := pi.r = 8205) (by omega)]; rfl
      (refine st_C9_1 ?_; intros; rename_i a2 cap2)
      rw [ec, hnext, hel]
      refine WQ.next ((pieces l).length - (i + 1)) ⟨i + 1, a2, cap2, rfl, rfl, rfl, rfl, rfl, ?_⟩ (by omega) zsb zpk
      omega
    · have hbf : pi.b = false := by simpa using hb
      have hnot : ¬ (pi.r = 65533 ∧ pi.w = 1) := fun h => hb (hpb.2 h)
      have hkp := kindP_r hbf
      have hk1 := kindN_le pi.r
      have hcol : colP pi = if kindN pi.r = 2 ∨ kindN pi.r = 4 ∨ kindN pi.r = 9 then 0 else if Wide pi.r then 2 else 1 := by
        unfold colP; rw [hkp, if_neg (by omega)]
      have hzw : kindN 8205 = 9 := kind_zwj
      have hj : dcd ((pi.r : Int) = 8205) = dcd (pi.r = 8205) := dcd_cong (by omega)
      have hcs : (pi.r = 65533 ∧ pi.w ≠ 1) ∨ pi.r ≠ 65533 := by omega
      have hks : (pi.r = 8205 ∧ kindN pi.r = 9) ∨ (pi.r ≠ 8205 ∧ (kindN pi.r = 2 ∨ (kindN pi.r ≠ 2 ∧ kindN pi.r = 4) ∨ (kindN pi.r ≠ 2 ∧ kindN pi.r ≠ 4 ∧ kindN pi.r = 9) ∨ ((kindN pi.r ≠ 2 ∧ kindN pi.r ≠ 4 ∧ kindN pi.r ≠ 9) ∧ (Wide pi.r ∨ ¬ Wide pi.r)))) := by
        by_cases h : pi.r = 8205
        · exact .inl ⟨h, by rw [h]; exact hzw⟩
        · refine .inr ⟨h, ?_⟩
          have hwd := Classical.em (Wide pi.r)
          by_cases q1 : kindN pi.r = 2
          · exact .inl q1
          by_cases q2 : kindN pi.r = 4
          · exact .inr (.inl ⟨q1, q2⟩)
          by_cases q3 : kindN pi.r = 9
          · exact .inr (.inr (.inl ⟨q1, q2, q3⟩))
          · exact .inr (.inr (.inr ⟨⟨q1, q2, q3⟩, hwd⟩))
      have h5 : pi.c5 = [Value.int .i64 (pi.at_ : Int), .int .i64 ((pi.at_ + pi.w : Nat) : Int), .int .i64 (kindN pi.r : Int), .bool (dcd (pi.r = 8205)), .int .i64 (colP pi : Int)] := by unfold Pc.c5; rw [hkp]
      rcases hks with ⟨g1, g2⟩ | ⟨g1, g2 | ⟨g2, g3⟩ | ⟨g2, g3, g4⟩ | ⟨⟨g2, g3, g4⟩, hwd | hwd⟩⟩
      all_goals rcases hcs with ⟨f1, f2⟩ | f1
      all_goals try (exfalso; omega)
      all_goals
        (refine st_C9_1 ?_; intros; rename_i a2 cap2)
        have ec : ∀ z, colP pi = z → [Value.int .i64 (pi.at_ : Int), .int .i64 ((pi.at_ + pi.w : Nat) : Int), .int .i64 (kindN pi.r : Int), .bool (dcd ((pi.r : Int) = 8205)), .int .i64 (z : Int)] = pi.c5 := fun z hz => by rw [h5, hj, hz]
        first | rw [show (0 : Int) = ((0 : Nat) : Int) from rfl, ec 0 (by rw [hcol, if_pos (by omega)])] | rw [show (2 : Int) = ((2 : Nat) : Int) from rfl, ec 2 (by rw [hcol, if_neg (by omega), if_pos hwd])] | rw [show (1 : Int) = ((1 : Nat) : Int) from rfl, ec 1 (by rw [hcol, if_neg (by omega), if_neg hwd])]
        rw [hnext, hel]
        refine WQ.next ((pieces l).length - (i + 1)) ⟨i + 1, a2, cap2, rfl, rfl, rfl, rfl, rfl, ?_⟩ (by omega) zsb zpk
        omega
  · obtain rfl : i = (pieces l).length := by omega
    rw [List.take_length]
    (try (refine st_C9_1 ?_; intros))
    exact q_fin0 (H0 := .row a cap 87 5 ((pieces l).map Pc.c5) :: H) ⟨rfl, a, cap, rfl, rfl⟩ (hd := zpk)
end Go.Proofs.Ytpghpbknjdnkkaa

/-
  The walk of the reference's Cells. No condition.
-/
namespace Go.Proofs.Ytpghpbknjdnkkaa
open Go Go.Eng
set_option maxRecDepth 100000
set_option maxHeartbeats 4000000
set_option linter.all false
attribute [local irreducible] WL WC WQ QFun QLoop Does Q1 QRound QAssign Go.Addr.add
attribute [local irreducible] Wide kindN kindP colP pieces readP dl runC Glue clGo maxC
theorem cells5_any (l : List UInt8) (hl : l.length ≤ 4194304) (w0 : World) (m : Mem) (H : SHeap) :
    Does Try.prog 29 #[str l] w0 m H (fun v m' H' => m' = m ∧ ∃ a cp, v = .slice a (clusters l).length cp ∧ H' = .row a cp 38 3 ((clusters l).map Cl.cs) :: H) := by
  refine Does.of_body (args := [str l]) Try.func29 rfl Try.ntmps29 rfl ?_
  have hcnt := pieces_length l
  (try (refine st ?_; intros))
  refine w_callF Try.func52 ?_ (hs := p5_any l (by omega) _ _ _)
  rintro v m H1 ⟨rfl, c, cp, rfl, rfl⟩
  (try (refine st ?_; intros))
  refine WC.newRow (T := 38) (sz := 3) ?_
  have hel : ((pieces l).map Pc.c5).length = (pieces l).length := by simp
  have hgetE : ∀ (j : Nat) (x : Pc), (pieces l)[j]? = some x → ((pieces l).map Pc.c5)[j]? = some [.int .i64 (x.at_ : Int), .int .i64 ((x.at_ + x.w : Nat) : Int), .int .i64 (kindP x : Int), .bool (dcd (x.r = 8205)), .int .i64 (colP x : Int)] := fun j x h => by
    rw [List.getElem?_map, h]; rfl
  have hps : ∀ (j : Nat), j < (pieces l).length → ∃ x, (pieces l)[j]? = some x ∧ x ∈ pieces l ∧ (pieces l).drop j = x :: (pieces l).drop (j + 1) := fun j hj => ⟨(pieces l)[j], by simp [hj], List.getElem_mem hj, List.drop_eq_getElem_cons hj⟩
  generalize hE : (pieces l).map Pc.c5 = E at *
  refine WC.loopH [(5, .int .i64 ((0) : Int)), (3, .slice c (pieces l).length cp), (4, .slice (none) (([] : List Cl)).length (0)), (0, str l)] ?_ ?_ (fun j r ds m' H' => ∃ (i : Nat) (a : Option Addr) (cap : Nat) (done : List Cl), j = (pieces l).length - i ∧ r = [(5, .int .i64 (i : Int)), (3, .slice c (pieces l).length cp), (4, .slice a done.length cap), (0, str l)] ∧ ds = [] ∧ m = m' ∧ H' = .row a cap 38 3 (done.map Cl.cs) :: .row c cp 87 5 E :: H ∧ (clGo none (pieces l) = done ++ clGo none ((pieces l).drop i)) ∧ (i ≤ (pieces l).length)) ((pieces l).length - (0)) ⟨0, none, 0, ([] : List Cl), rfl, rfl, rfl, rfl, rfl, rfl, Nat.zero_le _⟩ ?_
  · (repeat (first | exact Env.Sub.nil | refine Env.Sub.cons rfl ?_))
  · exact zpk
  rintro j r ds m' H' ⟨i, a, cap, done, rfl, rfl, rfl, rfl, rfl, hcl, hi⟩
  have hdl : (done.map Cl.cs).length = done.length := List.length_map _
  have hdn : done.length ≤ l.length := by
    have h1 := clusters_len l
    have h2 := congrArg List.length hcl
    rw [List.length_append] at h2; unfold clusters at h1; omega
  (try (refine st ?_; intros))
  by_cases hlt : i < (pieces l).length
  · refine WC.yes rfl (by omega) ?_
    refine WC.skip ?_
    refine WQ.norm ?_
    refine WC.block ?_
    obtain ⟨p, hp, hpm, hdr⟩ := hps i hlt
    have hgp := hgetE i p hp
    have hpb : p.b = true → p.r = 65533 := fun h => ((pc_broken hpm).1 h).1
    have hpw := mem_w hpm
    refine WC.rowSome (a := c) (es := E) zhs (by omega) ?_
    rintro c0 rfl
    refine WC.seq (WC.region ?_)
    refine sp ?_
    refine WQ.norm ?_
    refine WC.seq (WC.region ?_)
    refine sp ?_
    refine WQ.norm ?_
    refine WC.seq ?_
    obtain ⟨n, hn⟩ : ∃ n, runC (kindP p) p ((pieces l).drop (i + 1)) = n := ⟨_, rfl⟩
    have hnl := runC_le (kindP p) p ((pieces l).drop (i + 1))
    rw [hn, List.length_drop] at hnl
    refine WC.join (fun r' ds' m' H' => r' = [(6, .int .i64 ((i + 1 + n : Nat) : Int)), (5, .int .i64 (i : Int)), (3, .slice (some c0) (pieces l).length cp), (4, .slice a done.length cap), (0, str l)] ∧ ds' = [] ∧ m' = m ∧ H' = .row a cap 38 3 (done.map Cl.cs) :: .row (some c0) cp 87 5 E :: H) ?_ ?_
    · refine WC.rename 6 (u := .int .i64 ((i + 1 : Nat) : Int)) rfl (congrArg _ (by omega)) ?_
      have hjoin : ∀ k, n = k → (i + 1 + n : Nat) = i + 1 + k := fun k h => by rw [h]
      have hfb := first_byte (l := l) (k := p.at_) (c := 13) (by omega) (by omega)
      have hpe : readP l p.at_ = p := by
        obtain ⟨A, B, e⟩ := List.append_of_mem hpm
        exact (pieces_split e).2.1.symm
      rw [hpe] at hfb
      by_cases hcr : p.r = 13
      · have hk4 := kind_cr_of hpb hcr
        have hsp : special (kindP p) := .inr (.inl hk4)
        have hb13 := hfb.2 hcr
        by_cases hk : i + 1 < (pieces l).length
        · obtain ⟨x, hx, hxm, hdx⟩ := hps (i + 1) hk
          have hgx := hgetE _ x hx
          have hxw := mem_w hxm
          have hxe : readP l x.at_ = x := by
            obtain ⟨A, B, e⟩ := List.append_of_mem hxm
            exact (pieces_split e).2.1.symm
          have hfx := first_byte (l := l) (k := x.at_) (c := 10) (by omega) (by omega)
          rw [hxe] at hfx
          by_cases h10 : x.r = 10
          · have hb10 := hfx.2 h10
            obtain rfl : n = 1 := by rw [← hn, hdx]; exact run_crlf hsp hcr h10
            (try (refine st ?_; intros))
            exact WQ.join ⟨rfl, rfl, rfl, rfl⟩ zsb zpk
          · have hb10 : ¬ gb l x.at_ = 10 := fun h => h10 (hfx.1 h)
            obtain rfl : n = 0 := by rw [← hn]; exact run_none hsp (fun y ys e g => by rw [hdx] at e; cases e; exact h10 g.2)
            (try (refine st ?_; intros))
            exact WQ.join ⟨rfl, rfl, rfl, rfl⟩ zsb zpk
        · obtain rfl : n = 0 := by rw [← hn, List.drop_of_length_le (by omega), run_nil]
          (try (refine st ?_; intros))
          exact WQ.join ⟨rfl, rfl, rfl, rfl⟩ zsb zpk
      have hb13 : ¬ gb l p.at_ = 13 := fun h => hcr (hfb.1 h)
      by_cases hsp : special (kindP p)
      · obtain rfl : n = 0 := by rw [← hn]; exact run_none hsp (fun y ys e g => hcr g.1)
        rcases hsp with g | g | g
        all_goals
          (try (refine st ?_; intros))
          exact WQ.join ⟨rfl, rfl, rfl, rfl⟩ zsb zpk
      have hsp2 : kindP p ≠ 11 ∧ kindP p ≠ 4 ∧ kindP p ≠ 9 := by unfold special at hsp; omega
      obtain ⟨s1, s2, s3⟩ := hsp2
      (try (refine st ?_; intros))
      refine WC.loopH [(6, .int .i64 ((i + 1 + (0) : Nat) : Int)), (7, .int .i64 (kindP p : Int)), (5, .int .i64 (i : Int)), (3, .slice (some c0) (pieces l).length cp), (4, .slice a done.length cap), (0, str l)] ?_ ?_ (fun j r ds m' H' => ∃ (u : Nat) (q : Pc), j = (pieces l).length - (i + u) ∧ r = [(6, .int .i64 ((i + 1 + u : Nat) : Int)), (7, .int .i64 (kindP p : Int)), (5, .int .i64 (i : Int)), (3, .slice (some c0) (pieces l).length cp), (4, .slice a done.length cap), (0, str l)] ∧ ds = [] ∧ m = m' ∧ H' = .row a cap 38 3 (done.map Cl.cs) :: .row (some c0) cp 87 5 E :: H ∧ ((pieces l)[i + u]? = some q) ∧ (runC (kindP p) q ((pieces l).drop (i + 1 + u)) + u = n) ∧ (q.r ≠ 13)) ((pieces l).length - (i + (0))) ⟨0, p, rfl, rfl, rfl, rfl, rfl, hp, hn, hcr⟩ ?_
      · (repeat (first | exact Env.Sub.nil | refine Env.Sub.cons rfl ?_))
      · exact zpk
      rintro j r ds m' H' ⟨u, q, rfl, rfl, rfl, rfl, rfl, hq, hj, hq13⟩
      by_cases hk : i + 1 + u < (pieces l).length
      · obtain ⟨x, hx, hxm, hdx⟩ := hps (i + 1 + u) hk
        have hgx := hgetE _ x hx
        have hgq : E[i + 1 + u - 1]? = _ := hgetE (i + 1 + u - 1) q (by rw [show i + 1 + u - 1 = i + u by omega]; exact hq)
        have hglue := glue_plain hsp hq13 (fun h => ((pc_broken hxm).1 h).1)
        rw [hdx] at hj
        by_cases hG : Glue (kindP p) q x
        · rw [run_step hG] at hj
          have h13 := glue_not13 hq13 hG
          have hcs : kindP x = 2 ∨ (kindP x ≠ 2 ∧ x.r = 8205) ∨ (kindP x ≠ 2 ∧ x.r ≠ 8205 ∧ kindP p = 10 ∧ kindP x = 10 ∧ q.r = 8205) := by
            have := hglue.1 hG; omega
          rcases hcs with g | ⟨g1, g2⟩ | ⟨g1, g2, g3, g4, g5⟩
          all_goals
            (try (refine st ?_; intros))
            refine WQ.next ((pieces l).length - (i + (u + 1))) ⟨u + 1, x, rfl, rfl, rfl, rfl, rfl, ?_, ?_, ?_⟩ (by omega) zsb zpk
            · rw [show i + (u + 1) = i + 1 + u by omega]; exact hx
            · rw [show i + 1 + (u + 1) = i + 1 + u + 1 by omega]; omega
            · exact h13
        · rw [run_stop hG, Nat.zero_add] at hj
          subst hj
          have hcs : kindP x ≠ 2 ∧ x.r ≠ 8205 ∧ (kindP p ≠ 10 ∨ (kindP p = 10 ∧ kindP x ≠ 10) ∨ (kindP p = 10 ∧ kindP x = 10 ∧ q.r ≠ 8205)) := by
            have : ¬ _ := fun h => hG (hglue.2 h)
            omega
          obtain ⟨g1, g2, g3 | ⟨g3, g4⟩ | ⟨g3, g4, g5⟩⟩ := hcs
          all_goals
            (try (refine st ?_; intros))
            exact WQ.join ⟨rfl, rfl, rfl, rfl⟩ zsb zpk
      · rw [List.drop_of_length_le (by omega), run_nil, Nat.zero_add] at hj
        subst hj
        (try (refine st ?_; intros))
        exact WQ.join ⟨rfl, rfl, rfl, rfl⟩ zsb zpk
    · rintro r ds m H ⟨rfl, rfl, rfl, rfl⟩
      obtain ⟨x, hx, hxm, hdx⟩ := hps (i + n) (by omega)
      have hgx : E[i + 1 + n - 1]? = _ := hgetE (i + 1 + n - 1) x (by rw [show i + 1 + n - 1 = i + n by omega]; exact hx)
      (try (refine st ?_; intros))
      refine WC.drawE 16 ([.row (some c0) cp 87 5 E]) (.row a cap 38 3 (done.map Cl.cs) :: H) rfl (by decide +kernel) zpk ?_
      (refine cm0 ?_)
      refine WE.act1 15 (by decide +kernel) rfl rfl (fun c h => by cases h) ?_
      (refine st ?_; intros; rename_i bc)
      refine WQ.acted (B := [.blk bc (.cells [.int .i64 0, .int .i64 0, .int .i64 0].toArray 38 (0, 0))]) (U := .row a cap 38 3 (done.map Cl.cs) :: H) rfl (Mem.le.refl _) zpk ?_
      refine WE.done (by decide +kernel) ?_
      (try (refine st ?_; intros))
      refine WC.loopH [(5, .int .i64 ((i + (0) : Nat) : Int)), (6, .int .i64 ((i + 1 + n : Nat) : Int)), (8, .pointer (some ⟨bc, 0, none⟩)), (3, .slice (some c0) (pieces l).length cp), (4, .slice a done.length cap), (0, str l)] ?_ ?_ (fun j r ds m' H' => ∃ (u : Nat) (cm : Nat), j = n + 1 - u ∧ r = [(5, .int .i64 ((i + u : Nat) : Int)), (6, .int .i64 ((i + 1 + n : Nat) : Int)), (8, .pointer (some ⟨bc, 0, none⟩)), (3, .slice (some c0) (pieces l).length cp), (4, .slice a done.length cap), (0, str l)] ∧ ds = [] ∧ m = m' ∧ H' = .blk bc (.cells [.int .i64 (p.at_ : Int), .int .i64 ((x.at_ + x.w : Nat) : Int), .int .i64 (cm : Int)].toArray 38 (0, 0)) :: .row a cap 38 3 (done.map Cl.cs) :: .row (some c0) cp 87 5 E :: H ∧ (u ≤ n + 1) ∧ (cm = maxC (((pieces l).drop i).take u))) (n + 1 - (0)) ⟨0, 0, rfl, rfl, rfl, rfl, rfl, by omega, by rw [List.take_zero]; unfold maxC; rfl⟩ ?_
      · (repeat (first | exact Env.Sub.nil | refine Env.Sub.cons rfl ?_))
      · exact zpk
      rintro j r ds m' H' ⟨u, cm, rfl, rfl, rfl, rfl, rfl, hu, hcm⟩
      by_cases hun : u < n + 1
      · obtain ⟨y, hy, hym, hdy⟩ := hps (i + u) (by omega)
        have hgy := hgetE _ y hy
        have hmx : max (cm : Int) (colP y : Int) = (maxC (((pieces l).drop i).take (u + 1)) : Int) := by
          have hul : u < ((pieces l).drop i).length := by rw [List.length_drop]; omega
          have hyu : ((pieces l).drop i)[u] = y := by
            have h1 : ((pieces l).drop i)[u]? = some y := by rw [List.getElem?_drop]; exact hy
            rw [List.getElem?_eq_getElem hul] at h1; exact Option.some.inj h1
          rw [List.take_succ_eq_append_getElem hul, hyu, maxC_snoc, ← hcm]; omega
        (try (refine st ?_; intros))
        rw [hmx]
        refine WQ.next (n + 1 - (u + 1)) ⟨u + 1, maxC (((pieces l).drop i).take (u + 1)), rfl, rfl, rfl, rfl, rfl, ?_, ?_⟩ (by omega) zsb zpk
        · omega
        · rfl
      · obtain rfl : u = n + 1 := by omega
        subst hcm
        have hC := ext_made hp hx
        have hco : clGo none (p :: (pieces l).drop (i + 1)) = _ := clGo_cons p ((pieces l).drop (i + 1))
        rw [hn, hC, List.drop_drop, ← hdr] at hco
        rw [hco] at hcl
        (refine st ?_; intros; rename_i b9 a2 cap2)
        obtain ⟨C, hCe⟩ : ∃ C : Cl, (⟨p.at_, x.at_ + x.w, maxC (((pieces l).drop i).take (n + 1))⟩ : Cl) = C := ⟨_, rfl⟩
        rw [hCe] at hcl
        have hcs : done.map Cl.cs ++ [[Value.int .i64 (p.at_ : Int), .int .i64 ((x.at_ + x.w : Nat) : Int), .int .i64 (maxC (((pieces l).drop i).take (n + 1)) : Int)]] = (done ++ [C]).map Cl.cs := by
          rw [List.map_append, ← hCe]; rfl
        rw [hdl, hcs, show done.length + 1 = (done ++ [C]).length by simp]
        refine WQ.next ((pieces l).length - (i + (n + 1))) ⟨i + (n + 1), a2, cap2, done ++ [C], rfl, rfl, rfl, rfl, rfl, ?_, ?_⟩ (by omega) zsb zpk
        · rw [hcl, show i + (n + 1) = i + 1 + n by omega]; simp
        · omega
  · obtain rfl : i = (pieces l).length := by omega
    rw [List.drop_length, show clGo none [] = [] by unfold clGo; rfl, List.append_nil] at hcl
    (try (refine st ?_; intros))
    exact q_fin0 (H0 := .row a cap 38 3 ((clusters l).map Cl.cs) :: H) ⟨rfl, a, cap, by unfold clusters; rw [hcl], rfl⟩ (hd := by unfold clusters; rw [hcl]; exact zpk)
end Go.Proofs.Ytpghpbknjdnkkaa

/-
  Plain facts: what the reference finds among clusters is what the program finds. No condition.
-/
namespace Go.Eng
open Go
def at2 (L : List Cl) (k : Int) : Option Cl := L.find? fun c => decide ((c.a : Int) ≤ k ∧ k < (c.z : Int))
theorem at2_neg {k : Int} (hk : k < 0) : ∀ L : List Cl, at2 L k = none
  | [] => rfl
  | c :: cs => by
    have : at2 (c :: cs) k = at2 cs k := by unfold at2; rw [List.find?_cons, decide_eq_false (by omega)]
    rw [this, at2_neg hk cs]
theorem at2_eq {k : Int} : ∀ {s n : Nat} {L : List Cl}, Ch s L n → (s : Int) ≤ k → at2 L k = atC L k
  | _, _, [], _, _ => rfl
  | s, n, c :: cs, h, hs => by
    obtain ⟨h1, h2, h3, h4⟩ := h
    unfold at2 atC
    rw [List.find?_cons, List.find?_cons]
    by_cases hz : k < (c.z : Int)
    · rw [decide_eq_true (show ((c.a : Int) ≤ k ∧ k < (c.z : Int)) by omega), decide_eq_true hz]
    · rw [decide_eq_false (show ¬ ((c.a : Int) ≤ k ∧ k < (c.z : Int)) by omega), decide_eq_false hz]
      exact at2_eq h4 (by omega)
theorem at2_r {n : Nat} {L : List Cl} (h : Ch 0 L n) (k : Int) : at2 L k = atR L k := by
  unfold atR
  by_cases hk : k < 0
  · rw [if_pos hk]; exact at2_neg hk L
  · rw [if_neg hk]; exact at2_eq h (by omega)
def edge2 (L : List Cl) (k : Int) (n : Nat) : Prop := (∃ c ∈ L, (c.a : Int) = k) ∨ k = (n : Int)
theorem edge2_r {k : Int} : ∀ {s n : Nat} {L : List Cl}, Ch s L n → (edge2 L k n ↔ edgeR L k n)
  | s, n, [], h => by unfold edge2 edgeR edgeC; simp
  | s, n, c :: cs, h => by
    obtain ⟨h1, h2, h3, h4⟩ := h
    have ih := edge2_r (k := k) h4
    unfold edgeR edgeC at ih ⊢
    rw [List.find?_cons]
    by_cases hk : k ≤ (c.a : Int)
    · rw [decide_eq_true hk]
      constructor
      · rintro (⟨x, hx, hxk⟩ | h)
        · rcases List.mem_cons.1 hx with rfl | hx
          · exact hxk
          · have := ch_mem h4 hx; omega
        · have := ch_le h4; omega
      · intro h; exact .inl ⟨c, List.mem_cons_self, h⟩
    · rw [decide_eq_false hk]
      refine Iff.trans ?_ ih
      constructor
      · rintro (⟨x, hx, hxk⟩ | h)
        · rcases List.mem_cons.1 hx with rfl | hx
          · omega
          · exact .inl ⟨x, hx, hxk⟩
        · exact .inr h
      · rintro (⟨x, hx, hxk⟩ | h)
        · exact .inl ⟨x, List.mem_cons_of_mem _ hx, hxk⟩
        · exact .inr h
def under2 : List Cl → Nat → Int → Option Cl
  | [], _, _ => none
  | c :: cs, n, k => if (n : Int) ≤ k ∧ k < ((n + c.c : Nat) : Int) then some c else under2 cs (n + c.c) k
theorem under2_neg {k : Int} (hk : k < 0) : ∀ (L : List Cl) (n : Nat), under2 L n k = none
  | [], _ => rfl
  | c :: cs, n => by unfold under2; rw [if_neg (by omega)]; exact under2_neg hk cs _
theorem under2_eq {k : Int} : ∀ (L : List Cl) (n : Nat), (n : Int) ≤ k → under2 L n k = underC L n k
  | [], _, _ => rfl
  | c :: cs, n, h => by
    unfold under2 underC
    by_cases hz : k < ((n + c.c : Nat) : Int)
    · rw [if_pos ⟨h, hz⟩, if_pos hz]
    · rw [if_neg (fun g => hz g.2), if_neg hz]; exact under2_eq cs _ (by omega)
theorem under2_r (L : List Cl) (k : Int) : under2 L 0 k = underR L k := by
  unfold underR
  by_cases hk : k < 0
  · rw [if_pos hk]; exact under2_neg hk L 0
  · rw [if_neg hk]; exact under2_eq L 0 (by omega)
def atV2 : Option Cl → Value
  | some c => .tuple #[c.v, .bool true]
  | none => .tuple #[(⟨0, 0, 0⟩ : Cl).v, .bool false]
/-- the texts of clusters, from the last one on -/
def clT (l : List UInt8) (c : Cl) : List UInt8 := (l.take c.z).drop c.a
def revT (l : List UInt8) : List UInt8 := (clusters l).reverse.flatMap (clT l)
theorem sum_take {l : List UInt8} (i : Nat) : sumC ((clusters l).take i) ≤ 2 * l.length := (sum_pre (post := (clusters l).drop i) (List.take_append_drop i _).symm).1
theorem take_step {L : List Cl} {i : Nat} {c : Cl} (h : L[i]? = some c) : L.take (i + 1) = L.take i ++ [c] ∧ L.drop i = c :: L.drop (i + 1) := by
  obtain ⟨hi, he⟩ := List.getElem?_eq_some_iff.1 h
  exact ⟨by rw [List.take_succ_eq_append_getElem hi, he], by rw [List.drop_eq_getElem_cons hi, he]⟩
end Go.Eng

/-
  The walks of the reference's At, Edge, Columns, Under, Cut. No condition.
-/
namespace Go.Proofs.Ytpghpbknjdnkkaa
open Go Go.Eng
set_option maxRecDepth 100000
set_option maxHeartbeats 4000000
set_option linter.all false
attribute [local irreducible] WL WC WQ QFun QLoop Does Q1 QRound QAssign Go.Addr.add
attribute [local irreducible] clusters
theorem refAt_any (l : List UInt8) (hl : l.length ≤ 4194304) (k : Int) (w0 : World) (m : Mem) (H : SHeap) : Does Try.prog 34 #[str l, .int .i64 k] w0 m H (Gives (atV2 (atR (clusters l) k)) m H) := by
  refine Does.of_body (args := [str l, .int .i64 k]) Try.func34 rfl Try.ntmps34 rfl ?_
  rw [← at2_r (ch_all l)]
  have hcnt := clusters_len l
  have hel : ((clusters l).map Cl.cs).length = (clusters l).length := List.length_map _
  have hgetE : ∀ (u : Nat) (x : Cl), (clusters l)[u]? = some x → ((clusters l).map Cl.cs)[u]? = some [.int .i64 (x.a : Int), .int .i64 (x.z : Int), .int .i64 (x.c : Int)] := fun u x h => by rw [List.getElem?_map, h]; rfl
  (refine st ?_; intros; rename_i b4)
  refine w_callF Try.func29 ?_ (hs := cells5_any l hl _ _ _)
  rintro v m H1 ⟨rfl, a, cp, rfl, rfl⟩
  generalize hE : (clusters l).map Cl.cs = E at *
  (try (refine st ?_; intros))
  refine WC.loopH [(7, .int .i64 ((0) : Int)), (6, .slice a (clusters l).length cp), (4, .pointer (some ⟨b4, 0, none⟩)), (0, str l), (1, .int .i64 k)] ?_ ?_ (fun j r ds m' H' => ∃ (i : Nat), j = (clusters l).length - i ∧ r = [(7, .int .i64 (i : Int)), (6, .slice a (clusters l).length cp), (4, .pointer (some ⟨b4, 0, none⟩)), (0, str l), (1, .int .i64 k)] ∧ ds = [] ∧ m = m' ∧ H' = .row a cp 38 3 E :: .blk b4 (.cells [.int .i64 0, .int .i64 0, .int .i64 0].toArray 38 (0, 0)) :: H ∧ (i ≤ (clusters l).length) ∧ (at2 (clusters l) k = at2 ((clusters l).drop i) k)) ((clusters l).length - (0)) ⟨0, rfl, rfl, rfl, rfl, rfl, Nat.zero_le _, rfl⟩ ?_
  · (repeat (first | exact Env.Sub.nil | refine Env.Sub.cons rfl ?_))
  · exact zpk
  rintro j r ds m' H' ⟨i, rfl, rfl, rfl, rfl, rfl, hi, hf⟩
  by_cases hlt : i < (clusters l).length
  · obtain ⟨c, hc⟩ : ∃ c, (clusters l)[i]? = some c := ⟨_, List.getElem?_eq_getElem hlt⟩
    have hget := hgetE i c hc
    obtain ⟨ht, hd⟩ := take_step hc
    refine WC.rowSome (a := a) (es := E) zhs (by omega) ?_
    rintro a0 rfl
    rw [hd] at hf
    by_cases h1 : (c.a : Int) ≤ k
    · by_cases h2 : k < (c.z : Int)
      · have hr : at2 (clusters l) k = some c := by rw [hf]; unfold at2; rw [List.find?_cons, decide_eq_true (show ((c.a : Int) ≤ k ∧ k < (c.z : Int)) from ⟨h1, h2⟩)]
        rw [hr]
        (try (refine st ?_; intros))
        (refine q_fin0 ?_)
        exact Gives.mk rfl
      · (try (refine st ?_; intros))
        refine WQ.next ((clusters l).length - (i + 1)) ⟨i + 1, rfl, rfl, rfl, rfl, rfl, ?_, ?_⟩ (by omega) zsb zpk
        · omega
        · rw [hf]; unfold at2; rw [List.find?_cons, decide_eq_false (show ¬ ((c.a : Int) ≤ k ∧ k < (c.z : Int)) from fun h => h2 h.2)]
    · (try (refine st ?_; intros))
      refine WQ.next ((clusters l).length - (i + 1)) ⟨i + 1, rfl, rfl, rfl, rfl, rfl, ?_, ?_⟩ (by omega) zsb zpk
      · omega
      · rw [hf]; unfold at2; rw [List.find?_cons, decide_eq_false (show ¬ ((c.a : Int) ≤ k ∧ k < (c.z : Int)) from fun h => h1 h.1)]
  · rw [List.drop_of_length_le (by omega)] at hf
    rw [hf]
    (try (refine st ?_; intros))
    (refine q_fin0 ?_)
    exact Gives.mk rfl
theorem refEdge_any (l : List UInt8) (hl : l.length ≤ 4194304) (k : Int) (w0 : World) (m : Mem) (H : SHeap) : Does Try.prog 31 #[str l, .int .i64 k] w0 m H (Gives (.bool (dcd (edgeR (clusters l) k l.length))) m H) := by
  refine Does.of_body (args := [str l, .int .i64 k]) Try.func31 rfl Try.ntmps31 rfl ?_
  have her := edge2_r (k := k) (ch_all l)
  have hcnt := clusters_len l
  have hel : ((clusters l).map Cl.cs).length = (clusters l).length := List.length_map _
  have hgetE : ∀ (u : Nat) (x : Cl), (clusters l)[u]? = some x → ((clusters l).map Cl.cs)[u]? = some [.int .i64 (x.a : Int), .int .i64 (x.z : Int), .int .i64 (x.c : Int)] := fun u x h => by rw [List.getElem?_map, h]; rfl
  (try (refine st ?_; intros))
  refine w_callF Try.func29 ?_ (hs := cells5_any l hl _ _ _)
  rintro v m H1 ⟨rfl, a, cp, rfl, rfl⟩
  generalize hE : (clusters l).map Cl.cs = E at *
  (try (refine st ?_; intros))
  refine WC.loopH [(6, .int .i64 ((0) : Int)), (5, .slice a (clusters l).length cp), (0, str l), (1, .int .i64 k)] ?_ ?_ (fun j r ds m' H' => ∃ (i : Nat), j = (clusters l).length - i ∧ r = [(6, .int .i64 (i : Int)), (5, .slice a (clusters l).length cp), (0, str l), (1, .int .i64 k)] ∧ ds = [] ∧ m = m' ∧ H' = .row a cp 38 3 E :: H ∧ (i ≤ (clusters l).length) ∧ (∀ c ∈ (clusters l).take i, (c.a : Int) ≠ k)) ((clusters l).length - (0)) ⟨0, rfl, rfl, rfl, rfl, rfl, Nat.zero_le _, by simp⟩ ?_
  · (repeat (first | exact Env.Sub.nil | refine Env.Sub.cons rfl ?_))
  · exact zpk
  rintro j r ds m' H' ⟨i, rfl, rfl, rfl, rfl, rfl, hi, hf⟩
  by_cases hlt : i < (clusters l).length
  · obtain ⟨c, hc⟩ : ∃ c, (clusters l)[i]? = some c := ⟨_, List.getElem?_eq_getElem hlt⟩
    have hget := hgetE i c hc
    obtain ⟨ht, hd⟩ := take_step hc
    refine WC.rowSome (a := a) (es := E) zhs (by omega) ?_
    rintro a0 rfl
    by_cases h1 : (c.a : Int) = k
    · have hr : edgeR (clusters l) k l.length := her.1 (.inl ⟨c, List.mem_of_getElem? hc, h1⟩)
      (try (refine st ?_; intros))
      (refine q_fin0 ?_)
      exact Gives.mk (congrArg _ (tru_iff hr))
    · (try (refine st ?_; intros))
      refine WQ.next ((clusters l).length - (i + 1)) ⟨i + 1, rfl, rfl, rfl, rfl, rfl, ?_, ?_⟩ (by omega) zsb zpk
      · omega
      · intro x hx
        rw [ht] at hx
        rcases List.mem_append.1 hx with hx | hx
        · exact hf x hx
        · rw [List.mem_singleton.1 hx]; exact h1
  · rw [List.take_of_length_le (by omega)] at hf
    (try (refine st ?_; intros))
    (refine q_fin0 ?_)
    refine Gives.mk (congrArg _ (dcd_cong ?_))
    rw [← her]
    exact ⟨.inr, fun h => h.resolve_left (fun ⟨c, h1, h2⟩ => hf c h1 h2)⟩
theorem refColumns_any (l : List UInt8) (hl : l.length ≤ 4194304) (w0 : World) (m : Mem) (H : SHeap) : Does Try.prog 30 #[str l] w0 m H (Gives (.int .i64 (sumC (clusters l) : Int)) m H) := by
  refine Does.of_body (args := [str l]) Try.func30 rfl Try.ntmps30 rfl ?_
  have hcnt := clusters_len l
  have hel : ((clusters l).map Cl.cs).length = (clusters l).length := List.length_map _
  have hgetE : ∀ (u : Nat) (x : Cl), (clusters l)[u]? = some x → ((clusters l).map Cl.cs)[u]? = some [.int .i64 (x.a : Int), .int .i64 (x.z : Int), .int .i64 (x.c : Int)] := fun u x h => by rw [List.getElem?_map, h]; rfl
  (try (refine st ?_; intros))
  refine w_callF Try.func29 ?_ (hs := cells5_any l hl _ _ _)
  rintro v m H1 ⟨rfl, a, cp, rfl, rfl⟩
  generalize hE : (clusters l).map Cl.cs = E at *
  (try (refine st ?_; intros))
  refine WC.loopH [(5, .int .i64 ((0) : Int)), (4, .int .i64 ((0) : Int)), (3, .slice a (clusters l).length cp)] ?_ ?_ (fun j r ds m' H' => ∃ (i : Nat) (s : Nat), j = (clusters l).length - i ∧ r = [(5, .int .i64 (i : Int)), (4, .int .i64 (s : Int)), (3, .slice a (clusters l).length cp)] ∧ ds = [] ∧ m = m' ∧ H' = .row a cp 38 3 E :: H ∧ (i ≤ (clusters l).length) ∧ (s = sumC ((clusters l).take i))) ((clusters l).length - (0)) ⟨0, 0, rfl, rfl, rfl, rfl, rfl, Nat.zero_le _, rfl⟩ ?_
  · (repeat (first | exact Env.Sub.nil | refine Env.Sub.cons rfl ?_))
  · exact zpk
  rintro j r ds m' H' ⟨i, s, rfl, rfl, rfl, rfl, rfl, hi, hs⟩
  by_cases hlt : i < (clusters l).length
  · obtain ⟨c, hc⟩ : ∃ c, (clusters l)[i]? = some c := ⟨_, List.getElem?_eq_getElem hlt⟩
    have hget := hgetE i c hc
    obtain ⟨ht, hd⟩ := take_step hc
    have hs2 : s + c.c = sumC ((clusters l).take (i + 1)) := by rw [ht, sumC_snoc, hs]
    have hs3 := sum_take (l := l) (i + 1)
    refine WC.rowSome (a := a) (es := E) zhs (by omega) ?_
    rintro a0 rfl
    (try (refine st ?_; intros))
    refine WQ.next ((clusters l).length - (i + 1)) ⟨i + 1, s + c.c, rfl, rfl, rfl, rfl, rfl, ?_, ?_⟩ (by omega) zsb zpk
    · omega
    · exact hs2
  · rw [List.take_of_length_le (by omega)] at hs
    (try (refine st ?_; intros))
    (refine q_fin0 ?_)
    exact Gives.mk (by rw [hs])
theorem refUnder_any (l : List UInt8) (hl : l.length ≤ 4194304) (k : Int) (w0 : World) (m : Mem) (H : SHeap) : Does Try.prog 35 #[str l, .int .i64 k] w0 m H (Gives (atV2 (underR (clusters l) k)) m H) := by
  refine Does.of_body (args := [str l, .int .i64 k]) Try.func35 rfl Try.ntmps35 rfl ?_
  rw [← under2_r]
  have hcnt := clusters_len l
  have hel : ((clusters l).map Cl.cs).length = (clusters l).length := List.length_map _
  have hgetE : ∀ (u : Nat) (x : Cl), (clusters l)[u]? = some x → ((clusters l).map Cl.cs)[u]? = some [.int .i64 (x.a : Int), .int .i64 (x.z : Int), .int .i64 (x.c : Int)] := fun u x h => by rw [List.getElem?_map, h]; rfl
  (refine st ?_; intros; rename_i b4)
  refine w_callF Try.func29 ?_ (hs := cells5_any l hl _ _ _)
  rintro v m H1 ⟨rfl, a, cp, rfl, rfl⟩
  generalize hE : (clusters l).map Cl.cs = E at *
  (try (refine st ?_; intros))
  refine WC.loopH [(8, .int .i64 ((0) : Int)), (7, .int .i64 ((0) : Int)), (6, .slice a (clusters l).length cp), (4, .pointer (some ⟨b4, 0, none⟩)), (1, .int .i64 k)] ?_ ?_ (fun j r ds m' H' => ∃ (i : Nat) (s : Nat), j = (clusters l).length - i ∧ r = [(8, .int .i64 (i : Int)), (7, .int .i64 (s : Int)), (6, .slice a (clusters l).length cp), (4, .pointer (some ⟨b4, 0, none⟩)), (1, .int .i64 k)] ∧ ds = [] ∧ m = m' ∧ H' = .row a cp 38 3 E :: .blk b4 (.cells [.int .i64 0, .int .i64 0, .int .i64 0].toArray 38 (0, 0)) :: H ∧ (i ≤ (clusters l).length) ∧ (s = sumC ((clusters l).take i)) ∧ (under2 (clusters l) 0 k = under2 ((clusters l).drop i) s k)) ((clusters l).length - (0)) ⟨0, 0, rfl, rfl, rfl, rfl, rfl, Nat.zero_le _, rfl, rfl⟩ ?_
  · (repeat (first | exact Env.Sub.nil | refine Env.Sub.cons rfl ?_))
  · exact zpk
  rintro j r ds m' H' ⟨i, s, rfl, rfl, rfl, rfl, rfl, hi, hs, hf⟩
  by_cases hlt : i < (clusters l).length
  · obtain ⟨c, hc⟩ : ∃ c, (clusters l)[i]? = some c := ⟨_, List.getElem?_eq_getElem hlt⟩
    have hget := hgetE i c hc
    obtain ⟨ht, hd⟩ := take_step hc
    have hs2 : s + c.c = sumC ((clusters l).take (i + 1)) := by rw [ht, sumC_snoc, hs]
    have hs3 := sum_take (l := l) (i + 1)
    have hadd : (s : Int) + (c.c : Int) = ((s + c.c : Nat) : Int) := by omega
    refine WC.rowSome (a := a) (es := E) zhs (by omega) ?_
    rintro a0 rfl
    rw [hd] at hf
    have hon : ¬ ((s : Int) ≤ k ∧ k < ((s + c.c : Nat) : Int)) → under2 (clusters l) 0 k = under2 ((clusters l).drop (i + 1)) (s + c.c) k := fun h => by
      rw [hf]; exact if_neg h
    by_cases h1 : (s : Int) ≤ k
    · by_cases h2 : k < ((s + c.c : Nat) : Int)
      · have hr : under2 (clusters l) 0 k = some c := by rw [hf]; exact if_pos ⟨h1, h2⟩
        rw [hr]
        (try (refine st ?_; intros))
        (refine q_fin0 ?_)
        exact Gives.mk rfl
      · (try (refine st ?_; intros))
        refine WQ.next ((clusters l).length - (i + 1)) ⟨i + 1, s + c.c, rfl, rfl, rfl, rfl, rfl, ?_, ?_, ?_⟩ (by omega) zsb zpk
        · omega
        · exact hs2
        · exact hon (fun h => h2 h.2)
    · (try (refine st ?_; intros))
      refine WQ.next ((clusters l).length - (i + 1)) ⟨i + 1, s + c.c, rfl, rfl, rfl, rfl, rfl, ?_, ?_, ?_⟩ (by omega) zsb zpk
      · omega
      · exact hs2
      · exact hon (fun h => h1 h.1)
  · rw [List.drop_of_length_le (by omega)] at hf
    rw [hf]
    (try (refine st ?_; intros))
    (refine q_fin0 ?_)
    exact Gives.mk rfl
end Go.Proofs.Ytpghpbknjdnkkaa

/-
  The walks of cluster.Pad and of the reference's Pad. No condition.
-/
namespace Go.Eng
open Go
def blanks (k : Nat) : List UInt8 := List.replicate k 32
theorem blanks_length (k : Nat) : (blanks k).length = k := List.length_replicate
/-- how many blanks stand ahead -/
def aheadOf (side lack : Int) : Nat := if side = 2 then lack.toNat else if side = 3 then (lack / 2).toNat else 0
/-- what is padded -/
def padT (l : List UInt8) (k side : Int) : List UInt8 := blanks (aheadOf side (k - ((cutL l k).1 : Int))) ++ l.take (cutL l k).2 ++ blanks ((k - ((cutL l k).1 : Int)).toNat - aheadOf side (k - ((cutL l k).1 : Int)))
def padV (l : List UInt8) (k side : Int) : Value := if side < 1 ∨ 3 < side ∨ k < 0 then .tuple #[str [], .int .i64 2] else if 65536 < k then .tuple #[str [], .int .i64 3] else .tuple #[str (padT l k side), .int .i64 0]
end Go.Eng
namespace Go.Proofs.Ytpghpbknjdnkkaa
open Go Go.Eng
set_option maxRecDepth 100000
set_option maxHeartbeats 4000000
set_option linter.all false
attribute [local irreducible] WL WC WQ QFun QLoop Does Q1 QRound QAssign Go.Addr.add
attribute [local irreducible] clusters cutL
theorem padAdd_any {b cap : Nat} {ao a : Option Addr} {t : List UInt8} (hao : ao = none ∨ ao = some ⟨b, 0, none⟩) (hc : a = none ∨ 0 < cap) (k : Nat) (hk : k ≤ 65536) (hl : t.length ≤ 8388608) (w0 : World) (m : Mem) (H : SHeap) :
    Does Try.prog 39 #[.int .i64 (k : Int), .pointer (some ⟨b, 0, none⟩)] w0 m (.blk b (.cells [.pointer ao, .slice a t.length cap].toArray 51 (0, 0)) :: .row a cap 5 1 (bCs t) :: H) (fun v m' H' => m' = m ∧ Bldr b (t ++ blanks k) H H') := by
  refine Does.of_body (args := [.int .i64 (k : Int), .pointer (some ⟨b, 0, none⟩)]) Try.func39 rfl Try.ntmps39 rfl ?_
  (try (refine st ?_; intros))
  refine w_callF Try.func41 ?_ (hs := repeat_any (s := [32]) (c := k) (by simp; omega) (by omega) _ _ _)
  rintro v m H1 ⟨rfl, rfl, rfl⟩
  rw [repeat_blank]
  (try (refine st ?_; intros))
  refine w_callF Try.func40 ?_ (hs := writeString_any hao hc (by unfold FitsB; rw [List.length_replicate]; omega) _ _ _)
  rintro v m H1 ⟨rfl, rfl, hB⟩
  (try (refine st ?_; intros))
  exact q_finNorm0 (H0 := H1) ⟨rfl, hB⟩ (hd := fun w h => h)
theorem pad_any (l : List UInt8) (hl : l.length ≤ 4194304) (k side : Int) (w0 : World) (m : Mem) (H : SHeap) : Does Try.prog 14 #[str l, .int .i64 k, .int .i64 side] w0 m H (Tells (padV l k side) m H) := by
  refine Does.of_body (args := [str l, .int .i64 k, .int .i64 side]) Try.func14 rfl Try.ntmps14 rfl ?_
  have hcl := cutL_le l k
  unfold padV
  by_cases h1 : side < 1 ∨ 3 < side ∨ k < 0
  · rw [if_pos h1]
    have h1' : side < 1 ∨ (¬ side < 1 ∧ 3 < side) ∨ (¬ side < 1 ∧ ¬ 3 < side ∧ k < 0) := by omega
    rcases h1' with h | ⟨h, g⟩ | ⟨h, g, f⟩
    all_goals
      (try (refine st ?_; intros))
      (refine q_fin0 ?_)
      exact Tells.mk (Mem.le.refl _) rfl
  rw [if_neg h1]
  by_cases h2 : 65536 < k
  · rw [if_pos h2]
    (try (refine st ?_; intros))
    (refine q_fin0 ?_)
    exact Tells.mk (Mem.le.refl _) rfl
  rw [if_neg h2]
  (try (refine st ?_; intros))
  refine w_callF Try.func12 ?_ (hs := cut_any l hl k _ _ _)
  rintro v m1 H1 ⟨hle1, rfl, rfl⟩
  obtain ⟨lack, hlack⟩ : ∃ lack : Nat, (k - ((cutL l k).1 : Int)) = (lack : Int) := ⟨(k - ((cutL l k).1 : Int)).toNat, by omega⟩
  have hpad : padT l k side = blanks (aheadOf side lack) ++ l.take (cutL l k).2 ++ blanks (lack - aheadOf side lack) := by unfold padT; rw [hlack]; rfl
  rw [hpad]
  have htl : (l.take (cutL l k).2).length = (cutL l k).2 := by rw [List.length_take]; omega
  generalize hT : l.take (cutL l k).2 = T at *
  generalize (cutL l k).1 = cn at *
  have hlk : lack ≤ 65536 := by omega
  have hah : aheadOf side lack ≤ lack := by unfold aheadOf; split <;> (try split) <;> omega
  (refine st ?_; intros; rename_i b)
  rw [hlack]
  refine WC.join (fun r' ds' m' H' => ∃ A : Nat, A = aheadOf side lack ∧ r' = [(14, .int .i64 (A : Int)), (13, .int .i64 (lack : Int)), (12, .func (.func 39) #[] #[.pointer (some ⟨b, 0, none⟩)]), (11, .pointer (some ⟨b, 0, none⟩)), (8, str T)] ∧ ds' = [] ∧ m' = m1 ∧ H' = .blk b (.cells [.pointer none, .slice none 0 0].toArray 51 (0, 0)) :: H1) ?_ ?_
  · by_cases g2 : side = 2
    · (try (refine st ?_; intros))
      exact WQ.join ⟨lack, by unfold aheadOf; rw [if_pos g2]; omega, rfl, rfl, rfl, rfl⟩ zsb zpk
    · by_cases g3 : side = 3
      · (try (refine st ?_; intros))
        exact WQ.join ⟨lack / 2, by unfold aheadOf; rw [if_neg g2, if_pos g3]; omega, by rw [show ((lack / 2 : Nat) : Int) = (lack : Int) / 2 by omega], rfl, rfl, rfl⟩ zsb zpk
      · (try (refine st ?_; intros))
        exact WQ.join ⟨0, by unfold aheadOf; rw [if_neg g2, if_neg g3], rfl, rfl, rfl, rfl⟩ zsb zpk
  rintro r ds m1 H1 ⟨A, hA, rfl, rfl, rfl, rfl⟩
  rw [← hA] at hah ⊢
  (try (refine st ?_; intros))
  refine WL.newRow (T := 5) (sz := 1) ?_
  refine WL.heap (H' := .blk b (.cells [.pointer none, .slice none ([] : List UInt8).length 0].toArray 51 (0, 0)) :: .row none 0 5 1 (bCs []) :: H1) zpk ?_
  refine WL.callV rfl Try.func39 rfl rfl (by exact rfl) (by exact rfl) (padAdd_any (t := []) (.inl rfl) (.inl rfl) A (by omega) (by simp) _ _ _) ?_
  rintro v m9 H9 ⟨rfl, ao, a, cap, hao, hc, rfl⟩
  rw [List.nil_append]
  have hbA := blanks_length A
  (try (refine st ?_; intros))
  refine w_callF Try.func40 ?_ (hs := writeString_any hao hc (by unfold FitsB; omega) _ _ _)
  rintro v m9 H9 ⟨rfl, rfl, ao, a, cap, hao, hc, rfl⟩
  have hlx : (blanks A ++ T).length = A + T.length := by rw [List.length_append, hbA]
  have hsub : (lack : Int) - (A : Int) = ((lack - A : Nat) : Int) := by omega
  (try (refine st ?_; intros))
  rw [hsub]
  refine WL.callV rfl Try.func39 rfl rfl (by exact rfl) (by exact rfl) (padAdd_any (t := blanks A ++ T) hao hc (lack - A) (by omega) (by omega) _ _ _) ?_
  rintro v m9 H9 ⟨rfl, ao, a, cap, hao, hc, rfl⟩
  have hly : (blanks A ++ T ++ blanks (lack - A)).length = A + T.length + (lack - A) := by rw [List.length_append, hlx, blanks_length]
  (try (refine st ?_; intros))
  refine w_callF Try.func25 ?_ (hs := bString_any hc (by omega) _ _ _)
  rintro v m9 H9 ⟨rfl, rfl, rfl⟩
  (try (refine st ?_; intros))
  exact q_fin0 (Tells.mk hle1 rfl) (hd := fun w h => h)
end Go.Proofs.Ytpghpbknjdnkkaa

/-
  Plain facts on the texts of clusters. No condition.
-/
namespace Go.Eng
open Go
theorem clT_len {l : List UInt8} {c : Cl} (h : c.z ≤ l.length) : (clT l c).length = c.z - c.a := by
  unfold clT; rw [List.length_drop, List.length_take]; omega
theorem ch_texts (l : List UInt8) : ∀ {k n : Nat} {L : List Cl}, Ch k L n → n ≤ l.length → L.flatMap (clT l) = (l.take n).drop k
  | k, n, [], h, hn => by
    have e : k = n := h
    subst e
    rw [List.drop_of_length_le (by rw [List.length_take]; omega)]; rfl
  | k, n, c :: cs, h, hn => by
    obtain ⟨h1, h2, h3, h4⟩ := h
    have h5 := ch_le h4
    have h6 : c.z ≤ n := by omega
    rw [List.flatMap_cons, ch_texts l h4 hn]
    subst h1
    have e : clT l c = ((l.take n).drop c.a).take (c.z - c.a) := by
      unfold clT
      rw [← List.drop_take, List.take_take, Nat.min_eq_left h6]
    have e2 : (l.take n).drop c.z = ((l.take n).drop c.a).drop (c.z - c.a) := by rw [List.drop_drop]; congr 1; omega
    rw [e, e2, List.take_append_drop]
theorem clusters_texts (l : List UInt8) : (clusters l).flatMap (clT l) = l := by
  rw [ch_texts l (ch_all l) (Nat.le_refl _), List.take_length, List.drop_zero]
theorem rev_len {l : List UInt8} {pre post : List Cl} (h : (clusters l).reverse = pre ++ post) : (pre.flatMap (clT l)).length ≤ l.length := by
  have h1 := congrArg List.length (clusters_texts l)
  have h2 : clusters l = post.reverse ++ pre.reverse := by rw [← List.reverse_reverse (clusters l), h, List.reverse_append]
  have h3 : (pre.reverse.flatMap (clT l)).length = (pre.flatMap (clT l)).length := by simp [List.length_flatMap, List.sum_reverse]
  rw [h2, List.flatMap_append, List.length_append, h3] at h1
  omega
end Go.Eng

/-
  The walks of cluster.Reverse and of the reference's Reverse. No condition.
-/
namespace Go.Proofs.Ytpghpbknjdnkkaa
open Go Go.Eng
set_option maxRecDepth 100000
set_option maxHeartbeats 4000000
set_option linter.all false
attribute [local irreducible] WL WC WQ QFun QLoop Does Q1 QRound QAssign Go.Addr.add
attribute [local irreducible] clusters clT
theorem reverse_any (l : List UInt8) (hl : l.length ≤ 4194304) (w0 : World) (m : Mem) (H : SHeap) : Does Try.prog 28 #[str l] w0 m H (Tells (str (revT l)) m H) := by
  refine Does.of_body (args := [str l]) Try.func28 rfl Try.ntmps28 rfl ?_
  (refine st ?_; intros; rename_i b1 b3)
  refine w_callF Try.func33 ?_ (hs := backC_any _ _ _ _)
  rintro v m H ⟨b, rfl, rfl, rfl⟩
  (try (refine st ?_; intros))
  refine WC.persist (b := b) (by (repeat (first | exact Out.here | apply Out.there))) ?_
  intro m1 hle1 hb
  refine WC.newRow (T := 5) (sz := 1) ?_
  refine WC.heap (H' := .blk b3 (.cells [.pointer none, .slice none 0 0].toArray 51 (0, 0)) :: .row none 0 5 1 (bCs []) :: .blk b1 (.cells [str l].toArray 9 (0, 0)) :: H) zpk ?_
  refine WC.rangeFuncM (encs := fun c : Cl => [c.v]) (xs := (clusters l).reverse) (Cap := TextAt b l) (lb := [.pointer (some ⟨b, 0, none⟩)]) (ps := [7])
    (J := fun pre m' Hl => m.le m' ∧ Bldr b3 (pre.flatMap (clT l)) [.blk b1 (.cells [str l].toArray 9 (0, 0))] Hl) (Jx := fun _ _ _ _ => False)
    rfl Try.func53 rfl rfl (backC_seq l hl b) hb (fun _ => rfl) rfl (fun _ _ _ _ h hm => ⟨h.1.trans hm, h.2⟩) (fun _ _ _ _ _ h _ => h) (Hl0 := [_, _, _]) (.cons (.cons (.cons .nil))) ?_ ?_ ?_ ?_
  · exact ⟨hle1, none, none, 0, .inl rfl, .inl rfl, rfl⟩
  · rintro lp pre c post hx m2 Hl ⟨hle2, ao, a, cap, hao, hc, rfl⟩ hm2 Hfr hfr
    have hcm := ch_mem (ch_all l) (c := c) (by rw [← List.mem_reverse, hx]; simp)
    have hct := clT_len (l := l) (c := c) hcm.2.2.1
    have hpl := rev_len hx
    (refine st ?_; intros; rename_i bp)
    refine WQ.assigned (.cons (.cons (.cons (.cons .nil)))) (Mem.le.refl _) ?_
    intro Hfr2
    (try (refine st ?_; intros))
    rw [show (l.take c.z).drop c.a = clT l c by unfold clT; rfl]
    refine WL.heap (H' := .blk b3 (.cells [.pointer ao, .slice a (pre.flatMap (clT l)).length cap].toArray 51 (0, 0)) :: .row a cap 5 1 (bCs (pre.flatMap (clT l))) :: .blk bp (.cells [.int .i64 (c.a : Int), .int .i64 (c.z : Int), .int .i64 (c.c : Int)].toArray 38 (0, 0)) :: .blk b1 (.cells [str l].toArray 9 (0, 0)) :: Hfr2) zpk ?_
    refine w_callF Try.func40 ?_ (hs := writeString_any hao hc (by unfold FitsB; omega) _ _ _)
    rintro v m2 H9 ⟨rfl, rfl, ao2, a2, cap2, hao2, hc2, rfl⟩
    rw [show pre.flatMap (clT l) ++ clT l c = (pre ++ [c]).flatMap (clT l) by simp]
    (try (refine st ?_; intros))
    exact WQ.roundOn (Hl := [_, _, .blk b1 _]) zpk (Mem.le.refl _) ⟨hle2, ao2, a2, cap2, hao2, hc2, rfl⟩
  · rintro D m2 Hl ⟨hle2, ao, a, cap, hao, hc, rfl⟩ hm2
    have hpl := rev_len (l := l) (pre := (clusters l).reverse) (post := []) (by simp)
    (try (refine st ?_; intros))
    refine w_callF Try.func25 ?_ (hs := bString_any hc (by omega) _ _ _)
    rintro v m9 H9 ⟨rfl, rfl, rfl⟩
    (try (refine st ?_; intros))
    refine WQ.mark (H1 := [_] ++ H) (List.perm_middle (l₁ := [_])) ?_
    exact q_fin0 (H0 := H) (Tells.mk hle2 rfl) (hd := zpk)
  · intro D cd pre m2 Hl _ h
    exact h.elim
theorem refReverse_any (l : List UInt8) (hl : l.length ≤ 4194304) (w0 : World) (m : Mem) (H : SHeap) : Does Try.prog 32 #[str l] w0 m H (Gives (str (revT l)) m H) := by
  refine Does.of_body (args := [str l]) Try.func32 rfl Try.ntmps32 rfl ?_
  have hcnt := clusters_len l
  have hel : ((clusters l).map Cl.cs).length = (clusters l).length := List.length_map _
  have hgetE : ∀ (u : Nat) (x : Cl), (clusters l)[u]? = some x → ((clusters l).map Cl.cs)[u]? = some [.int .i64 (x.a : Int), .int .i64 (x.z : Int), .int .i64 (x.c : Int)] := fun u x h => by rw [List.getElem?_map, h]; rfl
  (try (refine st ?_; intros))
  refine w_callF Try.func29 ?_ (hs := cells5_any l hl _ _ _)
  rintro v m H1 ⟨rfl, a, cp, rfl, rfl⟩
  generalize hE : (clusters l).map Cl.cs = E at *
  (try (refine st ?_; intros))
  refine WC.loopH [(5, .int .i64 ((((clusters l).length) : Int) - 1)), (4, str (([] : List UInt8))), (3, .slice a (clusters l).length cp), (0, str l)] ?_ ?_ (fun j r ds m' H' => ∃ (n : Nat) (T : List UInt8), j = 2 * n ∧ r = [(5, .int .i64 ((n : Int) - 1)), (4, str T), (3, .slice a (clusters l).length cp), (0, str l)] ∧ ds = [] ∧ m = m' ∧ H' = .row a cp 38 3 E :: H ∧ (n ≤ (clusters l).length) ∧ (T = ((clusters l).drop n).reverse.flatMap (clT l))) (2 * ((clusters l).length)) ⟨(clusters l).length, ([] : List UInt8), rfl, rfl, rfl, rfl, rfl, Nat.le_refl _, by rw [List.drop_length]; rfl⟩ ?_
  · (repeat (first | exact Env.Sub.nil | refine Env.Sub.cons rfl ?_))
  · exact zpk
  rintro j r ds m' H' ⟨n, T, rfl, rfl, rfl, rfl, rfl, hn, hT⟩
  rcases Nat.eq_zero_or_pos n with rfl | hn0
  · (try (refine st ?_; intros))
    (refine q_fin0 ?_)
    exact Gives.mk (by rw [hT]; rfl)
  · have hlt : n - 1 < (clusters l).length := by omega
    obtain ⟨c, hc⟩ : ∃ c, (clusters l)[n - 1]? = some c := ⟨_, List.getElem?_eq_getElem hlt⟩
    have hget := hgetE _ c hc
    obtain ⟨ht, hd⟩ := take_step hc
    rw [show n - 1 + 1 = n by omega] at hd ht
    have hcm := ch_mem (ch_all l) (List.mem_of_getElem? hc)
    have hct := clT_len (l := l) (c := c) hcm.2.2.1
    have hz : (n : Int) - 1 = ((n - 1 : Nat) : Int) := by omega
    have hrev : (clusters l).reverse = ((clusters l).drop n).reverse ++ ((clusters l).take n).reverse := by rw [← List.reverse_append, List.take_append_drop]
    have hTl : T.length ≤ l.length := by rw [hT]; exact rev_len hrev
    have hT2 : T ++ clT l c = ((clusters l).drop (n - 1)).reverse.flatMap (clT l) := by rw [hd, hT]; simp
    refine WC.rowSome (a := a) (es := E) zhs (by omega) ?_
    rintro a0 rfl
    rw [hz]
    have hcl : (l.take c.z).drop c.a = clT l c := by unfold clT; rfl
    rw [← hcl] at hct
    (try (refine st ?_; intros))
    rw [hcl, hT2]
    refine WQ.next (2 * (n - 1)) ⟨n - 1, ((clusters l).drop (n - 1)).reverse.flatMap (clT l), rfl, rfl, rfl, rfl, rfl, ?_, ?_⟩ (by omega) zsb zpk
    · omega
    · rfl
end Go.Proofs.Ytpghpbknjdnkkaa

/-
  Plain facts: what the laws' first lines name. No condition.
-/
namespace Go.Eng
open Go
def tee : List UInt8 := [97, 204, 129, 204, 130, 13, 10, 255, 240, 159, 145, 169, 226, 128, 141, 240, 159, 145, 169]
theorem tee_clusters : clusters tee = [⟨0, 5, 1⟩, ⟨5, 7, 0⟩, ⟨7, 8, 1⟩, ⟨8, 19, 2⟩] := by decide +kernel
theorem tee_sum : sumC (clusters tee) = 4 := by rw [tee_clusters]; rfl
theorem shi_cut : cutL [232, 169, 169, 97] 5 = (3, 4) := by decide +kernel
theorem shi_pad : padV [232, 169, 169, 97] 5 3 = .tuple #[str [32, 232, 169, 169, 97, 32], .int .i64 0] := by
  unfold padV padT
  rw [shi_cut]
  rfl
end Go.Eng

/-
  The walks of the laws' cells, cell, works, and of slices.Equal over clusters. No condition.
-/
namespace Go.Eng
open Go Go.RowKit
theorem rowR_blk {w0 : World} {m : Mem} {H : SHeap} {b sz : Nat} {L : List Value} {T : TypeId} {fz : Nat × Nat} {es : List (List Value)} (hm : Item.blk b (.cells L.toArray T fz) ∈ H) (hL : L = es.flatten) (hes : ∀ e ∈ es, e.length = sz) : RowR w0 m H sz (Option.some ⟨b, 0, none⟩) es := by
  intro w hs
  refine ⟨hes, fun j v hj => ?_⟩
  have h : w.heap[b]? = Option.some (.cells L.toArray T fz) := hs.own _ hm
  rw [add_eq rfl]
  subst hL
  simp only [Nat.zero_add, World.cell?, h]
  simpa using hj
theorem cl_eq {c d : Cl} : c = d ↔ (c.a : Int) = d.a ∧ (c.z : Int) = d.z ∧ (c.c : Int) = d.c := by
  constructor
  · rintro rfl; exact ⟨rfl, rfl, rfl⟩
  · intro h
    obtain ⟨a, z, c⟩ := c
    obtain ⟨a', z', c'⟩ := d
    simp only at h
    simp only [Cl.mk.injEq]
    omega
end Go.Eng
namespace Go.Proofs.Ytpghpbknjdnkkaa
open Go Go.Eng
set_option maxRecDepth 100000
set_option maxHeartbeats 4000000
set_option linter.all false
attribute [local irreducible] WL WC WQ QFun QLoop Does Q1 QRound QAssign Go.Addr.add
theorem eq_cl (c d : Cl) : eqB Try.prog 8 38 (.agg c.cs.toArray) (.agg d.cs.toArray) = some (dcd (c = d)) := by
  have h : eqB Try.prog 8 38 (.agg c.cs.toArray) (.agg d.cs.toArray) = some ((((c.a : Int) == (d.a : Int)) && (((c.z : Int) == (d.z : Int)) && true)) && (((c.c : Int) == (d.c : Int)) && true)) := by kernel_rfl
  rw [h]
  by_cases hp : c = d
  · subst hp; rw [dcd_true rfl]; simp
  · rw [dcd_false hp]
    rw [cl_eq] at hp
    simp only [Bool.and_true, Option.some.injEq, Bool.and_eq_false_iff, beq_eq_false_iff_ne]
    by_cases h1 : (c.a : Int) = d.a <;> by_cases h2 : (c.z : Int) = d.z <;> by_cases h3 : (c.c : Int) = d.c <;> simp_all
attribute [local irreducible] clusters cutL padV
theorem sq_C15_1 {G : Prop} (h : G := by (repeat (first | (refine sp ?_; (repeat intro zzc)) | (refine iB_eql rfl ?_; refine w_eqlV ?_ (he := eq_cl _ _)) | (refine iB_neq rfl ?_; refine w_neqV ?_ (he := eq_cl _ _)))); exact WQ.q1 rfl) : G := h
theorem st_C15_1 {G G' : Prop} (next : G') (h : Bx G' → G := by intro zzn; (first | ((refine st ?_; (repeat intro zzc)); (try ((first | (refine iB_eql rfl ?_; refine w_eqlV ?_ (he := eq_cl _ _)) | (refine iB_neq rfl ?_; refine w_neqV ?_ (he := eq_cl _ _)) | ((refine iDraw ?_; (first | refine WC.drawAll rfl (by decide +kernel) ?_ | refine WC.draw 1 rfl (by decide +kernel) ?_ | refine WC.draw 2 rfl (by decide +kernel) ?_ | refine WC.draw 3 rfl (by decide +kernel) ?_ | refine WC.draw 4 rfl (by decide +kernel) ?_ | refine WC.draw 5 rfl (by decide +kernel) ?_ | refine WC.draw 6 rfl (by decide +kernel) ?_ | refine WC.draw 7 rfl (by decide +kernel) ?_ | refine WC.draw 8 rfl (by decide +kernel) ?_ | refine WC.draw 9 rfl (by decide +kernel) ?_ | refine WC.draw 10 rfl (by decide +kernel) ?_ | refine WC.draw 11 rfl (by decide +kernel) ?_ | refine WC.draw 12 rfl (by decide +kernel) ?_ | refine WC.draw 13 rfl (by decide +kernel) ?_ | refine WC.draw 14 rfl (by decide +kernel) ?_ | refine WC.draw 15 rfl (by decide +kernel) ?_ | refine WC.draw 16 rfl (by decide +kernel) ?_ | refine WC.draw 17 rfl (by decide +kernel) ?_ | refine WC.draw 18 rfl (by decide +kernel) ?_ | refine WC.draw 19 rfl (by decide +kernel) ?_ | refine WC.draw 20 rfl (by decide +kernel) ?_ | refine WC.draw 21 rfl (by decide +kernel) ?_ | refine WC.draw 22 rfl (by decide +kernel) ?_ | refine WC.draw 23 rfl (by decide +kernel) ?_ | refine WC.draw 24 rfl (by decide +kernel) ?_)); (repeat (refine WD.cons rfl (fun c h => by cases h) sq_C15_1 ?_)); refine WD.nil ?_)); (try (refine st ?_; (repeat intro zzc)))))) | ((first | (refine iB_eql rfl ?_; refine w_eqlV ?_ (he := eq_cl _ _)) | (refine iB_neq rfl ?_; refine w_neqV ?_ (he := eq_cl _ _)) | ((refine iDraw ?_; (first | refine WC.drawAll rfl (by decide +kernel) ?_ | refine WC.draw 1 rfl (by decide +kernel) ?_ | refine WC.draw 2 rfl (by decide +kernel) ?_ | refine WC.draw 3 rfl (by decide +kernel) ?_ | refine WC.draw 4 rfl (by decide +kernel) ?_ | refine WC.draw 5 rfl (by decide +kernel) ?_ | refine WC.draw 6 rfl (by decide +kernel) ?_ | refine WC.draw 7 rfl (by decide +kernel) ?_ | refine WC.draw 8 rfl (by decide +kernel) ?_ | refine WC.draw 9 rfl (by decide +kernel) ?_ | refine WC.draw 10 rfl (by decide +kernel) ?_ | refine WC.draw 11 rfl (by decide +kernel) ?_ | refine WC.draw 12 rfl (by decide +kernel) ?_ | refine WC.draw 13 rfl (by decide +kernel) ?_ | refine WC.draw 14 rfl (by decide +kernel) ?_ | refine WC.draw 15 rfl (by decide +kernel) ?_ | refine WC.draw 16 rfl (by decide +kernel) ?_ | refine WC.draw 17 rfl (by decide +kernel) ?_ | refine WC.draw 18 rfl (by decide +kernel) ?_ | refine WC.draw 19 rfl (by decide +kernel) ?_ | refine WC.draw 20 rfl (by decide +kernel) ?_ | refine WC.draw 21 rfl (by decide +kernel) ?_ | refine WC.draw 22 rfl (by decide +kernel) ?_ | refine WC.draw 23 rfl (by decide +kernel) ?_ | refine WC.draw 24 rfl (by decide +kernel) ?_)); (repeat (refine WD.cons rfl (fun c h => by cases h) sq_C15_1 ?_)); refine WD.nil ?_)); (try (refine st ?_; (repeat intro zzc))))); (repeat ((first | (refine iB_eql rfl ?_; refine w_eqlV ?_ (he := eq_cl _ _)) | (refine iB_neq rfl ?_; refine w_neqV ?_ (he := eq_cl _ _)) | ((refine iDraw ?_; (first | refine WC.drawAll rfl (by decide +kernel) ?_ | refine WC.draw 1 rfl (by decide +kernel) ?_ | refine WC.draw 2 rfl (by decide +kernel) ?_ | refine WC.draw 3 rfl (by decide +kernel) ?_ | refine WC.draw 4 rfl (by decide +kernel) ?_ | refine WC.draw 5 rfl (by decide +kernel) ?_ | refine WC.draw 6 rfl (by decide +kernel) ?_ | refine WC.draw 7 rfl (by decide +kernel) ?_ | refine WC.draw 8 rfl (by decide +kernel) ?_ | refine WC.draw 9 rfl (by decide +kernel) ?_ | refine WC.draw 10 rfl (by decide +kernel) ?_ | refine WC.draw 11 rfl (by decide +kernel) ?_ | refine WC.draw 12 rfl (by decide +kernel) ?_ | refine WC.draw 13 rfl (by decide +kernel) ?_ | refine WC.draw 14 rfl (by decide +kernel) ?_ | refine WC.draw 15 rfl (by decide +kernel) ?_ | refine WC.draw 16 rfl (by decide +kernel) ?_ | refine WC.draw 17 rfl (by decide +kernel) ?_ | refine WC.draw 18 rfl (by decide +kernel) ?_ | refine WC.draw 19 rfl (by decide +kernel) ?_ | refine WC.draw 20 rfl (by decide +kernel) ?_ | refine WC.draw 21 rfl (by decide +kernel) ?_ | refine WC.draw 22 rfl (by decide +kernel) ?_ | refine WC.draw 23 rfl (by decide +kernel) ?_ | refine WC.draw 24 rfl (by decide +kernel) ?_)); (repeat (refine WD.cons rfl (fun c h => by cases h) sq_C15_1 ?_)); refine WD.nil ?_)); (try (refine st ?_; (repeat intro zzc))))); (repeat revert zzc); exact zzn.out) : G := h ⟨next⟩
theorem equal_any {a b : Option Addr} {ca cb : Nat} {L1 L2 : List Cl} {w0 : World} {m : Mem} {H : SHeap} (hl1 : L1.length ≤ 5000000) (hl2 : L2.length ≤ 5000000) (ha : RowR w0 m H 3 a (L1.map Cl.cs)) (hb : RowR w0 m H 3 b (L2.map Cl.cs)) :
    Does Try.prog 18 #[.slice a L1.length ca, .slice b L2.length cb] w0 m H (Gives (.bool (dcd (L1 = L2))) m H) := by
  refine Does.of_body (args := [.slice a L1.length ca, .slice b L2.length cb]) Try.func18 rfl Try.ntmps18 rfl ?_
  have hn1 : (L1.map Cl.cs).length = L1.length := by simp
  have hn2 : (L2.map Cl.cs).length = L2.length := by simp
  by_cases hlen : L1.length = L2.length
  · (try (refine st_C15_1 ?_; intros))
    refine WC.loopH [(13, .int .i64 ((0) : Int)), (12, .int .i64 (L1.length : Int)), (0, .slice a L1.length ca), (1, .slice b L2.length cb)] ?_ ?_ (fun j r ds m' H' => ∃ i, j = L1.length - i ∧ r = [(13, .int .i64 (i : Int)), (12, .int .i64 (L1.length : Int)), (0, .slice a L1.length ca), (1, .slice b L2.length cb)] ∧ ds = [] ∧ m = m' ∧ H' = H ∧ (i ≤ L1.length) ∧ (L1.take i = L2.take i)) (L1.length - (0)) ⟨0, rfl, rfl, rfl, rfl, rfl, by omega, by rw [List.take_zero, List.take_zero]⟩ ?_
    · (repeat (first | exact Env.Sub.nil | refine Env.Sub.cons rfl ?_))
    · exact zpk
    rintro j r ds m' H' ⟨i, rfl, rfl, rfl, rfl, rfl, hi, hpre⟩
    by_cases hlt : i < L1.length
    · obtain ⟨x, hx⟩ : ∃ x, L1[i]? = some x := ⟨_, List.getElem?_eq_getElem hlt⟩
      obtain ⟨y, hy⟩ : ∃ y, L2[i]? = some y := ⟨_, List.getElem?_eq_getElem (by omega : i < L2.length)⟩
      have hgx : (L1.map Cl.cs)[i]? = some x.cs := by rw [List.getElem?_map, hx]; rfl
      have hgy : (L2.map Cl.cs)[i]? = some y.cs := by rw [List.getElem?_map, hy]; rfl
      obtain ⟨ht1, hd1⟩ := take_step hx
      obtain ⟨ht2, hd2⟩ := take_step hy
      generalize hE1 : L1.map Cl.cs = E1 at *
      generalize hE2 : L2.map Cl.cs = E2 at *
      refine WC.rSome ha (by omega) ?_
      rintro a0 rfl
      refine WC.rSome hb (by omega) ?_
      rintro b0 rfl
      by_cases hxy : x = y
      · (try (refine st_C15_1 ?_; intros))
        refine WQ.next (L1.length - (i + 1)) ⟨i + 1, rfl, rfl, rfl, rfl, rfl, ?_, ?_⟩ (by omega) zsb zpk
        · omega
        · rw [ht1, ht2, hpre, hxy]
      · have hne : ¬ L1 = L2 := fun h => by rw [h] at hx; rw [hx] at hy; exact hxy (Option.some.inj hy)
        (try (refine st_C15_1 ?_; intros))
        (refine q_fin0 ?_)
        exact Gives.mk (congrArg _ (fls_iff hne))
    · rw [List.take_of_length_le (by omega), List.take_of_length_le (by omega)] at hpre
      (try (refine st_C15_1 ?_; intros))
      (refine q_fin0 ?_)
      exact Gives.mk (congrArg _ (tru_iff hpre))
  · (try (refine st_C15_1 ?_; intros))
    (refine q_fin0 ?_)
    exact Gives.mk (congrArg _ (fls_iff (fun h => hlen (by rw [h]))))
theorem sq_C15_2 {G : Prop} (h : G := by (repeat (first | (refine sp ?_; (repeat intro zzc)))); exact WQ.q1 rfl) : G := h
theorem st_C15_2 {G G' : Prop} (next : G') (h : Bx G' → G := by intro zzn; (first | ((refine st ?_; (repeat intro zzc)); (try ((first | ((refine iDraw ?_; (first | refine WC.drawAll rfl (by decide +kernel) ?_ | refine WC.draw 1 rfl (by decide +kernel) ?_ | refine WC.draw 2 rfl (by decide +kernel) ?_ | refine WC.draw 3 rfl (by decide +kernel) ?_ | refine WC.draw 4 rfl (by decide +kernel) ?_ | refine WC.draw 5 rfl (by decide +kernel) ?_ | refine WC.draw 6 rfl (by decide +kernel) ?_ | refine WC.draw 7 rfl (by decide +kernel) ?_ | refine WC.draw 8 rfl (by decide +kernel) ?_ | refine WC.draw 9 rfl (by decide +kernel) ?_ | refine WC.draw 10 rfl (by decide +kernel) ?_ | refine WC.draw 11 rfl (by decide +kernel) ?_ | refine WC.draw 12 rfl (by decide +kernel) ?_ | refine WC.draw 13 rfl (by decide +kernel) ?_ | refine WC.draw 14 rfl (by decide +kernel) ?_ | refine WC.draw 15 rfl (by decide +kernel) ?_ | refine WC.draw 16 rfl (by decide +kernel) ?_ | refine WC.draw 17 rfl (by decide +kernel) ?_ | refine WC.draw 18 rfl (by decide +kernel) ?_ | refine WC.draw 19 rfl (by decide +kernel) ?_ | refine WC.draw 20 rfl (by decide +kernel) ?_ | refine WC.draw 21 rfl (by decide +kernel) ?_ | refine WC.draw 22 rfl (by decide +kernel) ?_ | refine WC.draw 23 rfl (by decide +kernel) ?_ | refine WC.draw 24 rfl (by decide +kernel) ?_)); (repeat (refine WD.cons rfl (fun c h => by cases h) sq_C15_2 ?_)); refine WD.nil ?_)); (try (refine st ?_; (repeat intro zzc)))))) | ((first | ((refine iDraw ?_; (first | refine WC.drawAll rfl (by decide +kernel) ?_ | refine WC.draw 1 rfl (by decide +kernel) ?_ | refine WC.draw 2 rfl (by decide +kernel) ?_ | refine WC.draw 3 rfl (by decide +kernel) ?_ | refine WC.draw 4 rfl (by decide +kernel) ?_ | refine WC.draw 5 rfl (by decide +kernel) ?_ | refine WC.draw 6 rfl (by decide +kernel) ?_ | refine WC.draw 7 rfl (by decide +kernel) ?_ | refine WC.draw 8 rfl (by decide +kernel) ?_ | refine WC.draw 9 rfl (by decide +kernel) ?_ | refine WC.draw 10 rfl (by decide +kernel) ?_ | refine WC.draw 11 rfl (by decide +kernel) ?_ | refine WC.draw 12 rfl (by decide +kernel) ?_ | refine WC.draw 13 rfl (by decide +kernel) ?_ | refine WC.draw 14 rfl (by decide +kernel) ?_ | refine WC.draw 15 rfl (by decide +kernel) ?_ | refine WC.draw 16 rfl (by decide +kernel) ?_ | refine WC.draw 17 rfl (by decide +kernel) ?_ | refine WC.draw 18 rfl (by decide +kernel) ?_ | refine WC.draw 19 rfl (by decide +kernel) ?_ | refine WC.draw 20 rfl (by decide +kernel) ?_ | refine WC.draw 21 rfl (by decide +kernel) ?_ | refine WC.draw 22 rfl (by decide +kernel) ?_ | refine WC.draw 23 rfl (by decide +kernel) ?_ | refine WC.draw 24 rfl (by decide +kernel) ?_)); (repeat (refine WD.cons rfl (fun c h => by cases h) sq_C15_2 ?_)); refine WD.nil ?_)); (try (refine st ?_; (repeat intro zzc))))); (repeat ((first | ((refine iDraw ?_; (first | refine WC.drawAll rfl (by decide +kernel) ?_ | refine WC.draw 1 rfl (by decide +kernel) ?_ | refine WC.draw 2 rfl (by decide +kernel) ?_ | refine WC.draw 3 rfl (by decide +kernel) ?_ | refine WC.draw 4 rfl (by decide +kernel) ?_ | refine WC.draw 5 rfl (by decide +kernel) ?_ | refine WC.draw 6 rfl (by decide +kernel) ?_ | refine WC.draw 7 rfl (by decide +kernel) ?_ | refine WC.draw 8 rfl (by decide +kernel) ?_ | refine WC.draw 9 rfl (by decide +kernel) ?_ | refine WC.draw 10 rfl (by decide +kernel) ?_ | refine WC.draw 11 rfl (by decide +kernel) ?_ | refine WC.draw 12 rfl (by decide +kernel) ?_ | refine WC.draw 13 rfl (by decide +kernel) ?_ | refine WC.draw 14 rfl (by decide +kernel) ?_ | refine WC.draw 15 rfl (by decide +kernel) ?_ | refine WC.draw 16 rfl (by decide +kernel) ?_ | refine WC.draw 17 rfl (by decide +kernel) ?_ | refine WC.draw 18 rfl (by decide +kernel) ?_ | refine WC.draw 19 rfl (by decide +kernel) ?_ | refine WC.draw 20 rfl (by decide +kernel) ?_ | refine WC.draw 21 rfl (by decide +kernel) ?_ | refine WC.draw 22 rfl (by decide +kernel) ?_ | refine WC.draw 23 rfl (by decide +kernel) ?_ | refine WC.draw 24 rfl (by decide +kernel) ?_)); (repeat (refine WD.cons rfl (fun c h => by cases h) sq_C15_2 ?_)); refine WD.nil ?_)); (try (refine st ?_; (repeat intro zzc))))); (repeat revert zzc); exact zzn.out) : G := h ⟨next⟩
theorem cell_any (a b c : Int) (w0 : World) (m : Mem) (H : SHeap) : Does Try.prog 26 #[.int .i64 a, .int .i64 b, .int .i64 c] w0 m H (Gives (.agg #[.int .i64 a, .int .i64 b, .int .i64 c]) m H) := by
  refine Does.of_body (args := [.int .i64 a, .int .i64 b, .int .i64 c]) Try.func26 rfl Try.ntmps26 rfl ?_
  (try (refine st_C15_2 ?_; intros))
  (refine q_fin0 ?_)
  exact Gives.mk rfl
theorem cells_any (l : List UInt8) (hl : l.length ≤ 4194304) (w0 : World) (m : Mem) (H : SHeap) : Does Try.prog 19 #[str l] w0 m H (fun v m' H' => m.le m' ∧ ∃ a cp, v = .slice a (clusters l).length cp ∧ H' = .row a cp 38 3 ((clusters l).map Cl.cs) :: H) := by
  refine Does.of_body (args := [str l]) Try.func19 rfl Try.ntmps19 rfl ?_
  (refine st_C15_2 ?_; intros; rename_i b3)
  refine w_callF Try.func17 ?_ (hs := each_any _ _ _ _)
  rintro v m H ⟨b, rfl, rfl, rfl⟩
  (try (refine st_C15_2 ?_; intros))
  refine WC.persist (b := b) (by (repeat (first | exact Out.here | apply Out.there))) ?_
  intro m1 hle1 hb
  refine WC.newRow (T := 38) (sz := 3) ?_
  refine WC.rangeFuncM (encs := fun c : Cl => [c.v]) (xs := clusters l) (Cap := TextAt b l) (lb := [.pointer (some ⟨b, 0, none⟩)]) (ps := [11])
    (J := fun pre m' Hl => m.le m' ∧ ∃ a cp, Hl = [.row a cp 38 3 (pre.map Cl.cs), .blk b3 (.cells [.slice a pre.length cp].toArray 42 (0, 0))]) (Jx := fun _ _ _ _ => False)
    rfl Try.func43 rfl rfl (each_seq l (by omega) b) hb (fun _ => rfl) rfl (fun _ _ _ _ h hm => ⟨h.1.trans hm, h.2⟩) (fun _ _ _ _ _ h _ => h) (.cons (.cons .nil)) ⟨hle1, none, 0, rfl⟩ ?_ ?_ ?_
  · rintro lp pre c post hx m2 Hl ⟨hle2, a, cp, rfl⟩ hm2 Hfr hfr
    have hs := sum_pre hx
    have hpl : (pre.map Cl.cs).length = pre.length := List.length_map _
    (try (refine st_C15_2 ?_; intros))
    refine WQ.assigned (.cons (.cons (.cons .nil))) (Mem.le.refl _) ?_
    intro Hfr2
    (refine st_C15_2 ?_; intros; rename_i b9 a2 cp2)
    rw [hpl]
    exact WQ.roundOn (Hl := [_, .blk b3 _]) zpk (Mem.le.refl _) ⟨hle2, a2, cp2, by rw [List.map_append, List.length_append]; rfl⟩
  · rintro D m2 Hl ⟨hle2, a, cp, rfl⟩ hm2
    (try (refine st_C15_2 ?_; intros))
    refine WQ.mark (H1 := _ :: _ :: _) List.perm_middle ?_
    exact q_fin0 (H0 := .row a cp 38 3 ((clusters l).map Cl.cs) :: H) ⟨hle2, a, cp, rfl, rfl⟩ (hd := zpk)
  · intro D cd pre m2 Hl _ h
    exact h.elim
theorem sq_C15_3 {G : Prop} (h : G := by (repeat (first | (refine sp ?_; (repeat intro zzc)) | (refine iF 26 rfl ?_; refine w_callG Try.func26 ?_ (hs := cell_any _ _ _ _ _ _)))); exact WQ.q1 rfl) : G := h
theorem st_C15_3 {G G' : Prop} (next : G') (h : Bx G' → G := by intro zzn; (first | ((refine st ?_; (repeat intro zzc)); (try ((first | (refine iF 26 rfl ?_; refine w_callG Try.func26 ?_ (hs := cell_any _ _ _ _ _ _)) | ((refine iDraw ?_; (first | refine WC.drawAll rfl (by decide +kernel) ?_ | refine WC.draw 1 rfl (by decide +kernel) ?_ | refine WC.draw 2 rfl (by decide +kernel) ?_ | refine WC.draw 3 rfl (by decide +kernel) ?_ | refine WC.draw 4 rfl (by decide +kernel) ?_ | refine WC.draw 5 rfl (by decide +kernel) ?_ | refine WC.draw 6 rfl (by decide +kernel) ?_ | refine WC.draw 7 rfl (by decide +kernel) ?_ | refine WC.draw 8 rfl (by decide +kernel) ?_ | refine WC.draw 9 rfl (by decide +kernel) ?_ | refine WC.draw 10 rfl (by decide +kernel) ?_ | refine WC.draw 11 rfl (by decide +kernel) ?_ | refine WC.draw 12 rfl (by decide +kernel) ?_ | refine WC.draw 13 rfl (by decide +kernel) ?_ | refine WC.draw 14 rfl (by decide +kernel) ?_ | refine WC.draw 15 rfl (by decide +kernel) ?_ | refine WC.draw 16 rfl (by decide +kernel) ?_ | refine WC.draw 17 rfl (by decide +kernel) ?_ | refine WC.draw 18 rfl (by decide +kernel) ?_ | refine WC.draw 19 rfl (by decide +kernel) ?_ | refine WC.draw 20 rfl (by decide +kernel) ?_ | refine WC.draw 21 rfl (by decide +kernel) ?_ | refine WC.draw 22 rfl (by decide +kernel) ?_ | refine WC.draw 23 rfl (by decide +kernel) ?_ | refine WC.draw 24 rfl (by decide +kernel) ?_)); (repeat (refine WD.cons rfl (fun c h => by cases h) sq_C15_3 ?_)); refine WD.nil ?_)); (try (refine st ?_; (repeat intro zzc)))))) | ((first | (refine iF 26 rfl ?_; refine w_callG Try.func26 ?_ (hs := cell_any _ _ _ _ _ _)) | ((refine iDraw ?_; (first | refine WC.drawAll rfl (by decide +kernel) ?_ | refine WC.draw 1 rfl (by decide +kernel) ?_ | refine WC.draw 2 rfl (by decide +kernel) ?_ | refine WC.draw 3 rfl (by decide +kernel) ?_ | refine WC.draw 4 rfl (by decide +kernel) ?_ | refine WC.draw 5 rfl (by decide +kernel) ?_ | refine WC.draw 6 rfl (by decide +kernel) ?_ | refine WC.draw 7 rfl (by decide +kernel) ?_ | refine WC.draw 8 rfl (by decide +kernel) ?_ | refine WC.draw 9 rfl (by decide +kernel) ?_ | refine WC.draw 10 rfl (by decide +kernel) ?_ | refine WC.draw 11 rfl (by decide +kernel) ?_ | refine WC.draw 12 rfl (by decide +kernel) ?_ | refine WC.draw 13 rfl (by decide +kernel) ?_ | refine WC.draw 14 rfl (by decide +kernel) ?_ | refine WC.draw 15 rfl (by decide +kernel) ?_ | refine WC.draw 16 rfl (by decide +kernel) ?_ | refine WC.draw 17 rfl (by decide +kernel) ?_ | refine WC.draw 18 rfl (by decide +kernel) ?_ | refine WC.draw 19 rfl (by decide +kernel) ?_ | refine WC.draw 20 rfl (by decide +kernel) ?_ | refine WC.draw 21 rfl (by decide +kernel) ?_ | refine WC.draw 22 rfl (by decide +kernel) ?_ | refine WC.draw 23 rfl (by decide +kernel) ?_ | refine WC.draw 24 rfl (by decide +kernel) ?_)); (repeat (refine WD.cons rfl (fun c h => by cases h) sq_C15_3 ?_)); refine WD.nil ?_)); (try (refine st ?_; (repeat intro zzc))))); (repeat ((first | (refine iF 26 rfl ?_; refine w_callG Try.func26 ?_ (hs := cell_any _ _ _ _ _ _)) | ((refine iDraw ?_; (first | refine WC.drawAll rfl (by decide +kernel) ?_ | refine WC.draw 1 rfl (by decide +kernel) ?_ | refine WC.draw 2 rfl (by decide +kernel) ?_ | refine WC.draw 3 rfl (by decide +kernel) ?_ | refine WC.draw 4 rfl (by decide +kernel) ?_ | refine WC.draw 5 rfl (by decide +kernel) ?_ | refine WC.draw 6 rfl (by decide +kernel) ?_ | refine WC.draw 7 rfl (by decide +kernel) ?_ | refine WC.draw 8 rfl (by decide +kernel) ?_ | refine WC.draw 9 rfl (by decide +kernel) ?_ | refine WC.draw 10 rfl (by decide +kernel) ?_ | refine WC.draw 11 rfl (by decide +kernel) ?_ | refine WC.draw 12 rfl (by decide +kernel) ?_ | refine WC.draw 13 rfl (by decide +kernel) ?_ | refine WC.draw 14 rfl (by decide +kernel) ?_ | refine WC.draw 15 rfl (by decide +kernel) ?_ | refine WC.draw 16 rfl (by decide +kernel) ?_ | refine WC.draw 17 rfl (by decide +kernel) ?_ | refine WC.draw 18 rfl (by decide +kernel) ?_ | refine WC.draw 19 rfl (by decide +kernel) ?_ | refine WC.draw 20 rfl (by decide +kernel) ?_ | refine WC.draw 21 rfl (by decide +kernel) ?_ | refine WC.draw 22 rfl (by decide +kernel) ?_ | refine WC.draw 23 rfl (by decide +kernel) ?_ | refine WC.draw 24 rfl (by decide +kernel) ?_)); (repeat (refine WD.cons rfl (fun c h => by cases h) sq_C15_3 ?_)); refine WD.nil ?_)); (try (refine st ?_; (repeat intro zzc))))); (repeat revert zzc); exact zzn.out) : G := h ⟨next⟩
theorem works_any (w0 : World) (m : Mem) (H : SHeap) : Does Try.prog 11 #[] w0 m H (Tells (.bool true) m H) := by
  refine Does.of_body (args := []) Try.func11 rfl Try.ntmps11 rfl ?_
  (try (refine st_C15_3 ?_; intros))
  refine w_callF Try.func14 ?_ (hs := pad_any [232, 169, 169, 97] (by decide) 5 3 _ _ _)
  rintro v m1 H ⟨hle1, rfl, rfl⟩
  rw [shi_pad]
  (try (refine st_C15_3 ?_; intros))
  refine w_callF Try.func19 ?_ (hs := cells_any tee (by decide) _ _ _)
  rintro v m2 H2 ⟨hle2, a, cp, rfl, rfl⟩
  have hlen : (clusters tee).length = 4 := by rw [tee_clusters]; rfl
  (refine st_C15_3 ?_; intros; rename_i bL)
  refine w_callF Try.func18 ?_ (hs := equal_any (L1 := clusters tee) (L2 := [⟨0, 5, 1⟩, ⟨5, 7, 0⟩, ⟨7, 8, 1⟩, ⟨8, 19, 2⟩]) (by omega) (by decide) (RowR.row (T := 38) (cap := cp) zhs) (rowR_blk (T := 38) (fz := (0, 0)) (L := [.int .i64 0, .int .i64 5, .int .i64 1, .int .i64 5, .int .i64 7, .int .i64 0, .int .i64 7, .int .i64 8, .int .i64 1, .int .i64 8, .int .i64 19, .int .i64 2]) zhs rfl (by decide)))
  rintro v m3 H3 ⟨rfl, rfl, rfl⟩
  rw [tee_clusters]
  (try (refine st_C15_3 ?_; intros))
  refine w_callF Try.func16 ?_ (hs := columnsT_any tee (by decide) _ _ _)
  rintro v m4 H4 ⟨hle4, rfl, rfl⟩
  rw [tee_sum]
  (try (refine st_C15_3 ?_; intros))
  refine q_fin0 (H0 := H) ?_ (hd := zpk)
  exact Tells.mk (hle1.trans (hle2.trans hle4)) (congrArg _ (dcd_true rfl))
end Go.Proofs.Ytpghpbknjdnkkaa

/-
  The walk of the law ClusterCuts. No condition.
-/
namespace Go.Eng
end Go.Eng
namespace Go.Proofs.Ytpghpbknjdnkkaa
open Go Go.Eng
set_option maxRecDepth 100000
set_option maxHeartbeats 4000000
set_option linter.all false
attribute [local irreducible] WL WC WQ QFun QLoop Does Q1 QRound QAssign Go.Addr.add
attribute [local irreducible] clusters cutL padV
theorem works_true {m m0 : Mem} (hm : m0.le m) (w0 : World) (H : SHeap) : Does Try.prog 11 #[] w0 m H (fun v m' H' => m0.le m' ∧ v = .bool true ∧ H' = H) := (works_any w0 m H).mono fun _ _ _ h => ⟨hm.trans h.1, h.2⟩
end Go.Proofs.Ytpghpbknjdnkkaa

/-
  The walk of the law ClusterTells. No condition.
-/
namespace Go.Eng
open Go
theorem at_forms (o : Option Cl) : ∃ (c : Cl) (e : Int) (b : Bool), atV o = .tuple #[c.v, .int .i64 e] ∧ atV2 o = .tuple #[c.v, .bool b] ∧ ((e = 0 ∧ b = true) ∨ (e = 5 ∧ b = false)) := by
  cases o with
  | none => exact ⟨⟨0, 0, 0⟩, 5, false, rfl, rfl, .inr ⟨rfl, rfl⟩⟩
  | some c => exact ⟨c, 0, true, rfl, rfl, .inl ⟨rfl, rfl⟩⟩
end Go.Eng
namespace Go.Proofs.Ytpghpbknjdnkkaa
open Go Go.Eng
set_option maxRecDepth 100000
set_option maxHeartbeats 4000000
set_option linter.all false
attribute [local irreducible] WL WC WQ QFun QLoop Does Q1 QRound QAssign Go.Addr.add
attribute [local irreducible] clusters atR underR edgeR revT
theorem eq_cs (c d : Cl) : eqB Try.prog 8 38 (.agg #[.int .i64 (c.a : Int), .int .i64 (c.z : Int), .int .i64 (c.c : Int)]) (.agg d.cs.toArray) = some (dcd (c = d)) := eq_cl c d
theorem sq_C20_1 {G : Prop} (h : G := by (repeat (first | (refine sp ?_; (repeat intro zzc)) | (refine iB_eql rfl ?_; refine w_eqlV ?_ (he := eq_cs _ _)) | (refine iB_neq rfl ?_; refine w_neqV ?_ (he := eq_cs _ _)) | (refine iF 30 rfl ?_; refine w_callG Try.func30 ?_ (hs := refColumns_any _ (by omega) _ _ _)) | (refine iF 31 rfl ?_; refine w_callG Try.func31 ?_ (hs := refEdge_any _ (by omega) _ _ _ _)) | (refine iF 32 rfl ?_; refine w_callG Try.func32 ?_ (hs := refReverse_any _ (by omega) _ _ _)))); exact WQ.q1 rfl) : G := h
theorem cm_C20_1 {G G' : Prop} (next : G') (h : Bx G' → G := by intro zzn; (try (refine wcal 0 ?_ (hwl := by intro zm zF zle; exact sq_C20_1))); (try (refine wcal 1 ?_ (hwl := by intro zm zF zle; exact sq_C20_1))); (try (refine wcal 2 ?_ (hwl := by intro zm zF zle; exact sq_C20_1))); (try (refine wcal 3 ?_ (hwl := by intro zm zF zle; exact sq_C20_1))); (try (refine wcal 4 ?_ (hwl := by intro zm zF zle; exact sq_C20_1))); (try (refine wcal 5 ?_ (hwl := by intro zm zF zle; exact sq_C20_1))); (try (refine wcal 6 ?_ (hwl := by intro zm zF zle; exact sq_C20_1))); (try (refine wcal 7 ?_ (hwl := by intro zm zF zle; exact sq_C20_1))); (try (refine wcal 8 ?_ (hwl := by intro zm zF zle; exact sq_C20_1))); (try (refine wcal 9 ?_ (hwl := by intro zm zF zle; exact sq_C20_1))); (try (refine wcal 10 ?_ (hwl := by intro zm zF zle; exact sq_C20_1))); (try (refine wcal 11 ?_ (hwl := by intro zm zF zle; exact sq_C20_1))); (try (refine wcal 12 ?_ (hwl := by intro zm zF zle; exact sq_C20_1))); (try (refine wcal 13 ?_ (hwl := by intro zm zF zle; exact sq_C20_1))); (try (refine wcal 14 ?_ (hwl := by intro zm zF zle; exact sq_C20_1))); (try (refine wcal 15 ?_ (hwl := by intro zm zF zle; exact sq_C20_1))); (try (refine wcal 16 ?_ (hwl := by intro zm zF zle; exact sq_C20_1))); (try (refine wcal 17 ?_ (hwl := by intro zm zF zle; exact sq_C20_1))); (try (refine wcal 18 ?_ (hwl := by intro zm zF zle; exact sq_C20_1))); (try (refine wcal 19 ?_ (hwl := by intro zm zF zle; exact sq_C20_1))); (try (refine wcal 20 ?_ (hwl := by intro zm zF zle; exact sq_C20_1))); (try (refine wcal 21 ?_ (hwl := by intro zm zF zle; exact sq_C20_1))); (try (refine wcal 22 ?_ (hwl := by intro zm zF zle; exact sq_C20_1))); (try (refine wcal 23 ?_ (hwl := by intro zm zF zle; exact sq_C20_1))); (try (refine wcal 24 ?_ (hwl := by intro zm zF zle; exact sq_C20_1))); (try (refine wcal 25 ?_ (hwl := by intro zm zF zle; exact sq_C20_1))); (try (refine wcal 26 ?_ (hwl := by intro zm zF zle; exact sq_C20_1))); (try (refine wcal 27 ?_ (hwl := by intro zm zF zle; exact sq_C20_1))); (try (refine wcal 28 ?_ (hwl := by intro zm zF zle; exact sq_C20_1))); (try (refine wcal 29 ?_ (hwl := by intro zm zF zle; exact sq_C20_1))); (try (refine wcal 30 ?_ (hwl := by intro zm zF zle; exact sq_C20_1))); (try (refine wcal 31 ?_ (hwl := by intro zm zF zle; exact sq_C20_1))); (try (refine wcal 32 ?_ (hwl := by intro zm zF zle; exact sq_C20_1))); (try (refine wcal 33 ?_ (hwl := by intro zm zF zle; exact sq_C20_1))); (try (refine wcal 34 ?_ (hwl := by intro zm zF zle; exact sq_C20_1))); (try (refine wcal 35 ?_ (hwl := by intro zm zF zle; exact sq_C20_1))); (try (refine wcal 36 ?_ (hwl := by intro zm zF zle; exact sq_C20_1))); (try (refine wcal 37 ?_ (hwl := by intro zm zF zle; exact sq_C20_1))); (try (refine wcal 38 ?_ (hwl := by intro zm zF zle; exact sq_C20_1))); (try (refine wcal 39 ?_ (hwl := by intro zm zF zle; exact sq_C20_1))); (try (refine wcal 40 ?_ (hwl := by intro zm zF zle; exact sq_C20_1))); (try (refine wcal 41 ?_ (hwl := by intro zm zF zle; exact sq_C20_1))); exact zzn.out) : G := h ⟨next⟩
theorem st_C20_1 {G G' : Prop} (next : G') (h : Bx G' → G := by intro zzn; (first | ((refine st ?_; (repeat intro zzc)); (try ((first | (refine iB_eql rfl ?_; refine w_eqlV ?_ (he := eq_cs _ _)) | (refine iB_neq rfl ?_; refine w_neqV ?_ (he := eq_cs _ _)) | (refine iF 30 rfl ?_; refine w_callG Try.func30 ?_ (hs := refColumns_any _ (by omega) _ _ _)) | (refine iF 31 rfl ?_; refine w_callG Try.func31 ?_ (hs := refEdge_any _ (by omega) _ _ _ _)) | (refine iF 32 rfl ?_; refine w_callG Try.func32 ?_ (hs := refReverse_any _ (by omega) _ _ _)) | ((refine iDraw ?_; (first | refine WC.drawAll rfl (by decide +kernel) ?_ | refine WC.draw 1 rfl (by decide +kernel) ?_ | refine WC.draw 2 rfl (by decide +kernel) ?_ | refine WC.draw 3 rfl (by decide +kernel) ?_ | refine WC.draw 4 rfl (by decide +kernel) ?_ | refine WC.draw 5 rfl (by decide +kernel) ?_ | refine WC.draw 6 rfl (by decide +kernel) ?_ | refine WC.draw 7 rfl (by decide +kernel) ?_ | refine WC.draw 8 rfl (by decide +kernel) ?_ | refine WC.draw 9 rfl (by decide +kernel) ?_ | refine WC.draw 10 rfl (by decide +kernel) ?_ | refine WC.draw 11 rfl (by decide +kernel) ?_ | refine WC.draw 12 rfl (by decide +kernel) ?_ | refine WC.draw 13 rfl (by decide +kernel) ?_ | refine WC.draw 14 rfl (by decide +kernel) ?_ | refine WC.draw 15 rfl (by decide +kernel) ?_ | refine WC.draw 16 rfl (by decide +kernel) ?_ | refine WC.draw 17 rfl (by decide +kernel) ?_ | refine WC.draw 18 rfl (by decide +kernel) ?_ | refine WC.draw 19 rfl (by decide +kernel) ?_ | refine WC.draw 20 rfl (by decide +kernel) ?_ | refine WC.draw 21 rfl (by decide +kernel) ?_ | refine WC.draw 22 rfl (by decide +kernel) ?_ | refine WC.draw 23 rfl (by decide +kernel) ?_ | refine WC.draw 24 rfl (by decide +kernel) ?_)); (repeat (refine WD.cons rfl (fun c h => by cases h) sq_C20_1 ?_)); refine WD.nil ?_)); (try (refine st ?_; (repeat intro zzc)))))) | ((first | (refine iB_eql rfl ?_; refine w_eqlV ?_ (he := eq_cs _ _)) | (refine iB_neq rfl ?_; refine w_neqV ?_ (he := eq_cs _ _)) | (refine iF 30 rfl ?_; refine w_callG Try.func30 ?_ (hs := refColumns_any _ (by omega) _ _ _)) | (refine iF 31 rfl ?_; refine w_callG Try.func31 ?_ (hs := refEdge_any _ (by omega) _ _ _ _)) | (refine iF 32 rfl ?_; refine w_callG Try.func32 ?_ (hs := refReverse_any _ (by omega) _ _ _)) | ((refine iDraw ?_; (first | refine WC.drawAll rfl (by decide +kernel) ?_ | refine WC.draw 1 rfl (by decide +kernel) ?_ | refine WC.draw 2 rfl (by decide +kernel) ?_ | refine WC.draw 3 rfl (by decide +kernel) ?_ | refine WC.draw 4 rfl (by decide +kernel) ?_ | refine WC.draw 5 rfl (by decide +kernel) ?_ | refine WC.draw 6 rfl (by decide +kernel) ?_ | refine WC.draw 7 rfl (by decide +kernel) ?_ | refine WC.draw 8 rfl (by decide +kernel) ?_ | refine WC.draw 9 rfl (by decide +kernel) ?_ | refine WC.draw 10 rfl (by decide +kernel) ?_ | refine WC.draw 11 rfl (by decide +kernel) ?_ | refine WC.draw 12 rfl (by decide +kernel) ?_ | refine WC.draw 13 rfl (by decide +kernel) ?_ | refine WC.draw 14 rfl (by decide +kernel) ?_ | refine WC.draw 15 rfl (by decide +kernel) ?_ | refine WC.draw 16 rfl (by decide +kernel) ?_ | refine WC.draw 17 rfl (by decide +kernel) ?_ | refine WC.draw 18 rfl (by decide +kernel) ?_ | refine WC.draw 19 rfl (by decide +kernel) ?_ | refine WC.draw 20 rfl (by decide +kernel) ?_ | refine WC.draw 21 rfl (by decide +kernel) ?_ | refine WC.draw 22 rfl (by decide +kernel) ?_ | refine WC.draw 23 rfl (by decide +kernel) ?_ | refine WC.draw 24 rfl (by decide +kernel) ?_)); (repeat (refine WD.cons rfl (fun c h => by cases h) sq_C20_1 ?_)); refine WD.nil ?_)); (try (refine st ?_; (repeat intro zzc))))); (repeat ((first | (refine iB_eql rfl ?_; refine w_eqlV ?_ (he := eq_cs _ _)) | (refine iB_neq rfl ?_; refine w_neqV ?_ (he := eq_cs _ _)) | (refine iF 30 rfl ?_; refine w_callG Try.func30 ?_ (hs := refColumns_any _ (by omega) _ _ _)) | (refine iF 31 rfl ?_; refine w_callG Try.func31 ?_ (hs := refEdge_any _ (by omega) _ _ _ _)) | (refine iF 32 rfl ?_; refine w_callG Try.func32 ?_ (hs := refReverse_any _ (by omega) _ _ _)) | ((refine iDraw ?_; (first | refine WC.drawAll rfl (by decide +kernel) ?_ | refine WC.draw 1 rfl (by decide +kernel) ?_ | refine WC.draw 2 rfl (by decide +kernel) ?_ | refine WC.draw 3 rfl (by decide +kernel) ?_ | refine WC.draw 4 rfl (by decide +kernel) ?_ | refine WC.draw 5 rfl (by decide +kernel) ?_ | refine WC.draw 6 rfl (by decide +kernel) ?_ | refine WC.draw 7 rfl (by decide +kernel) ?_ | refine WC.draw 8 rfl (by decide +kernel) ?_ | refine WC.draw 9 rfl (by decide +kernel) ?_ | refine WC.draw 10 rfl (by decide +kernel) ?_ | refine WC.draw 11 rfl (by decide +kernel) ?_ | refine WC.draw 12 rfl (by decide +kernel) ?_ | refine WC.draw 13 rfl (by decide +kernel) ?_ | refine WC.draw 14 rfl (by decide +kernel) ?_ | refine WC.draw 15 rfl (by decide +kernel) ?_ | refine WC.draw 16 rfl (by decide +kernel) ?_ | refine WC.draw 17 rfl (by decide +kernel) ?_ | refine WC.draw 18 rfl (by decide +kernel) ?_ | refine WC.draw 19 rfl (by decide +kernel) ?_ | refine WC.draw 20 rfl (by decide +kernel) ?_ | refine WC.draw 21 rfl (by decide +kernel) ?_ | refine WC.draw 22 rfl (by decide +kernel) ?_ | refine WC.draw 23 rfl (by decide +kernel) ?_ | refine WC.draw 24 rfl (by decide +kernel) ?_)); (repeat (refine WD.cons rfl (fun c h => by cases h) sq_C20_1 ?_)); refine WD.nil ?_)); (try (refine st ?_; (repeat intro zzc))))); (repeat revert zzc); exact zzn.out) : G := h ⟨next⟩
theorem clusterTells_any (l : List UInt8) (k e : Int) (hl : l.length ≤ 1048576) (w0 : World) (m : Mem) (H : SHeap) :
    Does Try.prog 9 #[str l, .int .i64 k, .int .i64 e] w0 m H (fun v m' _ => v = .bool true ∧ m.le m') := by
  refine Does.of_body (args := [str l, .int .i64 k, .int .i64 e]) Try.func9 rfl Try.ntmps9 rfl ?_
  have hcl := clusters_len l
  have hel : ((clusters l).map Cl.cs).length = (clusters l).length := List.length_map _
  (refine st_C20_1 ?_; intros; rename_i b5 b6)
  refine w_callF Try.func11 ?_ (hs := works_any _ _ _)
  rintro v m1 H1 ⟨hle1, rfl, rfl⟩
  (try (refine st_C20_1 ?_; intros))
  refine w_callF Try.func29 ?_ (hs := cells5_any l (by omega) _ _ _)
  rintro v m1 H1 ⟨rfl, a, cp, rfl, rfl⟩
  generalize hE : (clusters l).map Cl.cs = E at *
  have hee : (!(dcd (edgeR (clusters l) k l.length) == dcd (edgeR (clusters l) k l.length))) = false := by simp
  have hrr : revT l = revT l := rfl
  have hss : sumC (clusters l) = sumC (clusters l) := rfl
  (refine st_C20_1 ?_; intros; rename_i b7)
  refine WC.drawE 35 ([.blk b7 (.cells [.slice a (clusters l).length cp].toArray 42 (0, 0)), .row a cp 38 3 E]) (.blk b6 (.cells [.bool false].toArray 4 (0, 0)) :: .blk b5 (.cells [.int .i64 e].toArray 3 (0, 0)) :: H) rfl (by decide +kernel) zpk ?_
  (refine cm_C20_1 ?_)
  refine WE.act1 1 (by decide +kernel) rfl rfl (fun c h => by cases h) ?_
  (try (refine st_C20_1 ?_; intros))
  refine w_callF Try.func19 ?_ (hs := cells_any l (by omega) _ _ _)
  rintro v m2 H2 ⟨hle2, a1, cp1, rfl, rfl⟩
  rw [hE]
  (try (refine st_C20_1 ?_; intros))
  refine WQ.acted (B := [.row a1 cp1 38 3 E]) (U := .blk b6 (.cells [.bool false].toArray 4 (0, 0)) :: .blk b5 (.cells [.int .i64 e].toArray 3 (0, 0)) :: H) rfl hle2 zpk ?_
  (refine cm_C20_1 ?_)
  refine WE.act1 3 (by decide +kernel) rfl rfl (fun c h => by cases h) ?_
  (try (refine st_C20_1 ?_; intros))
  refine w_callF Try.func18 ?_ (hs := equal_any (L1 := clusters l) (L2 := clusters l) (by omega) (by omega) (by rw [hE]; exact RowR.row (T := 38) (cap := cp1) (by simp)) (by rw [hE]; exact RowR.row (T := 38) (cap := cp) (by simp)))
  rintro v m2 H2 ⟨rfl, rfl, rfl⟩
  rw [dcd_true (p := clusters l = clusters l) rfl]
  (try (refine st_C20_1 ?_; intros))
  refine WQ.acted (B := []) (U := .blk b6 (.cells [.bool false].toArray 4 (0, 0)) :: .blk b5 (.cells [.int .i64 e].toArray 3 (0, 0)) :: H) rfl (Mem.le.refl _) zpk ?_
  (refine cm_C20_1 ?_)
  refine WE.act1 7 (by decide +kernel) rfl rfl (fun c h => by cases h) ?_
  (try (refine st_C20_1 ?_; intros))
  refine w_callF Try.func22 ?_ (hs := count_any l (by omega) _ _ _)
  rintro v m3 H3 ⟨hle3, rfl, rfl⟩
  (try (refine st_C20_1 ?_; intros))
  refine WQ.acted (B := []) (U := .blk b6 (.cells [.bool false].toArray 4 (0, 0)) :: .blk b5 (.cells [.int .i64 e].toArray 3 (0, 0)) :: H) rfl hle3 zpk ?_
  (refine cm_C20_1 ?_)
  refine WE.act1 14 (by decide +kernel) rfl rfl (fun c h => by cases h) ?_
  (try (refine st_C20_1 ?_; intros))
  refine w_callF Try.func16 ?_ (hs := columnsT_any l (by omega) _ _ _)
  rintro v m4 H4 ⟨hle4, rfl, rfl⟩
  (try (refine st_C20_1 ?_; intros))
  refine WQ.acted (B := []) (U := .blk b6 (.cells [.bool false].toArray 4 (0, 0)) :: .blk b5 (.cells [.int .i64 e].toArray 3 (0, 0)) :: H) rfl hle4 zpk ?_
  (refine cm_C20_1 ?_)
  refine WE.act1 22 (by decide +kernel) rfl rfl (fun c h => by cases h) ?_
  (try (refine st_C20_1 ?_; intros))
  refine w_callF Try.func21 ?_ (hs := edge_any l (by omega) k _ _ _)
  rintro v m5 H5 ⟨hle5, rfl, rfl⟩
  (try (refine st_C20_1 ?_; intros))
  refine WQ.acted (B := []) (U := .blk b6 (.cells [.bool false].toArray 4 (0, 0)) :: .blk b5 (.cells [.int .i64 e].toArray 3 (0, 0)) :: H) rfl hle5 zpk ?_
  (refine cm_C20_1 ?_)
  refine WE.act1 30 (by decide +kernel) rfl rfl (fun c h => by cases h) ?_
  (try (refine st_C20_1 ?_; intros))
  refine w_callF Try.func28 ?_ (hs := reverse_any l (by omega) _ _ _)
  rintro v m6 H6 ⟨hle6, rfl, rfl⟩
  (try (refine st_C20_1 ?_; intros))
  refine WQ.acted (B := []) (U := .blk b6 (.cells [.bool false].toArray 4 (0, 0)) :: .blk b5 (.cells [.int .i64 e].toArray 3 (0, 0)) :: H) rfl hle6 zpk ?_
  (refine cm_C20_1 ?_)
  refine WE.done (by decide +kernel) ?_
  have hm6 : m.le m6 := hle1.trans (hle2.trans (hle3.trans (hle4.trans (hle5.trans hle6))))
  (try (refine st_C20_1 ?_; intros))
  refine w_callF Try.func17 ?_ (hs := each_any _ _ _ _)
  rintro v m6 H7 ⟨bE, rfl, rfl, rfl⟩
  (try (refine st_C20_1 ?_; intros))
  refine w_callF Try.func33 ?_ (hs := backC_any _ _ _ _)
  rintro v m6 H7 ⟨bB, rfl, rfl, rfl⟩
  (refine st_C20_1 ?_; intros; rename_i b10)
  refine WC.persist (b := bE) (by (repeat (first | exact Out.here | apply Out.there))) ?_
  intro m7 hle7 hbE
  refine WC.persist (b := bB) (by (repeat (first | exact Out.here | apply Out.there))) ?_
  intro m8 hle8 hbB
  replace hbE := hle8 _ _ hbE
  have hm8 : m.le m8 := hm6.trans (hle7.trans hle8)
  refine WC.weak (r' := [(64, .func (.func 43) #[] #[.pointer (some ⟨bE, 0, none⟩)]), (10, .pointer (some ⟨b10, 0, none⟩)), (9, .func (.func 53) #[] #[.pointer (some ⟨bB, 0, none⟩)]), (8, .func (.func 43) #[] #[.pointer (some ⟨bE, 0, none⟩)]), (7, .pointer (some ⟨b7, 0, none⟩)), (6, .pointer (some ⟨b6, 0, none⟩)), (5, .pointer (some ⟨b5, 0, none⟩)), (0, str l), (1, .int .i64 k)]) (H' := [.blk b10 (.cells [.int .i64 0].toArray 3 (0, 0)), .blk b7 (.cells [.slice a (clusters l).length cp].toArray 42 (0, 0)), .row a cp 38 3 E, .blk b6 (.cells [.bool false].toArray 4 (0, 0)), .blk b5 (.cells [.int .i64 e].toArray 3 (0, 0))] ++ H) zsb zpk ?_
  refine WC.rangeLeave (encs := fun c : Cl => [c.v]) (xs := clusters l) (Cap := TextAt bE l) (lb := [.pointer (some ⟨bE, 0, none⟩)]) (ps := [65]) (Hc := H)
    (J := fun pre m' Hl => m.le m' ∧ ∃ n : Nat, n ≤ pre.length ∧ Hl = [.blk b10 (.cells [.int .i64 (n : Int)].toArray 3 (0, 0)), .blk b7 (.cells [.slice a (clusters l).length cp].toArray 42 (0, 0)), .row a cp 38 3 E, .blk b6 (.cells [.bool false].toArray 4 (0, 0)), .blk b5 (.cells [.int .i64 e].toArray 3 (0, 0))])
    rfl Try.func43 rfl rfl (each_seq l (by omega) bE) hbE (fun _ => rfl) rfl (fun _ _ _ _ h hm => ⟨h.1.trans hm, h.2⟩) (.cons (.cons (.cons (.cons (.cons .nil))))) ⟨hm8, 0, Nat.le_refl _, rfl⟩ ?_ ?_
  · rintro lp pre c post hx m9 Hl ⟨hle9, n, hn, rfl⟩ hm9 Hfr hfr
    have hs := sum_pre hx
    (try (refine st_C20_1 ?_; intros))
    refine WQ.assigned (.cons (.cons (.cons (.cons (.cons .nil))))) (Mem.le.refl _) ?_
    intro Hfr2
    by_cases hne : (n : Int) = e
    · (try (refine st_C20_1 ?_; intros))
      exact WQ.roundExit (Hl := [_, _, _, _, _]) (fun w h => h) (Mem.le.refl _) ⟨rfl, hle9, n, by rw [List.length_append]; omega, rfl⟩
    · (try (refine st_C20_1 ?_; intros))
      exact WQ.roundOn (Hl := [_, _, _, _, _]) (fun w h => h) (Mem.le.refl _) ⟨hle9, n + 1, by rw [List.length_append]; exact Nat.succ_le_succ hn, rfl⟩
  rintro D1 pre m9 Hl ⟨hle9, n, hn, rfl⟩ hm9
  (try (refine st_C20_1 ?_; intros))
  refine WC.rangeLeave (encs := fun c : Cl => [c.v]) (xs := (clusters l).reverse) (Cap := TextAt bB l) (lb := [.pointer (some ⟨bB, 0, none⟩)]) (ps := [74]) (Hc := .blk D1 (.deferred (some [])) :: H)
    (J := fun pre m' Hl => m.le m' ∧ ∃ n : Nat, n ≤ pre.length ∧ Hl = [.blk b10 (.cells [.int .i64 (((clusters l).length : Int) - (n : Int))].toArray 3 (0, 0)), .blk b7 (.cells [.slice a (clusters l).length cp].toArray 42 (0, 0)), .row a cp 38 3 E, .blk b6 (.cells [.bool false].toArray 4 (0, 0)), .blk b5 (.cells [.int .i64 e].toArray 3 (0, 0))])
    rfl Try.func53 rfl rfl (backC_seq l (by omega) bB) (hm9 _ _ hbB) (fun _ => rfl) rfl (fun _ _ _ _ h hm => ⟨h.1.trans hm, h.2⟩) (.cons (.cons (.cons (.cons (.cons .nil))))) ⟨hle9, 0, Nat.le_refl _, by rw [show ((clusters l).length : Int) - ((0 : Nat) : Int) = ((clusters l).length : Int) by omega]⟩ ?_ ?_
  · rintro lp pre c post hx m10 Hl ⟨hle10, n, hn, rfl⟩ hm10 Hfr hfr
    have hpl : pre.length < (clusters l).length := by have := congrArg List.length hx; rw [List.length_reverse, List.length_append, List.length_cons] at this; omega
    have hsub : ((clusters l).length : Int) - (((clusters l).length : Int) - (n : Int)) = (n : Int) := by omega
    (try (refine st_C20_1 ?_; intros))
    refine WQ.assigned (.cons (.cons (.cons (.cons (.cons .nil))))) (Mem.le.refl _) ?_
    intro Hfr2
    by_cases hne : (n : Int) = e
    · (try (refine st_C20_1 ?_; intros))
      exact WQ.roundExit (Hl := [_, _, _, _, _]) (fun w h => h) (Mem.le.refl _) ⟨rfl, hle10, n, by rw [List.length_append]; omega, rfl⟩
    · (try (refine st_C20_1 ?_; intros))
      rw [show ((clusters l).length : Int) - (n : Int) - 1 = ((clusters l).length : Int) - ((n + 1 : Nat) : Int) by omega]
      exact WQ.roundOn (Hl := [_, _, _, _, _]) (fun w h => h) (Mem.le.refl _) ⟨hle10, n + 1, by rw [List.length_append]; exact Nat.succ_le_succ hn, rfl⟩
  rintro D2 pre2 m10 Hl ⟨hle10, n2, hn2, rfl⟩ hm10
  replace hbE := hm9 _ _ hbE
  replace hbB := hm10 _ _ (hm9 _ _ hbB)
  replace hbE := hm10 _ _ hbE
  have hgetE : ∀ (u : Nat) (x : Cl), (clusters l)[u]? = some x → E[u]? = some x.cs := fun u x h => by rw [← hE, List.getElem?_map, h]; rfl
  (try (refine st_C20_1 ?_; intros))
  refine WC.rangeFuncM (encs := fun c : Cl => [c.v]) (xs := (clusters l).reverse) (Cap := TextAt bB l) (lb := [.pointer (some ⟨bB, 0, none⟩)]) (ps := [86]) (Hc := .blk D2 (.deferred (some [])) :: .blk D1 (.deferred (some [])) :: H)
    (J := fun pre m' Hl => m.le m' ∧ Hl = [.blk b10 (.cells [.int .i64 (((clusters l).length : Int) - (pre.length : Int))].toArray 3 (0, 0)), .blk b7 (.cells [.slice a (clusters l).length cp].toArray 42 (0, 0)), .row a cp 38 3 E, .blk b6 (.cells [.bool false].toArray 4 (0, 0)), .blk b5 (.cells [.int .i64 e].toArray 3 (0, 0))]) (Jx := fun _ _ _ _ => False)
    rfl Try.func53 rfl rfl (backC_seq l (by omega) bB) hbB (fun _ => rfl) rfl (fun _ _ _ _ h hm => ⟨h.1.trans hm, h.2⟩) (fun _ _ _ _ _ h _ => h) (.cons (.cons (.cons (.cons (.cons .nil))))) ⟨hle10, by rw [show ((clusters l).length : Int) - (([] : List Cl).length : Int) = ((clusters l).length : Int) by simp]⟩ ?_ ?_ ?_
  · rintro lp pre c post hx m11 Hl ⟨hle11, rfl⟩ hm11 Hfr hfr
    have hpl : pre.length < (clusters l).length := by have := congrArg List.length hx; rw [List.length_reverse, List.length_append, List.length_cons] at this; omega
    have hget := hgetE ((clusters l).length - 1 - pre.length) c (by
      have h1 : (clusters l).reverse[pre.length]? = some c := by rw [hx, List.getElem?_append_right (Nat.le_refl _), Nat.sub_self]; rfl
      rw [← h1, List.getElem?_reverse hpl])
    have hz : ((clusters l).length : Int) - (pre.length : Int) - 1 = (((clusters l).length - 1 - pre.length : Nat) : Int) := by omega
    (try (refine st_C20_1 ?_; intros))
    refine WQ.assigned (.cons (.cons (.cons (.cons (.cons (.cons .nil)))))) (Mem.le.refl _) ?_
    intro Hfr2
    (try (refine st_C20_1 ?_; intros))
    rw [hz]
    refine WC.rowSome (a := a) (es := E) zhs (by omega) ?_
    rintro a0 rfl
    (try (refine st_C20_1 ?_; intros))
    rw [show (((clusters l).length - 1 - pre.length : Nat) : Int) = ((clusters l).length : Int) - ((pre ++ [c]).length : Int) by rw [List.length_append, List.length_singleton]; omega]
    exact WQ.roundOn (Hl := [_, _, _, _, _]) (fun w h => h.drop) (Mem.le.refl _) ⟨hle11, rfl⟩
  · rintro D3 m11 Hl ⟨hle11, rfl⟩ hm11
    replace hbE := hm11 _ _ hbE
    rw [show ((clusters l).length : Int) - ((clusters l).reverse.length : Int) = ((0 : Nat) : Int) by rw [List.length_reverse]; omega]
    (try (refine st_C20_1 ?_; intros))
    refine WC.rangeFuncM (encs := fun c : Cl => [c.v]) (xs := clusters l) (Cap := TextAt bE l) (lb := [.pointer (some ⟨bE, 0, none⟩)]) (ps := [100]) (Hc := .blk D3 (.deferred (some [])) :: .blk D2 (.deferred (some [])) :: .blk D1 (.deferred (some [])) :: H)
      (J := fun pre m' Hl => m.le m' ∧ Hl = [.blk b10 (.cells [.int .i64 (pre.length : Int)].toArray 3 (0, 0)), .blk b7 (.cells [.slice a (clusters l).length cp].toArray 42 (0, 0)), .row a cp 38 3 E, .blk b6 (.cells [.bool false].toArray 4 (0, 0)), .blk b5 (.cells [.int .i64 e].toArray 3 (0, 0))]) (Jx := fun _ _ _ _ => False)
      rfl Try.func43 rfl rfl (each_seq l (by omega) bE) hbE (fun _ => rfl) rfl (fun _ _ _ _ h hm => ⟨h.1.trans hm, h.2⟩) (fun _ _ _ _ _ h _ => h) (.cons (.cons (.cons (.cons (.cons .nil))))) ⟨hle11, rfl⟩ ?_ ?_ ?_
    · rintro lp pre c post hx m12 Hl ⟨hle12, rfl⟩ hm12 Hfr hfr
      have hs := sum_pre hx
      have hpl : pre.length < (clusters l).length := by rw [hx]; simp
      have hget := hgetE pre.length c (by rw [hx, List.getElem?_append_right (Nat.le_refl _), Nat.sub_self]; rfl)
      (try (refine st_C20_1 ?_; intros))
      refine WQ.assigned (.cons (.cons (.cons (.cons (.cons (.cons .nil)))))) (Mem.le.refl _) ?_
      intro Hfr2
      refine WC.rowSome (a := a) (es := E) zhs (by omega) ?_
      rintro a0 rfl
      (try (refine st_C20_1 ?_; intros))
      rw [show (pre.length : Int) + 1 = ((pre ++ [c]).length : Int) by rw [List.length_append, List.length_singleton]; omega]
      exact WQ.roundOn (Hl := [_, _, _, _, _]) (fun w h => h.drop) (Mem.le.refl _) ⟨hle12, rfl⟩
    · rintro D4 m12 Hl ⟨hle12, rfl⟩ hm12
      (try (refine st_C20_1 ?_; intros))
      refine w_callF Try.func20 ?_ (hs := at_any l (by omega) k _ _ _)
      rintro v m13 H13 ⟨hle13, rfl, rfl⟩
      obtain ⟨c1, e1, o1, hf1, hf2, hf3⟩ := at_forms (atR (clusters l) k)
      rw [hf1]
      (refine st_C20_1 ?_; intros; rename_i q1)
      refine w_callF Try.func34 ?_ (hs := refAt_any l (by omega) k _ _ _)
      rintro v m13 H13 ⟨rfl, rfl, rfl⟩
      rw [hf2]
      (refine st_C20_1 ?_; intros; rename_i q2)
      refine w_callF Try.func27 ?_ (hs := under_any l (by omega) k _ _ _)
      rintro v m14 H14 ⟨hle14, rfl, rfl⟩
      obtain ⟨c2, e2, o2, hg1, hg2, hg3⟩ := at_forms (underR (clusters l) k)
      rw [hg1]
      (refine st_C20_1 ?_; intros; rename_i q3)
      refine w_callF Try.func35 ?_ (hs := refUnder_any l (by omega) k _ _ _)
      rintro v m14 H14 ⟨rfl, rfl, rfl⟩
      rw [hg2]
      have hm14 : m.le m14 := hle12.trans (hle13.trans hle14)
      have t1 : (true == dcd ((0 : Int) = 0)) = true := by rw [dcd_true rfl]; rfl
      have t2 : (false == dcd ((5 : Int) = 0)) = true := by rw [dcd_false (by decide)]; rfl
      clear hf1 hf2 hg1 hg2
      rcases hf3 with ⟨rfl, rfl⟩ | ⟨rfl, rfl⟩ <;> rcases hg3 with ⟨rfl, rfl⟩ | ⟨rfl, rfl⟩
      all_goals
        (try (refine st_C20_1 ?_; intros))
        refine w_callF Try.func11 ?_ (hs := works_true hm14 _ _)
        rintro v m15 H15 ⟨hle15, rfl, rfl⟩
        (try (refine st_C20_1 ?_; intros))
        refine WQ.mark (H1 := [_, _, _, _, _, _, _, _, _] ++ (_ :: _ :: _ :: H)) (List.perm_middle (l₁ := [_, _, _, _, _, _, _, _, _])) ?_
        refine WQ.mark (H1 := [_, _, _, _, _, _, _, _, _] ++ (_ :: _ :: H)) (List.perm_middle (l₁ := [_, _, _, _, _, _, _, _, _])) ?_
        refine WQ.mark (H1 := [_, _, _, _, _, _, _, _, _] ++ (_ :: H)) (List.perm_middle (l₁ := [_, _, _, _, _, _, _, _, _])) ?_
        refine WQ.mark (H1 := [_, _, _, _, _, _, _, _, _] ++ H) (List.perm_middle (l₁ := [_, _, _, _, _, _, _, _, _])) ?_
        exact q_fin0 (H0 := H) ⟨rfl, hle15⟩ (hd := zpk)
    · intro D cd pre m2 Hl _ h
      exact h.elim
  · intro D cd pre m2 Hl _ h
    exact h.elim
end Go.Proofs.Ytpghpbknjdnkkaa

/-
  A walk's engine, sixteenth part: how a law's arguments are read, ahead of the call and behind it. No condition.
-/
set_option linter.all false
namespace Go.Eng
open Go Go.RowKit Go.ChangeShapes Go.WideShapes Go.ChangeMaps
section
variable {H : Type} {enc : TypeId × Value → H} {P : Program}
theorem same_below {W W' : World} (hb : Below W.heap.size W W') {p : MemPlace} (hp : p.block < W.heap.size) : W.sameAt W' p := by
  cases p with
  | cell b off =>
    have h := hb.block b hp
    show W'.cell? ⟨b, off, none⟩ = W.cell? ⟨b, off, none⟩
    simp only [World.cell?, h]
  | map b => exact hb.block b hp
theorem trod_again {W W' : World} {sp : Nat → Bool} {t : TypeId} {v : Value} {d : DataW H} {p : List MemPlace} (hl : laidOutB P = true) (ht : t < P.types.size) (hr : P.readableRec t = true)
    (h : DataW.Trod enc P W 0 (fun _ => true) true t v d p) (hlt : ∀ q ∈ p, q.block < W.heap.size) (hb : Below W.heap.size W W') (hs : ∀ q ∈ p, sp q.block = true) : DataW.Trod enc P W' 0 sp true t v d p := by
  obtain ⟨n, hn⟩ := h
  have h1 := DataW.trod_carry (w' := W') n _ _ _ hn (fun q hq => same_below hb (hlt q hq))
  exact ⟨n, DataW.trod_respare (kids_book hl hr) (fun t e hT hu => book_sized hr hT hu) n _ _ _ ⟨ht, book_self t⟩ h1 hs⟩
theorem args_again {W W' : World} {sp : Nat → Bool} (hl : laidOutB P = true) (hb : Below W.heap.size W W') : ∀ {ts : List TypeId} {vs : List Value} {ds : List (DataW H)} {p : List MemPlace},
    (∀ t ∈ ts, t < P.types.size ∧ P.readableRec t = true) → DataW.TrodAll enc P W 0 (fun _ => true) true ts vs ds p → (∀ q ∈ p, sp q.block = true) → DataW.TrodAll enc P W' 0 sp true ts vs ds p
  | [], [], [], _, _, h, _ => h
  | t :: ts, v :: vs, d :: ds, p, hts, h, hs => by
    have hlt := DataW.TrodAll.lt h
    obtain ⟨a, b, h1, h2, e⟩ := h
    subst e
    obtain ⟨g1, g2⟩ := hts t List.mem_cons_self
    exact ⟨a, b, trod_again hl g1 g2 h1 (fun q hq => hlt q (List.mem_append_left _ hq)) hb (fun q hq => hs q (List.mem_append_left _ hq)),
      args_again hl hb (fun t ht => hts t (List.mem_cons_of_mem _ ht)) h2 (fun q hq => hs q (List.mem_append_right _ hq)), rfl⟩
/-- a law that says true, and leaves all that it was handed -/
theorem post_true {f : Func} {s : ChangeSpec} {apart fresh handsOn again : Bool} {W W' : World} {args : Array Value} {ds gs : List (DataW H)} {before : List MemPlace} {tb : TypeId}
    (hW : DataW.Whole enc P f.params.toList s.vars apart W args.toList ds gs before) (hvars : s.vars = []) (hfn : s.fn H (ds ++ gs) = { results := [.lit (.bool true)], args := ds })
    (hres : f.resultTypes = #[tb]) (htb : P.underlying tb = some .bool) (hl : laidOutB P = true) (hts : (f.params.toList.all fun t => decide (t < P.types.size) && P.readableRec t) = true) (hb : Below W.heap.size W W') :
    s.post enc P f apart fresh handsOn again W args (.bool true) W' := by
  have hW2 := hW
  obtain ⟨p, q, hA, hV, e, _, _⟩ := hW
  rw [hvars] at hV
  obtain ⟨rfl, rfl⟩ := trodVars_none hV
  rw [List.append_nil] at e
  subst e
  have hts' : ∀ t ∈ f.params.toList, t < P.types.size ∧ P.readableRec t = true := fun t ht => by simpa using List.all_eq_true.1 hts t ht
  refine post_below (pa := before) (pv := []) hW2 (fun _ _ _ => ?_) (fun sp hs => ?_) (fun _ _ => ?_) (by simp) hb ?_
  · rw [hfn, hres]; exact trodAll_cons_mk (shut_bool htb _) trodAll_mk0
  · rw [hfn]; exact args_again hl hb hts' hA hs
  · rw [hfn, hvars]; rfl
  · intro j t r h1 h2
    rw [hres] at h1 h2
    match j, h1 with
    | 0, h1 =>
      simp at h1; subst h1
      simp [Value.resultList] at h2
      subst h2
      exact okWide_bool_mk htb _
end
end Go.Eng

