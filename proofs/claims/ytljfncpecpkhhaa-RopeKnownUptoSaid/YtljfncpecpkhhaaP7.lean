/-
  Parts of a walk, joined: O9 O10 OT3 O14 O15 OT4 O17 OT5 O11 O16 O19 EngZD OSH O20 O12 O13 O21 O22 EngQS. No condition.
-/
import Derived.Test.YtljfncpecpkhhaaP4
import Derived.Test.YtljfncpecpkhhaaP6
import Derived.Shelf.Strings.Builder1
import Derived.Shelf.Strings.Builder2
import Derived.Shelf.Strings.BuilderF
import Derived.Shelf.Strings.Search1
import Derived.Shelf.Strings.Search2
import Derived.Shelf.Strings.Search3
import Derived.Shelf.LaysM
import Derived.Shelf.Strings.Shaped
import Derived.Shelf.Strings.Prefix
import Derived.Shelf.Bits.Mul64
import Derived.Shelf.Strings.Repeat
import Derived.Test.YtljfncpecpkhhaaProg
import Derived.JoinedCond
set_option linter.all false
/-
  The walk of ropes' iterator Pieces. No condition.
-/
namespace Go.Eng
open Go Go.RowKit
theorem Tail.app {Hfr : SHeap} : ∀ {H : SHeap}, Tail Hfr (H ++ Hfr) H
  | [] => .nil
  | _ :: _ => .cons Tail.app
theorem Tail.all {H : SHeap} : Tail [] H H := by
  have := Tail.app (Hfr := []) (H := H)
  rwa [List.append_nil] at this
theorem drops_app {w0 w : World} {m : Mem} : ∀ {X H : SHeap}, Sat w0 m (X ++ H) w → Sat w0 m H w
  | [], _, h => h
  | _ :: _, _, h => drops_app (h.drop)
theorem perm_frame (X H1 F : SHeap) : List.Perm (X ++ (H1 ++ F)) ((X ++ F) ++ H1) := by
  rw [List.append_assoc]
  exact List.Perm.append_left X List.perm_append_comm
end Go.Eng
namespace Go.Proofs.Ytljfncpecpkhhaa
open Go Go.Eng
set_option maxRecDepth 100000
set_option maxHeartbeats 4000000
set_option linter.all false
attribute [local irreducible] WL WC WQ QFun QLoop Does Q1 QRound QAssign Go.Addr.add
attribute [local irreducible] begunK lackOf begunOf cutAt
/-- where the iterator stands behind some parts -/
def AtP (L : List UInt8) (b3 b4 b5 by_ lp : Nat) (J : List Pc → Mem → SHeap → Prop) (A : List UInt8) (m' : Mem) (Hl : SHeap) : Prop :=
  ∃ (x y z : Int) (n c : Nat) (told : List Pc) (H1 : SHeap), n = A.length - c ∧ c = cutAt A ∧ [Value.int .u8 x, .int .u8 y, .int .u8 z].take n = (A.drop c).map (fun b => Value.int .u8 (b.toNat : Int)) ∧ pieces L = told ++ from_ L c ∧ Hl = [.blk b5 (.cells [.int .i64 (c : Int)].toArray 3 (0, 0)), .blk b4 (.cells [.int .i64 (n : Int)].toArray 3 (0, 0)), .blk b3 (.cells [.int .u8 x, .int .u8 y, .int .u8 z].toArray 89 (0, 0)), .blk by_ (.cells [.func (.yield lp) #[] #[]].toArray 88 (0, 0))] ++ H1 ∧ J told m' H1
/-- where it was left -/
def LeftP (L : List UInt8) (b3 b4 b5 by_ lp : Nat) (Jx : List Pc → Mem → SHeap → Prop) (cd : Code) (m' : Mem) (Hl : SHeap) : Prop :=
  cd = .ret ∧ ∃ (X H1 : SHeap) (told : List Pc), Hl = X ++ H1 ∧ told <+: pieces L ∧ Jx told m' H1
theorem sq_O9_1 {G : Prop} (h : G := by (repeat (first | (refine sp ?_; (repeat intro zzc)) | (refine WL.slArrH rfl rfl (by (first | with_reducible exact natz _ | with_reducible exact natz0 | with_reducible exact natz1 | with_reducible exact natz2 | with_reducible exact natz3 | with_reducible exact natz4 | with_reducible exact natz8 | (apply natz_add; (· first | with_reducible exact natz _ | with_reducible exact natz0 | with_reducible exact natz1 | with_reducible exact natz2 | with_reducible exact natz3 | with_reducible exact natz4 | with_reducible exact natz8); (· first | with_reducible exact natz _ | with_reducible exact natz0 | with_reducible exact natz1 | with_reducible exact natz2 | with_reducible exact natz3 | with_reducible exact natz4 | with_reducible exact natz8)) | (apply natz_sub; (· first | with_reducible exact natz _ | with_reducible exact natz0 | with_reducible exact natz1 | with_reducible exact natz2 | with_reducible exact natz3 | with_reducible exact natz4 | with_reducible exact natz8); (· first | with_reducible exact natz _ | with_reducible exact natz0 | with_reducible exact natz1 | with_reducible exact natz2 | with_reducible exact natz3 | with_reducible exact natz4 | with_reducible exact natz8); (· omega)) | exact (Int.toNat_of_nonneg (by omega)).symm)) rfl rfl rfl (by omega) ?_) | (refine WL.slArr rfl rfl rfl rfl ?_) | (refine iConv rfl ?_; refine WL.bytesBlk rfl zhs (by assumption) (by assumption) rfl rfl rfl rfl rfl ?_))); exact WQ.q1 rfl) : G := h
theorem cm_O9_1 {G G' : Prop} (next : G') (h : Bx G' → G := by intro zzn; (try (refine wcal 0 ?_ (hwl := by intro zm zF zle; exact sq_O9_1))); (try (refine wcal 1 ?_ (hwl := by intro zm zF zle; exact sq_O9_1))); (try (refine wcal 2 ?_ (hwl := by intro zm zF zle; exact sq_O9_1))); (try (refine wcal 3 ?_ (hwl := by intro zm zF zle; exact sq_O9_1))); (try (refine wcal 4 ?_ (hwl := by intro zm zF zle; exact sq_O9_1))); (try (refine wcal 5 ?_ (hwl := by intro zm zF zle; exact sq_O9_1))); (try (refine wcal 6 ?_ (hwl := by intro zm zF zle; exact sq_O9_1))); (try (refine wcal 7 ?_ (hwl := by intro zm zF zle; exact sq_O9_1))); (try (refine wcal 8 ?_ (hwl := by intro zm zF zle; exact sq_O9_1))); (try (refine wcal 9 ?_ (hwl := by intro zm zF zle; exact sq_O9_1))); (try (refine wcal 10 ?_ (hwl := by intro zm zF zle; exact sq_O9_1))); (try (refine wcal 11 ?_ (hwl := by intro zm zF zle; exact sq_O9_1))); (try (refine wcal 12 ?_ (hwl := by intro zm zF zle; exact sq_O9_1))); (try (refine wcal 13 ?_ (hwl := by intro zm zF zle; exact sq_O9_1))); (try (refine wcal 14 ?_ (hwl := by intro zm zF zle; exact sq_O9_1))); (try (refine wcal 15 ?_ (hwl := by intro zm zF zle; exact sq_O9_1))); (try (refine wcal 16 ?_ (hwl := by intro zm zF zle; exact sq_O9_1))); (try (refine wcal 17 ?_ (hwl := by intro zm zF zle; exact sq_O9_1))); (try (refine wcal 18 ?_ (hwl := by intro zm zF zle; exact sq_O9_1))); (try (refine wcal 19 ?_ (hwl := by intro zm zF zle; exact sq_O9_1))); (try (refine wcal 20 ?_ (hwl := by intro zm zF zle; exact sq_O9_1))); (try (refine wcal 21 ?_ (hwl := by intro zm zF zle; exact sq_O9_1))); (try (refine wcal 22 ?_ (hwl := by intro zm zF zle; exact sq_O9_1))); (try (refine wcal 23 ?_ (hwl := by intro zm zF zle; exact sq_O9_1))); (try (refine wcal 24 ?_ (hwl := by intro zm zF zle; exact sq_O9_1))); (try (refine wcal 25 ?_ (hwl := by intro zm zF zle; exact sq_O9_1))); (try (refine wcal 26 ?_ (hwl := by intro zm zF zle; exact sq_O9_1))); (try (refine wcal 27 ?_ (hwl := by intro zm zF zle; exact sq_O9_1))); (try (refine wcal 28 ?_ (hwl := by intro zm zF zle; exact sq_O9_1))); (try (refine wcal 29 ?_ (hwl := by intro zm zF zle; exact sq_O9_1))); (try (refine wcal 30 ?_ (hwl := by intro zm zF zle; exact sq_O9_1))); (try (refine wcal 31 ?_ (hwl := by intro zm zF zle; exact sq_O9_1))); (try (refine wcal 32 ?_ (hwl := by intro zm zF zle; exact sq_O9_1))); (try (refine wcal 33 ?_ (hwl := by intro zm zF zle; exact sq_O9_1))); (try (refine wcal 34 ?_ (hwl := by intro zm zF zle; exact sq_O9_1))); (try (refine wcal 35 ?_ (hwl := by intro zm zF zle; exact sq_O9_1))); (try (refine wcal 36 ?_ (hwl := by intro zm zF zle; exact sq_O9_1))); (try (refine wcal 37 ?_ (hwl := by intro zm zF zle; exact sq_O9_1))); (try (refine wcal 38 ?_ (hwl := by intro zm zF zle; exact sq_O9_1))); (try (refine wcal 39 ?_ (hwl := by intro zm zF zle; exact sq_O9_1))); (try (refine wcal 40 ?_ (hwl := by intro zm zF zle; exact sq_O9_1))); (try (refine wcal 41 ?_ (hwl := by intro zm zF zle; exact sq_O9_1))); exact zzn.out) : G := h ⟨next⟩
theorem st_O9_1 {G G' : Prop} (next : G') (h : Bx G' → G := by intro zzn; (first | ((refine st ?_; (repeat intro zzc)); (try ((first | (refine WL.slArrH rfl rfl (by (first | with_reducible exact natz _ | with_reducible exact natz0 | with_reducible exact natz1 | with_reducible exact natz2 | with_reducible exact natz3 | with_reducible exact natz4 | with_reducible exact natz8 | (apply natz_add; (· first | with_reducible exact natz _ | with_reducible exact natz0 | with_reducible exact natz1 | with_reducible exact natz2 | with_reducible exact natz3 | with_reducible exact natz4 | with_reducible exact natz8); (· first | with_reducible exact natz _ | with_reducible exact natz0 | with_reducible exact natz1 | with_reducible exact natz2 | with_reducible exact natz3 | with_reducible exact natz4 | with_reducible exact natz8)) | (apply natz_sub; (· first | with_reducible exact natz _ | with_reducible exact natz0 | with_reducible exact natz1 | with_reducible exact natz2 | with_reducible exact natz3 | with_reducible exact natz4 | with_reducible exact natz8); (· first | with_reducible exact natz _ | with_reducible exact natz0 | with_reducible exact natz1 | with_reducible exact natz2 | with_reducible exact natz3 | with_reducible exact natz4 | with_reducible exact natz8); (· omega)) | exact (Int.toNat_of_nonneg (by omega)).symm)) rfl rfl rfl (by omega) ?_) | (refine WL.slArr rfl rfl rfl rfl ?_) | (refine iConv rfl ?_; refine WL.bytesBlk rfl zhs (by assumption) (by assumption) rfl rfl rfl rfl rfl ?_) | ((refine iDraw ?_; (first | refine WC.drawAll rfl (by decide +kernel) ?_ | refine WC.draw 1 rfl (by decide +kernel) ?_ | refine WC.draw 2 rfl (by decide +kernel) ?_ | refine WC.draw 3 rfl (by decide +kernel) ?_ | refine WC.draw 4 rfl (by decide +kernel) ?_ | refine WC.draw 5 rfl (by decide +kernel) ?_ | refine WC.draw 6 rfl (by decide +kernel) ?_ | refine WC.draw 7 rfl (by decide +kernel) ?_ | refine WC.draw 8 rfl (by decide +kernel) ?_ | refine WC.draw 9 rfl (by decide +kernel) ?_ | refine WC.draw 10 rfl (by decide +kernel) ?_ | refine WC.draw 11 rfl (by decide +kernel) ?_ | refine WC.draw 12 rfl (by decide +kernel) ?_ | refine WC.draw 13 rfl (by decide +kernel) ?_ | refine WC.draw 14 rfl (by decide +kernel) ?_ | refine WC.draw 15 rfl (by decide +kernel) ?_ | refine WC.draw 16 rfl (by decide +kernel) ?_ | refine WC.draw 17 rfl (by decide +kernel) ?_ | refine WC.draw 18 rfl (by decide +kernel) ?_ | refine WC.draw 19 rfl (by decide +kernel) ?_ | refine WC.draw 20 rfl (by decide +kernel) ?_ | refine WC.draw 21 rfl (by decide +kernel) ?_ | refine WC.draw 22 rfl (by decide +kernel) ?_ | refine WC.draw 23 rfl (by decide +kernel) ?_ | refine WC.draw 24 rfl (by decide +kernel) ?_)); (repeat (refine WD.cons rfl (fun c h => by cases h) sq_O9_1 ?_)); refine WD.nil ?_)); (try (refine st ?_; (repeat intro zzc)))))) | ((first | (refine WL.slArrH rfl rfl (by (first | with_reducible exact natz _ | with_reducible exact natz0 | with_reducible exact natz1 | with_reducible exact natz2 | with_reducible exact natz3 | with_reducible exact natz4 | with_reducible exact natz8 | (apply natz_add; (· first | with_reducible exact natz _ | with_reducible exact natz0 | with_reducible exact natz1 | with_reducible exact natz2 | with_reducible exact natz3 | with_reducible exact natz4 | with_reducible exact natz8); (· first | with_reducible exact natz _ | with_reducible exact natz0 | with_reducible exact natz1 | with_reducible exact natz2 | with_reducible exact natz3 | with_reducible exact natz4 | with_reducible exact natz8)) | (apply natz_sub; (· first | with_reducible exact natz _ | with_reducible exact natz0 | with_reducible exact natz1 | with_reducible exact natz2 | with_reducible exact natz3 | with_reducible exact natz4 | with_reducible exact natz8); (· first | with_reducible exact natz _ | with_reducible exact natz0 | with_reducible exact natz1 | with_reducible exact natz2 | with_reducible exact natz3 | with_reducible exact natz4 | with_reducible exact natz8); (· omega)) | exact (Int.toNat_of_nonneg (by omega)).symm)) rfl rfl rfl (by omega) ?_) | (refine WL.slArr rfl rfl rfl rfl ?_) | (refine iConv rfl ?_; refine WL.bytesBlk rfl zhs (by assumption) (by assumption) rfl rfl rfl rfl rfl ?_) | ((refine iDraw ?_; (first | refine WC.drawAll rfl (by decide +kernel) ?_ | refine WC.draw 1 rfl (by decide +kernel) ?_ | refine WC.draw 2 rfl (by decide +kernel) ?_ | refine WC.draw 3 rfl (by decide +kernel) ?_ | refine WC.draw 4 rfl (by decide +kernel) ?_ | refine WC.draw 5 rfl (by decide +kernel) ?_ | refine WC.draw 6 rfl (by decide +kernel) ?_ | refine WC.draw 7 rfl (by decide +kernel) ?_ | refine WC.draw 8 rfl (by decide +kernel) ?_ | refine WC.draw 9 rfl (by decide +kernel) ?_ | refine WC.draw 10 rfl (by decide +kernel) ?_ | refine WC.draw 11 rfl (by decide +kernel) ?_ | refine WC.draw 12 rfl (by decide +kernel) ?_ | refine WC.draw 13 rfl (by decide +kernel) ?_ | refine WC.draw 14 rfl (by decide +kernel) ?_ | refine WC.draw 15 rfl (by decide +kernel) ?_ | refine WC.draw 16 rfl (by decide +kernel) ?_ | refine WC.draw 17 rfl (by decide +kernel) ?_ | refine WC.draw 18 rfl (by decide +kernel) ?_ | refine WC.draw 19 rfl (by decide +kernel) ?_ | refine WC.draw 20 rfl (by decide +kernel) ?_ | refine WC.draw 21 rfl (by decide +kernel) ?_ | refine WC.draw 22 rfl (by decide +kernel) ?_ | refine WC.draw 23 rfl (by decide +kernel) ?_ | refine WC.draw 24 rfl (by decide +kernel) ?_)); (repeat (refine WD.cons rfl (fun c h => by cases h) sq_O9_1 ?_)); refine WD.nil ?_)); (try (refine st ?_; (repeat intro zzc))))); (repeat ((first | (refine WL.slArrH rfl rfl (by (first | with_reducible exact natz _ | with_reducible exact natz0 | with_reducible exact natz1 | with_reducible exact natz2 | with_reducible exact natz3 | with_reducible exact natz4 | with_reducible exact natz8 | (apply natz_add; (· first | with_reducible exact natz _ | with_reducible exact natz0 | with_reducible exact natz1 | with_reducible exact natz2 | with_reducible exact natz3 | with_reducible exact natz4 | with_reducible exact natz8); (· first | with_reducible exact natz _ | with_reducible exact natz0 | with_reducible exact natz1 | with_reducible exact natz2 | with_reducible exact natz3 | with_reducible exact natz4 | with_reducible exact natz8)) | (apply natz_sub; (· first | with_reducible exact natz _ | with_reducible exact natz0 | with_reducible exact natz1 | with_reducible exact natz2 | with_reducible exact natz3 | with_reducible exact natz4 | with_reducible exact natz8); (· first | with_reducible exact natz _ | with_reducible exact natz0 | with_reducible exact natz1 | with_reducible exact natz2 | with_reducible exact natz3 | with_reducible exact natz4 | with_reducible exact natz8); (· omega)) | exact (Int.toNat_of_nonneg (by omega)).symm)) rfl rfl rfl (by omega) ?_) | (refine WL.slArr rfl rfl rfl rfl ?_) | (refine iConv rfl ?_; refine WL.bytesBlk rfl zhs (by assumption) (by assumption) rfl rfl rfl rfl rfl ?_) | ((refine iDraw ?_; (first | refine WC.drawAll rfl (by decide +kernel) ?_ | refine WC.draw 1 rfl (by decide +kernel) ?_ | refine WC.draw 2 rfl (by decide +kernel) ?_ | refine WC.draw 3 rfl (by decide +kernel) ?_ | refine WC.draw 4 rfl (by decide +kernel) ?_ | refine WC.draw 5 rfl (by decide +kernel) ?_ | refine WC.draw 6 rfl (by decide +kernel) ?_ | refine WC.draw 7 rfl (by decide +kernel) ?_ | refine WC.draw 8 rfl (by decide +kernel) ?_ | refine WC.draw 9 rfl (by decide +kernel) ?_ | refine WC.draw 10 rfl (by decide +kernel) ?_ | refine WC.draw 11 rfl (by decide +kernel) ?_ | refine WC.draw 12 rfl (by decide +kernel) ?_ | refine WC.draw 13 rfl (by decide +kernel) ?_ | refine WC.draw 14 rfl (by decide +kernel) ?_ | refine WC.draw 15 rfl (by decide +kernel) ?_ | refine WC.draw 16 rfl (by decide +kernel) ?_ | refine WC.draw 17 rfl (by decide +kernel) ?_ | refine WC.draw 18 rfl (by decide +kernel) ?_ | refine WC.draw 19 rfl (by decide +kernel) ?_ | refine WC.draw 20 rfl (by decide +kernel) ?_ | refine WC.draw 21 rfl (by decide +kernel) ?_ | refine WC.draw 22 rfl (by decide +kernel) ?_ | refine WC.draw 23 rfl (by decide +kernel) ?_ | refine WC.draw 24 rfl (by decide +kernel) ?_)); (repeat (refine WD.cons rfl (fun c h => by cases h) sq_O9_1 ?_)); refine WD.nil ?_)); (try (refine st ?_; (repeat intro zzc))))); (repeat revert zzc); exact zzn.out) : G := h ⟨next⟩
/-- what a rope's iterators lean on, whatever the rope's own parts lean on -/
def InP (b : Nat) (q : Option Addr) (C : Mem → Prop) (m : Mem) : Prop := m b = some (.cells [.pointer q].toArray 23 (0, 0)) ∧ C m
theorem ropePieces_gen {b : Nat} {q : Option Addr} {C : Mem → Prop} {parts : List (List UInt8)} {L : List UInt8} (hCm : ∀ m m', C m → m.le m' → C m') (hps : ∀ bq, SeqC Try.prog 53 [.pointer (some ⟨bq, 0, none⟩)] (fun s : List UInt8 => [str s]) parts (InP bq q C)) (hfl : parts.flatten = L) (hl : L.length ≤ 16777216) :
    SeqM Try.prog 45 [.pointer (some ⟨b, 0, none⟩)] (fun p : Pc => [p.v]) (pieces L) (InP b q C) := by
  intro w0 lp J Jx m H mJ mX hcap h0 hY
  obtain ⟨hb, hC⟩ := hcap
  refine Does.of_body Try.func45 rfl Try.ntmps45 rfl ?_
  (refine st_O9_1 ?_; intros; rename_i by_ b3 b4 b5)
  refine w_callF Try.func27 ?_ (hs := partsIt_any _ _ _)
  rintro v0 m H0 ⟨bq, rfl, rfl, rfl⟩
  refine WL.persist (b := bq) (by (repeat (first | exact Out.here | apply Out.there))) ?_
  intro m1 hle1 hbq
  (try (refine st_O9_1 ?_; intros))
  have hcap : InP bq q C m1 := ⟨hbq, hCm _ _ hC hle1⟩
  refine WC.rangeFunc (encs := fun s : List UInt8 => [str s]) (xs := parts) (Cap := InP bq q C) (lb := [.pointer (some ⟨bq, 0, none⟩)]) (ps := [13]) (Hc := [])
    (J := fun pre m' Hl => m.le m' ∧ AtP L b3 b4 b5 by_ lp J pre.flatten m' Hl) (Jx := fun cd _ m' Hl => LeftP L b3 b4 b5 by_ lp Jx cd m' Hl)
    rfl Try.func53 rfl rfl (hps bq) hcap (fun _ => rfl) rfl Tail.all ?_ ?_ ?_ ?_
  · refine ⟨hle1, 0, 0, 0, 0, 0, [], H, ?_, ?_, rfl, ?_, rfl, ?_⟩
    · rfl
    · exact cut_nil.symm
    · rfl
    · exact mJ _ _ _ _ h0 hle1
  · rintro lp2 pre s post hx m2 Hl ⟨hle2, x, y, z, n, c, told, H1, hn, hc, hhh, htold, rfl, hJ⟩ hm2 Hfr hfr
    simp only [List.cons_append, List.nil_append, List.append_assoc]
    (try (refine st_O9_1 ?_; intros))
    refine WQ.assignedIn (.cons (.cons (.cons (.cons Tail.app)))) (Mem.le.refl _) ?_
    intro Hfr2 hfr2
    simp only [List.cons_append]
    have hA : cutAt pre.flatten ≤ pre.flatten.length := cut_le _
    obtain ⟨h, hh⟩ : ∃ h, pre.flatten.drop c = h := ⟨_, rfl⟩
    have hhl : n = h.length := by rw [← hh, List.length_drop]; omega
    rw [hh] at hhh
    have hLx : L = pre.flatten ++ s ++ post.flatten := by rw [← hfl, hx]; simp
    have hLl : L.length = pre.flatten.length + s.length + post.flatten.length := by rw [hLx, List.length_append, List.length_append]
    have hn3 : n ≤ 3 := by have := held_le pre.flatten; rw [← hc, hh] at this; omega
    have htold0 := htold
    rw [hc] at htold
    obtain ⟨f1, f2, f3⟩ := part_told hLx htold (h := h) (by rw [← hh, hc])
    obtain ⟨S, hS⟩ : ∃ S, h ++ s = S := ⟨_, rfl⟩
    have hSl : S.length = n + s.length := by rw [← hS, List.length_append, ← hhl]
    (try (refine st_O9_1 ?_; intros))
    rw [hS] at f1 f2 f3 ⊢
    have hk3 : (begunOf S).1 ≤ 3 := (begun_le S).1
    have hkl : (begunOf S).1 ≤ S.length := (begun_le S).2
    refine w_callF Try.func46 ?_ (hs := open_any (by omega) _ _ _)
    rintro v1 m2 H9 ⟨rfl, rfl, rfl⟩
    generalize (begunOf S).1 = k at *
    (try (refine st_O9_1 ?_; intros))
    obtain ⟨U, hU⟩ : ∃ U, S.take (S.length - k) = U := ⟨_, rfl⟩
    have htl : U.length = S.length - k := by rw [← hU]; simp
    rw [hU] at f3 ⊢
    refine w_callF Try.func47 ?_ (hs := pieces_any _ _ _ _)
    rintro v1 m2 H9 ⟨bs, rfl, rfl, rfl⟩
    refine WL.persist (b := bs) (by (repeat (first | exact Out.here | apply Out.there))) ?_
    intro m3 hle3 hbs
    (try (refine st_O9_1 ?_; intros))
    have hkc : S.length - (S.length - k) = k := by omega
    refine WC.rangeFuncIn (lo := lp2) (Hc := Hfr2) hfr2 (encs := fun p : Pc => [p.v]) (xs := pieces (U)) (Cap := TextAt bs (U)) (lb := [.pointer (some ⟨bs, 0, none⟩)]) (ps := [29])
      (J := fun pre2 m' Hl => m.le m' ∧ ∃ H1, Hl = [.blk b5 (.cells [.int .i64 (c : Int)].toArray 3 (0, 0)), .blk b4 (.cells [.int .i64 (k : Int)].toArray 3 (0, 0)), .blk b3 (.cells [.int .u8 x, .int .u8 y, .int .u8 z].toArray 89 (0, 0)), .blk by_ (.cells [.func (.yield lp) #[] #[]].toArray 88 (0, 0))] ++ H1 ∧ J (told ++ pre2.map (Pc.sh c)) m' H1)
      (Jx := fun cd _ m' Hl => LeftP L b3 b4 b5 by_ lp Jx cd m' Hl)
      rfl Try.func75 rfl rfl (pieces_seq _ (by omega) bs) hbs (fun _ => rfl) rfl (.cons (.cons (.cons (.cons Tail.app)))) ?_ ?_ ?_ ?_
    · exact ⟨hle2.trans hle3, H1, rfl, by rw [List.map_nil, List.append_nil]; exact mJ _ _ _ _ hJ hle3⟩
    · rintro lp4 pre2 p2 post2 hx2 m4 Hl ⟨hle4, H4, rfl, hJ4⟩ hm4 Hfr4 hfr4
      simp only [List.cons_append, List.nil_append, List.append_assoc]
      have hmw := mem_w (l := U) (p := p2) (by rw [hx2]; simp)
      have hcl := cut_le (pre.flatten ++ s)
      have hal : (pre.flatten ++ s).length = pre.flatten.length + s.length := List.length_append
      (refine st_O9_1 ?_; intros; rename_i b9)
      refine WQ.assignedIn (.cons (.cons (.cons (.cons (.cons Tail.app))))) (Mem.le.refl _) ?_
      intro Hfr5 hfr5
      simp only [List.cons_append]
      (try (refine st_O9_1 ?_; intros))
      rw [show (p2.at_ : Int) + (c : Int) = ((p2.at_ + c : Nat) : Int) by omega]
      have hpc : pieces L = (told ++ pre2.map (Pc.sh c)) ++ p2.sh c :: (post2.map (Pc.sh c) ++ from_ L (cutAt (pre.flatten ++ s))) := by rw [f3, ← hc, hx2]; simp
      refine WL.heap (fun w h => h.perm (perm_frame [_, _, _, _, _] H4 Hfr5)) ?_
      refine WL.yield (vs := [(p2.sh c).v]) rfl rfl rfl (hY _ _ _ hpc m4 H4 _ hJ4 hle4) ?_ ?_
      · rintro m5 H9 ⟨H5, rfl, hJ5, hle5⟩
        refine WL.heap (fun w h => h.perm (perm_frame [_, _, _, _, _] H5 Hfr5).symm) ?_
        simp only [List.cons_append, List.nil_append]
        (try (refine st_O9_1 ?_; intros))
        refine WQ.roundOn (Hl := [_, _, _, _] ++ H5) (fun w h => by have := h.drop; simpa using this) hle5 ⟨hle4.trans hle5, H5, rfl, by simpa using hJ5⟩
      · rintro m5 H9 ⟨H5, rfl, hJ5, hle5⟩
        refine WL.heap (fun w h => h.perm (perm_frame [_, _, _, _, _] H5 Hfr5).symm) ?_
        simp only [List.cons_append, List.nil_append]
        (try (refine st_O9_1 ?_; intros))
        refine WQ.roundRet (Hl := [.blk b5 (.cells [.int .i64 (c : Int)].toArray 3 (0, 0)), .blk b4 (.cells [.int .i64 (k : Int)].toArray 3 (0, 0)), .blk b3 (.cells [.int .u8 x, .int .u8 y, .int .u8 z].toArray 89 (0, 0)), .blk by_ (.cells [.func (.yield lp) #[] #[]].toArray 88 (0, 0))] ++ H5) (fun w h => by have := h.drop; simpa using this) hle5 ⟨rfl, _, H5, _, rfl, ⟨_, by rw [hpc, List.append_assoc]; rfl⟩, hJ5⟩
    · rintro m4 Hl ⟨hle4, H4, rfl, hJ4⟩ hm4
      simp only [List.cons_append, List.nil_append, List.append_assoc]
      have hcl := cut_le (pre.flatten ++ s)
      have hal : (pre.flatten ++ s).length = pre.flatten.length + s.length := List.length_append
      (try (refine st_O9_1 ?_; intros))
      rw [show (c : Int) + (U.length : Int) = ((cutAt (pre.flatten ++ s) : Nat) : Int) by omega]
      have hdl : (S.drop U.length).length = k := by rw [List.length_drop]; omega
      obtain ⟨x', y', z', hlaid, htake⟩ := held3 (x := x) (y := y) (z := z) (S.drop U.length) (by omega)
      rw [hdl] at htake
      refine WC.drawE 6 ([.blk b5 (.cells [.int .i64 ((cutAt (pre.flatten ++ s) : Nat) : Int)].toArray 3 (0, 0)), .blk b4 (.cells [.int .i64 (k : Int)].toArray 3 (0, 0)), .blk by_ (.cells [.func (.yield lp) #[] #[]].toArray 88 (0, 0))]) (.blk b3 (.cells [.int .u8 x, .int .u8 y, .int .u8 z].toArray 89 (0, 0)) :: (H4 ++ Hfr2)) rfl (by decide +kernel) zpk ?_
      (refine cm_O9_1 ?_)
      refine WE.act1 5 (by decide +kernel) rfl rfl (fun c h => by cases h) ?_
      refine WL.copyS (L := [.int .u8 x, .int .u8 y, .int .u8 z]) (L' := [.int .u8 x', .int .u8 y', .int .u8 z']) rfl rfl (by omega) rfl rfl rfl (by (repeat (first | exact Repl.here | apply Repl.there))) (by simp; omega) hlaid rfl ?_
      (try (refine st_O9_1 ?_; intros))
      refine WQ.acted (B := []) (U := .blk b3 (.cells [.int .u8 x', .int .u8 y', .int .u8 z'].toArray 89 (0, 0)) :: (H4 ++ Hfr2)) rfl (Mem.le.refl _) zpk ?_
      refine WE.done (by decide +kernel) ?_
      (try (refine st_O9_1 ?_; intros))
      have hfl2 : (pre ++ [s]).flatten = pre.flatten ++ s := by simp
      refine WQ.roundOn (Hl := [.blk b5 (.cells [.int .i64 ((cutAt (pre.flatten ++ s) : Nat) : Int)].toArray 3 (0, 0)), .blk b4 (.cells [.int .i64 (k : Int)].toArray 3 (0, 0)), .blk b3 (.cells [.int .u8 x', .int .u8 y', .int .u8 z'].toArray 89 (0, 0)), .blk by_ (.cells [.func (.yield lp) #[] #[]].toArray 88 (0, 0))] ++ H4) ?_ (hle3.trans hm4) ⟨hle4, ?_⟩
      · intro w h
        have h2 := h.perm (List.Perm.cons _ (List.Perm.cons _ (List.Perm.swap _ _ _)))
        simpa using h2
      · rw [hfl2]
        exact ⟨x', y', z', k, _, _, H4, by omega, rfl, by rw [htake, htl, f2], by rw [f3, ← hc], rfl, hJ4⟩
    · rintro cd pre2 m4 Hl _ ⟨rfl, X, H4, told', rfl, hpre, hJ4⟩ hm4
      (try (refine st_O9_1 ?_; intros))
      exact WQ.roundRet (Hl := X ++ H4) (fun w h => h) (hle3.trans hm4) ⟨rfl, X, H4, told', rfl, hpre, hJ4⟩
  · rintro D m2 Hl ⟨hle2, x, y, z, n, c, told, H1, hn, hc, hhh, htold, rfl, hJ⟩ hm2
    rw [hfl] at hn hc hhh
    simp only [List.cons_append, List.nil_append, List.append_assoc]
    have hA : cutAt L ≤ L.length := cut_le _
    obtain ⟨h, hh⟩ : ∃ h, L.drop c = h := ⟨_, rfl⟩
    have hhl : n = h.length := by rw [← hh, List.length_drop]; omega
    have hn3 : n ≤ 3 := by have := held_le L; rw [← hc, hh] at this; omega
    rw [hh] at hhh
    have hend := rest_told (by rw [← hc]; exact htold)
    rw [← hc, hh] at hend
    (try (refine st_O9_1 ?_; intros))
    refine w_callF Try.func47 ?_ (hs := pieces_any _ _ _ _)
    rintro v1 m2 H9 ⟨bs, rfl, rfl, rfl⟩
    refine WL.persist (b := bs) (by (repeat (first | exact Out.here | apply Out.there))) ?_
    intro m3 hle3 hbs
    (try (refine st_O9_1 ?_; intros))
    refine WC.rangeFunc (Hc := []) (encs := fun p : Pc => [p.v]) (xs := pieces h) (Cap := TextAt bs h) (lb := [.pointer (some ⟨bs, 0, none⟩)]) (ps := [53])
      (J := fun pre2 m' Hl => m.le m' ∧ ∃ H1, Hl = [.blk b5 (.cells [.int .i64 (c : Int)].toArray 3 (0, 0)), .blk b4 (.cells [.int .i64 (n : Int)].toArray 3 (0, 0)), .blk b3 (.cells [.int .u8 x, .int .u8 y, .int .u8 z].toArray 89 (0, 0)), .blk by_ (.cells [.func (.yield lp) #[] #[]].toArray 88 (0, 0))] ++ (H1 ++ [.blk D (.deferred (some []))]) ∧ J (told ++ pre2.map (Pc.sh c)) m' H1)
      (Jx := fun cd _ m' Hl => m.le m' ∧ cd = .ret ∧ ∃ (X H1 : SHeap) (told : List Pc), Hl = X ++ (H1 ++ [.blk D (.deferred (some []))]) ∧ told <+: pieces L ∧ Jx told m' H1)
      rfl Try.func75 rfl rfl (pieces_seq _ (by omega) bs) hbs (fun _ => rfl) rfl Tail.all ?_ ?_ ?_ ?_
    · exact ⟨hle2.trans hle3, H1, rfl, by rw [List.map_nil, List.append_nil]; exact mJ _ _ _ _ hJ hle3⟩
    · rintro lp4 pre2 p2 post2 hx2 m4 Hl ⟨hle4, H4, rfl, hJ4⟩ hm4 Hfr4 hfr4
      simp only [List.cons_append, List.nil_append, List.append_assoc]
      have hmw := mem_w (l := h) (p := p2) (by rw [hx2]; simp)
      (refine st_O9_1 ?_; intros; rename_i b9)
      refine WQ.assignedIn (Hl := _ :: _ :: _ :: _ :: _ :: (H4 ++ [.blk D (.deferred (some []))])) (.cons (.cons (.cons (.cons (.cons (by have := Tail.app (Hfr := Hfr4) (H := H4 ++ [.blk D (.deferred (some []))]); simpa using this)))))) (Mem.le.refl _) ?_
      intro Hfr5 hfr5
      simp only [List.cons_append, List.append_assoc, List.nil_append]
      (try (refine st_O9_1 ?_; intros))
      rw [show (p2.at_ : Int) + (c : Int) = ((p2.at_ + c : Nat) : Int) by omega]
      have hpc : pieces L = (told ++ pre2.map (Pc.sh c)) ++ p2.sh c :: post2.map (Pc.sh c) := by rw [hend, hx2]; simp
      refine WL.heap (fun w h => h.perm (perm_frame [_, _, _, _, _] H4 (.blk D (.deferred (some [])) :: Hfr5))) ?_
      refine WL.yield (vs := [(p2.sh c).v]) rfl rfl rfl (hY _ _ _ hpc m4 H4 _ hJ4 hle4) ?_ ?_
      · rintro m5 H9 ⟨H5, rfl, hJ5, hle5⟩
        refine WL.heap (fun w h => h.perm (perm_frame [_, _, _, _, _] H5 (.blk D (.deferred (some [])) :: Hfr5)).symm) ?_
        simp only [List.cons_append, List.nil_append]
        (try (refine st_O9_1 ?_; intros))
        refine WQ.roundOn (Hl := [_, _, _, _] ++ (H5 ++ [.blk D (.deferred (some []))])) (fun w h => by have := h.drop; simpa using this) hle5 ⟨hle4.trans hle5, H5, rfl, by simpa using hJ5⟩
      · rintro m5 H9 ⟨H5, rfl, hJ5, hle5⟩
        refine WL.heap (fun w h => h.perm (perm_frame [_, _, _, _, _] H5 (.blk D (.deferred (some [])) :: Hfr5)).symm) ?_
        simp only [List.cons_append, List.nil_append]
        (try (refine st_O9_1 ?_; intros))
        refine WQ.roundRet (Hl := [] ++ (H5 ++ [.blk D (.deferred (some []))])) (fun w h => by have := h.drop.drop.drop.drop.drop; simpa using this) hle5 ⟨hle4.trans hle5, rfl, [], H5, _, rfl, ⟨_, by rw [hpc, List.append_assoc]; rfl⟩, hJ5⟩
    · rintro D2 m4 Hl ⟨hle4, H4, rfl, hJ4⟩ hm4
      rw [← hend] at hJ4
      (try (refine st_O9_1 ?_; intros))
      refine WQ.markNorm (H1 := [_, _, _, _] ++ (H4 ++ [.blk D (.deferred (some []))])) List.perm_append_comm ?_
      refine WQ.markNorm (H1 := [_, _, _, _] ++ H4) (by rw [← List.append_assoc]; exact List.perm_append_comm) ?_
      exact q_finNorm0 (H0 := H4) ⟨hle4, .inl hJ4⟩ (hd := fun w h => h.drop.drop.drop.drop)
    · rintro D2 cd pre2 m4 Hl _ ⟨hle4, rfl, X, H4, told', rfl, hpre, hJ4⟩ hm4
      (try (refine st_O9_1 ?_; intros))
      refine WQ.mark (H1 := X ++ (H4 ++ [.blk D (.deferred (some []))])) List.perm_append_comm ?_
      refine WQ.mark (H1 := X ++ H4) (by rw [← List.append_assoc]; exact List.perm_append_comm) ?_
      exact q_fin0 (H0 := H4) ⟨hle4, .inr ⟨told', hpre, hJ4⟩⟩ (hd := fun w h => drops_app h)
  · rintro D cd pre2 m4 Hl _ ⟨rfl, X, H4, told', rfl, hpre, hJ4⟩ hm4
    (try (refine st_O9_1 ?_; intros))
    refine WQ.mark (H1 := X ++ H4) List.perm_append_comm ?_
    exact q_fin0 (H0 := H4) ⟨hle1.trans hm4, .inr ⟨told', hpre, hJ4⟩⟩ (hd := fun w h => drops_app h)
theorem ropePieces_seq {b : Nat} {p : Value} {o : Option Nd} : SeqM Try.prog 45 [.pointer (some ⟨b, 0, none⟩)] (fun p : Pc => [p.v]) (pieces (rtxt o)) (RopeIn b p o) := by
  intro w0 lp J Jx m H mJ mX hcap h0 hY
  obtain ⟨hb, hT⟩ := hcap
  have hT0 := hT
  obtain ⟨a, v, rfl, ha, hv, ok, hl⟩ := hT
  exact ropePieces_gen (q := some ⟨a, 0, none⟩) (C := fun m => RopeT m (.pointer (some ⟨a, 0, none⟩)) o) (parts := partsR o) (fun m m' h hm => h.le hm) (fun bq => parts_seq) (partsR_txt o) hl w0 lp J Jx m H mJ mX ⟨hb, hT0⟩ h0 hY
theorem piecesNil_seq {b : Nat} : SeqM Try.prog 45 [.pointer (some ⟨b, 0, none⟩)] (fun p : Pc => [p.v]) [] (InP b none (fun _ => True)) :=
  ropePieces_gen (q := none) (C := fun _ => True) (parts := []) (L := []) (fun _ _ _ _ => trivial) (fun bq w0 l J Jx m H hc h0 hy => partsNil_seq w0 l J Jx m H hc.1 h0 hy) rfl (by simp)
end Go.Proofs.Ytljfncpecpkhhaa

/-
  The walks of ropes' Count and of the laws' works. No condition.
-/
namespace Go.Eng
def nBrk (ps : List Pc) : Nat := (ps.filter fun p => p.b).length
theorem nBrk_snoc (pre : List Pc) (x : Pc) : nBrk (pre ++ [x]) = nBrk pre + (if x.b then 1 else 0) := by
  unfold nBrk; rw [List.filter_append, List.length_append]; cases hx : x.b <;> simp [hx]
theorem nBrk_le (pre : List Pc) : nBrk pre ≤ pre.length := List.length_filter_le _ _
def tee : List UInt8 := [97, 195, 169, 10, 240, 159, 152, 128]
theorem tee_a : (pieces [97, 195]).length = 2 ∧ nBrk (pieces [97, 195]) = 1 := by decide
theorem tee_b : (pieces tee).length = 4 ∧ nBrk (pieces tee) = 0 := by decide
end Go.Eng
namespace Go.Proofs.Ytljfncpecpkhhaa
open Go Go.Eng
set_option maxRecDepth 100000
set_option maxHeartbeats 4000000
set_option linter.all false
attribute [local irreducible] WL WC WQ QFun QLoop Does Q1 QRound QAssign Go.Addr.add
attribute [local irreducible] nBrk
theorem count_any {p : Value} {s : List UInt8} (w0 : World) (m : Mem) (H : SHeap) (hp : RopeAt m p s) :
    Does Try.prog 25 #[p] w0 m H (fun v m' H' => m.le m' ∧ H' = H ∧ v = .tuple #[.int .i64 ((pieces s).length : Int), .int .i64 (nBrk (pieces s) : Int)]) := by
  obtain ⟨b, rfl⟩ := ropes_ptr hp
  obtain ⟨o, hT, ho⟩ := hp.node
  have hl := hp.len
  refine Does.of_body (args := [.pointer (some ⟨b, 0, none⟩)]) Try.func25 rfl Try.ntmps25 rfl ?_
  have hpl := pieces_length s
  (refine st ?_; intros; rename_i b4 b5)
  refine w_callF Try.func23 ?_ (hs := piecesIt_any _ _ _)
  rintro v0 m H0 ⟨bi, rfl, rfl, rfl⟩
  refine WL.persist (b := bi) (by (repeat (first | exact Out.here | apply Out.there))) ?_
  intro m1 hle1 hbi
  (try (refine st ?_; intros))
  have hin : RopeIn bi (.pointer (some ⟨b, 0, none⟩)) o m1 := ⟨hbi, hT.le hle1⟩
  have hseq := ropePieces_seq (b := bi) (p := .pointer (some ⟨b, 0, none⟩)) (o := o)
  rw [ho] at hseq
  refine WC.rangeFuncM (Hc := H) (encs := fun p : Pc => [p.v]) (xs := pieces s) (Cap := RopeIn bi (.pointer (some ⟨b, 0, none⟩)) o) (lb := [.pointer (some ⟨bi, 0, none⟩)]) (ps := [9])
    (J := fun pre _ Hl => Hl = [.blk b5 (.cells [.int .i64 (nBrk pre : Int)].toArray 3 (0, 0)), .blk b4 (.cells [.int .i64 (pre.length : Int)].toArray 3 (0, 0))]) (Jx := fun _ _ _ _ => False)
    rfl Try.func45 rfl rfl hseq hin (fun _ => rfl) rfl (fun _ _ _ _ h _ => h) (fun _ _ _ _ _ h _ => h) (.cons (.cons .nil)) ?_ ?_ ?_ ?_
  · rw [show nBrk [] = 0 from by unfold nBrk; rfl]; rfl
  · rintro lp pre x post hxs m2 Hl rfl hm2 Hfr hfr
    have hpre : pre.length ≤ (pieces s).length := by rw [hxs]; simp
    have hsn := nBrk_snoc pre x
    have hle3 := nBrk_le pre
    simp only [List.cons_append, List.nil_append]
    (try (refine st ?_; intros))
    refine WQ.assigned (.cons (.cons (.cons .nil))) (Mem.le.refl _) ?_
    intro Hfr2
    simp only [List.cons_append, List.nil_append]
    cases hx : x.b with
    | true =>
      rw [hx] at hsn
      (try (refine st ?_; intros))
      exact WQ.roundOn (Hl := [_, _]) (fun w h => h.drop) (Mem.le.refl _) (by rw [hsn, List.length_append]; rfl)
    | false =>
      rw [hx] at hsn
      (try (refine st ?_; intros))
      exact WQ.roundOn (Hl := [_, _]) (fun w h => h.drop) (Mem.le.refl _) (by rw [hsn, List.length_append]; rfl)
  · rintro D m2 Hl rfl hm2
    simp only [List.cons_append, List.nil_append]
    (try (refine st ?_; intros))
    refine WQ.mark (List.perm_middle (l₁ := [_, _])) ?_
    exact q_fin0 (H0 := H) ⟨hle1.trans hm2, rfl, rfl⟩ (hd := zpk)
  · rintro D c pre m' Hl _ h _
    exact h.elim
theorem sq_O10_1 {G : Prop} (h : G := by (repeat (first | (refine sp ?_; (repeat intro zzc)) | (refine iF 15 rfl ?_; refine w_callG Try.func15 ?_ (hs := text_any _ _ _ (by assumption))) | (refine iF 14 rfl ?_; refine w_callG Try.func14 ?_ (hs := same_any _ _ _ (by assumption) (by assumption))))); exact WQ.q1 rfl) : G := h
theorem st_O10_1 {G G' : Prop} (next : G') (h : Bx G' → G := by intro zzn; (first | ((refine st ?_; (repeat intro zzc)); (try ((first | (refine iF 15 rfl ?_; refine w_callG Try.func15 ?_ (hs := text_any _ _ _ (by assumption))) | (refine iF 14 rfl ?_; refine w_callG Try.func14 ?_ (hs := same_any _ _ _ (by assumption) (by assumption))) | ((refine iDraw ?_; (first | refine WC.drawAll rfl (by decide +kernel) ?_ | refine WC.draw 1 rfl (by decide +kernel) ?_ | refine WC.draw 2 rfl (by decide +kernel) ?_ | refine WC.draw 3 rfl (by decide +kernel) ?_ | refine WC.draw 4 rfl (by decide +kernel) ?_ | refine WC.draw 5 rfl (by decide +kernel) ?_ | refine WC.draw 6 rfl (by decide +kernel) ?_ | refine WC.draw 7 rfl (by decide +kernel) ?_ | refine WC.draw 8 rfl (by decide +kernel) ?_ | refine WC.draw 9 rfl (by decide +kernel) ?_ | refine WC.draw 10 rfl (by decide +kernel) ?_ | refine WC.draw 11 rfl (by decide +kernel) ?_ | refine WC.draw 12 rfl (by decide +kernel) ?_ | refine WC.draw 13 rfl (by decide +kernel) ?_ | refine WC.draw 14 rfl (by decide +kernel) ?_ | refine WC.draw 15 rfl (by decide +kernel) ?_ | refine WC.draw 16 rfl (by decide +kernel) ?_ | refine WC.draw 17 rfl (by decide +kernel) ?_ | refine WC.draw 18 rfl (by decide +kernel) ?_ | refine WC.draw 19 rfl (by decide +kernel) ?_ | refine WC.draw 20 rfl (by decide +kernel) ?_ | refine WC.draw 21 rfl (by decide +kernel) ?_ | refine WC.draw 22 rfl (by decide +kernel) ?_ | refine WC.draw 23 rfl (by decide +kernel) ?_ | refine WC.draw 24 rfl (by decide +kernel) ?_)); (repeat (refine WD.cons rfl (fun c h => by cases h) sq_O10_1 ?_)); refine WD.nil ?_)); (try (refine st ?_; (repeat intro zzc)))))) | ((first | (refine iF 15 rfl ?_; refine w_callG Try.func15 ?_ (hs := text_any _ _ _ (by assumption))) | (refine iF 14 rfl ?_; refine w_callG Try.func14 ?_ (hs := same_any _ _ _ (by assumption) (by assumption))) | ((refine iDraw ?_; (first | refine WC.drawAll rfl (by decide +kernel) ?_ | refine WC.draw 1 rfl (by decide +kernel) ?_ | refine WC.draw 2 rfl (by decide +kernel) ?_ | refine WC.draw 3 rfl (by decide +kernel) ?_ | refine WC.draw 4 rfl (by decide +kernel) ?_ | refine WC.draw 5 rfl (by decide +kernel) ?_ | refine WC.draw 6 rfl (by decide +kernel) ?_ | refine WC.draw 7 rfl (by decide +kernel) ?_ | refine WC.draw 8 rfl (by decide +kernel) ?_ | refine WC.draw 9 rfl (by decide +kernel) ?_ | refine WC.draw 10 rfl (by decide +kernel) ?_ | refine WC.draw 11 rfl (by decide +kernel) ?_ | refine WC.draw 12 rfl (by decide +kernel) ?_ | refine WC.draw 13 rfl (by decide +kernel) ?_ | refine WC.draw 14 rfl (by decide +kernel) ?_ | refine WC.draw 15 rfl (by decide +kernel) ?_ | refine WC.draw 16 rfl (by decide +kernel) ?_ | refine WC.draw 17 rfl (by decide +kernel) ?_ | refine WC.draw 18 rfl (by decide +kernel) ?_ | refine WC.draw 19 rfl (by decide +kernel) ?_ | refine WC.draw 20 rfl (by decide +kernel) ?_ | refine WC.draw 21 rfl (by decide +kernel) ?_ | refine WC.draw 22 rfl (by decide +kernel) ?_ | refine WC.draw 23 rfl (by decide +kernel) ?_ | refine WC.draw 24 rfl (by decide +kernel) ?_)); (repeat (refine WD.cons rfl (fun c h => by cases h) sq_O10_1 ?_)); refine WD.nil ?_)); (try (refine st ?_; (repeat intro zzc))))); (repeat ((first | (refine iF 15 rfl ?_; refine w_callG Try.func15 ?_ (hs := text_any _ _ _ (by assumption))) | (refine iF 14 rfl ?_; refine w_callG Try.func14 ?_ (hs := same_any _ _ _ (by assumption) (by assumption))) | ((refine iDraw ?_; (first | refine WC.drawAll rfl (by decide +kernel) ?_ | refine WC.draw 1 rfl (by decide +kernel) ?_ | refine WC.draw 2 rfl (by decide +kernel) ?_ | refine WC.draw 3 rfl (by decide +kernel) ?_ | refine WC.draw 4 rfl (by decide +kernel) ?_ | refine WC.draw 5 rfl (by decide +kernel) ?_ | refine WC.draw 6 rfl (by decide +kernel) ?_ | refine WC.draw 7 rfl (by decide +kernel) ?_ | refine WC.draw 8 rfl (by decide +kernel) ?_ | refine WC.draw 9 rfl (by decide +kernel) ?_ | refine WC.draw 10 rfl (by decide +kernel) ?_ | refine WC.draw 11 rfl (by decide +kernel) ?_ | refine WC.draw 12 rfl (by decide +kernel) ?_ | refine WC.draw 13 rfl (by decide +kernel) ?_ | refine WC.draw 14 rfl (by decide +kernel) ?_ | refine WC.draw 15 rfl (by decide +kernel) ?_ | refine WC.draw 16 rfl (by decide +kernel) ?_ | refine WC.draw 17 rfl (by decide +kernel) ?_ | refine WC.draw 18 rfl (by decide +kernel) ?_ | refine WC.draw 19 rfl (by decide +kernel) ?_ | refine WC.draw 20 rfl (by decide +kernel) ?_ | refine WC.draw 21 rfl (by decide +kernel) ?_ | refine WC.draw 22 rfl (by decide +kernel) ?_ | refine WC.draw 23 rfl (by decide +kernel) ?_ | refine WC.draw 24 rfl (by decide +kernel) ?_)); (repeat (refine WD.cons rfl (fun c h => by cases h) sq_O10_1 ?_)); refine WD.nil ?_)); (try (refine st ?_; (repeat intro zzc))))); (repeat revert zzc); exact zzn.out) : G := h ⟨next⟩
theorem works_any (w0 : World) (m : Mem) (H : SHeap) : Does Try.prog 11 #[] w0 m H (fun v m' H' => m.le m' ∧ H' = H ∧ v = .bool true) := by
  refine Does.of_body (args := []) Try.func11 rfl Try.ntmps11 rfl ?_
  (try (refine st_O10_1 ?_; intros))
  refine w_callF Try.func12 ?_ (hs := new_any tee (by decide) _ _ _)
  rintro v m1 H ⟨hle1, rfl, hv⟩
  obtain ⟨p, rfl, hp⟩ := hv
  (try (refine st_O10_1 ?_; intros))
  refine w_callF Try.func16 ?_ (hs := slice_any _ _ _ hp)
  rintro v m2 H ⟨hle2, rfl, pa, rfl, ha⟩
  replace hp := hp.le hle2
  (try (refine st_O10_1 ?_; intros))
  refine w_callF Try.func16 ?_ (hs := slice_any _ _ _ hp)
  rintro v m3 H ⟨hle3, rfl, pb, rfl, hb⟩
  replace hp := hp.le hle3
  replace ha := ha.le hle3
  have e1 : tee = [97, 195, 169, 10, 240, 159, 152, 128] := rfl
  have e2 : ([97, 195] : List UInt8) = [97, 195] := rfl
  have ha : RopeAt m3 pa [97, 195] := ha
  have hb : RopeAt m3 pb [169, 10, 240, 159, 152, 128] := hb
  (try (refine st_O10_1 ?_; intros))
  refine w_callF Try.func25 ?_ (hs := count_any _ _ _ ha)
  rintro v m4 H ⟨hle4, rfl, rfl⟩
  rw [tee_a.1, tee_a.2]
  replace hp := hp.le hle4
  replace ha := ha.le hle4
  replace hb := hb.le hle4
  (try (refine st_O10_1 ?_; intros))
  refine w_callF Try.func13 ?_ (hs := join_any _ _ _ ha hb)
  rintro v m5 H ⟨hle5, rfl, pq, rfl, hq⟩
  have hq : RopeAt m5 pq tee := hq
  replace hp := hp.le hle5
  replace ha := ha.le hle5
  (try (refine st_O10_1 ?_; intros))
  refine w_callF Try.func25 ?_ (hs := count_any _ _ _ hq)
  rintro v m6 H ⟨hle6, rfl, rfl⟩
  rw [tee_b.1, tee_b.2]
  replace hp := hp.le hle6
  replace ha := ha.le hle6
  replace hq := hq.le hle6
  have e3 : tee = tee := rfl
  have e4 : ¬ ([97, 195] : List UInt8) = tee := by decide
  (try (refine st_O10_1 ?_; intros))
  refine q_fin0 (H0 := H) ⟨hle1.trans (hle2.trans (hle3.trans (hle4.trans (hle5.trans hle6)))), rfl, ?_⟩ (hd := zpk)
  rw [dcd_false e4]; rfl
end Go.Proofs.Ytljfncpecpkhhaa

/-
  Plain facts for ropes: what is told of a text from its end, part by part. No condition.
-/
namespace Go.Eng
open Go
end Go.Eng

/-
  The walk of ropes' iterator Back. No condition.
-/
namespace Go.Eng
open Go Go.RowKit
end Go.Eng
namespace Go.Proofs.Ytljfncpecpkhhaa
open Go Go.Eng
set_option maxRecDepth 100000
set_option maxHeartbeats 4000000
set_option linter.all false
attribute [local irreducible] WL WC WQ QFun QLoop Does Q1 QRound QAssign Go.Addr.add
/-- what the pieces are handed to -/
def Yields (w0 : World) (lp : Nat) (xs : List Pc) (J Jx : List Pc → Mem → SHeap → Prop) (m : Mem) : Prop :=
  ∀ pre x post, xs = pre ++ x :: post → ∀ m1 H1 Hit, J pre m1 H1 → m.le m1 →
    YieldOK Try.prog w0 lp [x.v].toArray m1 (Hit ++ H1) (fun m' H' => ∃ H2, H' = Hit ++ H2 ∧ J (pre ++ [x]) m' H2 ∧ m1.le m') (fun m' H' => ∃ H2, H' = Hit ++ H2 ∧ Jx (pre ++ [x]) m' H2 ∧ m1.le m')
def ToldP (xs pre1 : List Pc) (J Jx : List Pc → Mem → SHeap → Prop) (m : Mem) (Hit : SHeap) : Value → Mem → SHeap → Prop := fun v m' H' => m.le m' ∧ ∃ H2, H' = Hit ++ H2 ∧ (v = .bool true ∧ J pre1 m' H2 ∨ v = .bool false ∧ ∃ pre, pre <+: xs ∧ Jx pre m' H2)
end Go.Proofs.Ytljfncpecpkhhaa

/-
  The walk of ropes' iterator Back: a part, and the whole. No condition.
-/
namespace Go.Proofs.Ytljfncpecpkhhaa
open Go Go.Eng
set_option maxRecDepth 100000
set_option maxHeartbeats 4000000
set_option linter.all false
attribute [local irreducible] WL WC WQ QFun QLoop Does Q1 QRound QAssign Go.Addr.add
attribute [local irreducible] begunK lackOf begunOf cutAt
/-- where the iterator stands: what is told, and what is held, before the texts Z of the parts that are done -/
def StB (L : List UInt8) (b3 b4 : Nat) (J : List Pc → Mem → SHeap → Prop) (y : Nat) (m' : Mem) (Hl : SHeap) : Prop :=
  ∃ (e : Nat) (H1 : SHeap), Go.Eng.Reach L e ∧ y ≤ e ∧ e ≤ L.length ∧ e ≤ y + 3 ∧ Hl = .blk b4 (.cells [.int .i64 (e : Int)].toArray 3 (0, 0)) :: .blk b3 (.cells [str ((L.drop y).take (e - y))].toArray 9 (0, 0)) :: H1 ∧ J (from_ L e).reverse m' H1
def LfB (L : List UInt8) (b3 b4 : Nat) (Jx : List Pc → Mem → SHeap → Prop) (m' : Mem) (Hl : SHeap) : Prop :=
  ∃ (i j : Go.Eng.Item) (H1 : SHeap) (pre : List Pc), Hl = i :: j :: H1 ∧ pre <+: (pieces L).reverse ∧ Jx pre m' H1
theorem sq_O15_1 {G : Prop} (h : G := by (repeat (first | (refine sp ?_; (repeat intro zzc)) | (refine iInv rfl ?_; first | refine w_size rfl (by assumption) rfl ?_ | refine w_depth rfl (by assumption) rfl ?_) | (refine iB_eql rfl ?_; refine WL.eqlNilI rfl (by first | exact .inr ⟨_, _, rfl, rfl⟩ | exact .inl ⟨rfl, rfl⟩) rfl rfl ?_))); exact WQ.q1 rfl) : G := h
theorem st_O15_1 {G G' : Prop} (next : G') (h : Bx G' → G := by intro zzn; (first | ((refine st ?_; (repeat intro zzc)); (try ((first | (refine iInv rfl ?_; first | refine w_size rfl (by assumption) rfl ?_ | refine w_depth rfl (by assumption) rfl ?_) | (refine iB_eql rfl ?_; refine WL.eqlNilI rfl (by first | exact .inr ⟨_, _, rfl, rfl⟩ | exact .inl ⟨rfl, rfl⟩) rfl rfl ?_) | ((refine iDraw ?_; (first | refine WC.drawAll rfl (by decide +kernel) ?_ | refine WC.draw 1 rfl (by decide +kernel) ?_ | refine WC.draw 2 rfl (by decide +kernel) ?_ | refine WC.draw 3 rfl (by decide +kernel) ?_ | refine WC.draw 4 rfl (by decide +kernel) ?_ | refine WC.draw 5 rfl (by decide +kernel) ?_ | refine WC.draw 6 rfl (by decide +kernel) ?_ | refine WC.draw 7 rfl (by decide +kernel) ?_ | refine WC.draw 8 rfl (by decide +kernel) ?_ | refine WC.draw 9 rfl (by decide +kernel) ?_ | refine WC.draw 10 rfl (by decide +kernel) ?_ | refine WC.draw 11 rfl (by decide +kernel) ?_ | refine WC.draw 12 rfl (by decide +kernel) ?_ | refine WC.draw 13 rfl (by decide +kernel) ?_ | refine WC.draw 14 rfl (by decide +kernel) ?_ | refine WC.draw 15 rfl (by decide +kernel) ?_ | refine WC.draw 16 rfl (by decide +kernel) ?_ | refine WC.draw 17 rfl (by decide +kernel) ?_ | refine WC.draw 18 rfl (by decide +kernel) ?_ | refine WC.draw 19 rfl (by decide +kernel) ?_ | refine WC.draw 20 rfl (by decide +kernel) ?_ | refine WC.draw 21 rfl (by decide +kernel) ?_ | refine WC.draw 22 rfl (by decide +kernel) ?_ | refine WC.draw 23 rfl (by decide +kernel) ?_ | refine WC.draw 24 rfl (by decide +kernel) ?_)); (repeat (refine WD.cons rfl (fun c h => by cases h) sq_O15_1 ?_)); refine WD.nil ?_)); (try (refine st ?_; (repeat intro zzc)))))) | ((first | (refine iInv rfl ?_; first | refine w_size rfl (by assumption) rfl ?_ | refine w_depth rfl (by assumption) rfl ?_) | (refine iB_eql rfl ?_; refine WL.eqlNilI rfl (by first | exact .inr ⟨_, _, rfl, rfl⟩ | exact .inl ⟨rfl, rfl⟩) rfl rfl ?_) | ((refine iDraw ?_; (first | refine WC.drawAll rfl (by decide +kernel) ?_ | refine WC.draw 1 rfl (by decide +kernel) ?_ | refine WC.draw 2 rfl (by decide +kernel) ?_ | refine WC.draw 3 rfl (by decide +kernel) ?_ | refine WC.draw 4 rfl (by decide +kernel) ?_ | refine WC.draw 5 rfl (by decide +kernel) ?_ | refine WC.draw 6 rfl (by decide +kernel) ?_ | refine WC.draw 7 rfl (by decide +kernel) ?_ | refine WC.draw 8 rfl (by decide +kernel) ?_ | refine WC.draw 9 rfl (by decide +kernel) ?_ | refine WC.draw 10 rfl (by decide +kernel) ?_ | refine WC.draw 11 rfl (by decide +kernel) ?_ | refine WC.draw 12 rfl (by decide +kernel) ?_ | refine WC.draw 13 rfl (by decide +kernel) ?_ | refine WC.draw 14 rfl (by decide +kernel) ?_ | refine WC.draw 15 rfl (by decide +kernel) ?_ | refine WC.draw 16 rfl (by decide +kernel) ?_ | refine WC.draw 17 rfl (by decide +kernel) ?_ | refine WC.draw 18 rfl (by decide +kernel) ?_ | refine WC.draw 19 rfl (by decide +kernel) ?_ | refine WC.draw 20 rfl (by decide +kernel) ?_ | refine WC.draw 21 rfl (by decide +kernel) ?_ | refine WC.draw 22 rfl (by decide +kernel) ?_ | refine WC.draw 23 rfl (by decide +kernel) ?_ | refine WC.draw 24 rfl (by decide +kernel) ?_)); (repeat (refine WD.cons rfl (fun c h => by cases h) sq_O15_1 ?_)); refine WD.nil ?_)); (try (refine st ?_; (repeat intro zzc))))); (repeat ((first | (refine iInv rfl ?_; first | refine w_size rfl (by assumption) rfl ?_ | refine w_depth rfl (by assumption) rfl ?_) | (refine iB_eql rfl ?_; refine WL.eqlNilI rfl (by first | exact .inr ⟨_, _, rfl, rfl⟩ | exact .inl ⟨rfl, rfl⟩) rfl rfl ?_) | ((refine iDraw ?_; (first | refine WC.drawAll rfl (by decide +kernel) ?_ | refine WC.draw 1 rfl (by decide +kernel) ?_ | refine WC.draw 2 rfl (by decide +kernel) ?_ | refine WC.draw 3 rfl (by decide +kernel) ?_ | refine WC.draw 4 rfl (by decide +kernel) ?_ | refine WC.draw 5 rfl (by decide +kernel) ?_ | refine WC.draw 6 rfl (by decide +kernel) ?_ | refine WC.draw 7 rfl (by decide +kernel) ?_ | refine WC.draw 8 rfl (by decide +kernel) ?_ | refine WC.draw 9 rfl (by decide +kernel) ?_ | refine WC.draw 10 rfl (by decide +kernel) ?_ | refine WC.draw 11 rfl (by decide +kernel) ?_ | refine WC.draw 12 rfl (by decide +kernel) ?_ | refine WC.draw 13 rfl (by decide +kernel) ?_ | refine WC.draw 14 rfl (by decide +kernel) ?_ | refine WC.draw 15 rfl (by decide +kernel) ?_ | refine WC.draw 16 rfl (by decide +kernel) ?_ | refine WC.draw 17 rfl (by decide +kernel) ?_ | refine WC.draw 18 rfl (by decide +kernel) ?_ | refine WC.draw 19 rfl (by decide +kernel) ?_ | refine WC.draw 20 rfl (by decide +kernel) ?_ | refine WC.draw 21 rfl (by decide +kernel) ?_ | refine WC.draw 22 rfl (by decide +kernel) ?_ | refine WC.draw 23 rfl (by decide +kernel) ?_ | refine WC.draw 24 rfl (by decide +kernel) ?_)); (repeat (refine WD.cons rfl (fun c h => by cases h) sq_O15_1 ?_)); refine WD.nil ?_)); (try (refine st ?_; (repeat intro zzc))))); (repeat revert zzc); exact zzn.out) : G := h ⟨next⟩
theorem lenT_any {p : Value} {o : Option Nd} (w0 : World) (m : Mem) (H : SHeap) (hp : RopeT m p o) : Does Try.prog 19 #[p] w0 m H (Gives (.int .i64 ((rtxt o).length : Int)) m H) := by
  obtain ⟨b, v, rfl, hb, hv, ok, hl⟩ := hp
  refine Does.of_body (args := [.pointer (some ⟨b, 0, none⟩)]) Try.func19 rfl Try.ntmps19 rfl ?_
  cases o with
  | none =>
    cases hv
    (try (refine st_O15_1 ?_; intros))
    exact q_fin0 (H0 := H) (Gives.mk rfl) (hd := zpk)
  | some T =>
    have hT : NAt m T v := hv
    obtain ⟨t, x, rfl⟩ := hT.iface
    (try (refine st_O15_1 ?_; intros))
    exact q_fin0 (H0 := H) (Gives.mk rfl) (hd := zpk)
def yOf (L : List UInt8) (pre : List (List UInt8)) : Nat := L.length - pre.reverse.flatten.length
end Go.Proofs.Ytljfncpecpkhhaa

/-
  Plain facts for ropes: a piece read in a window about a place. No condition.
-/
namespace Go.Eng
open Go
/-- a window about a place -/
def winOf (L : List UInt8) (k : Nat) : List UInt8 := (L.take (min (k + 8) L.length)).drop (k - 8)
theorem win_len {L : List UInt8} {k : Nat} (hk : k < L.length) : (winOf L k).length = min (k + 8) L.length - (k - 8) := by simp [winOf]
theorem win_read {L : List UInt8} {k i : Nat} (hk : k < L.length) (h1 : k - 8 ≤ i) (h2 : i ≤ k) : (readP (winOf L k) (i - (k - 8))).sh (k - 8) = readP L i := by
  by_cases hend : L.length ≤ k + 8
  · have e : winOf L k = L.drop (k - 8) := by unfold winOf; rw [List.take_of_length_le (by omega)]
    rw [e, read_drop, show k - 8 + (i - (k - 8)) = i by omega]
  · have e : winOf L k = (L.drop (k - 8)).take (k + 8 - (k - 8)) := by unfold winOf; rw [Nat.min_eq_left (by omega), ← List.drop_take]
    have e2 : dl ((winOf L k).drop (i - (k - 8))) = dl (L.drop i) := by
      rw [e]
      refine dl_nb fun q hq => ?_
      rw [nb_drop, nb_take (by omega), nb_drop, nb_drop]
      congr 1; omega
    unfold readP
    rw [e2]
    split
    · simp only [Pc.sh]; congr 1; omega
    · simp only [Pc.sh]; congr 1; omega
/-- the piece to which a byte belongs -/
def Over (L : List UInt8) (k : Nat) (p : Pc) : Prop := p ∈ pieces L ∧ p.at_ ≤ k ∧ k < p.at_ + p.w
theorem over_form {L : List UInt8} {k i : Nat} (hk : k < L.length) (h1 : i < k) (hb : (readP L i).b = false) (hw : k < i + (readP L i).w) : Over L k (readP L i) := by
  have hr := (within_reach (Nat.le_of_lt hk) (⟨h1, hw, hb⟩ : Within L k i))
  have ha := readP_at L i
  exact ⟨reach_mem hr.1 hr.2.1, by omega, by omega⟩
theorem over_self {L : List UInt8} {k : Nat} (hk : k < L.length) (h : ∀ i, i < k → k ≤ i + 3 → ¬ ((readP L i).b = false ∧ k < i + (readP L i).w)) : Over L k (readP L k) := by
  have hr : Reach L k := by
    by_cases hr : Reach L k
    · exact hr
    · exfalso
      have hno : ¬ (k = L.length ∨ Reach L k) := by
        rintro (h | h)
        · omega
        · exact hr h
      obtain ⟨i, hi⟩ := (within_iff (l := L) (at_ := k) (by omega)).2 hno
      have := within_reach (by omega) hi
      exact h i hi.1 this.2.2.1 ⟨hi.2.2, hi.2.1⟩
  have hw := readP_w hk
  have ha := readP_at L k
  exact ⟨reach_mem hr hk, by omega, by omega⟩
end Go.Eng

/-
  The walks of ropes' around, Piece, Rune. No condition.
-/
namespace Go.Proofs.Ytljfncpecpkhhaa
open Go Go.Eng
set_option maxRecDepth 100000
set_option maxHeartbeats 4000000
set_option linter.all false
attribute [local irreducible] WL WC WQ QFun QLoop Does Q1 QRound QAssign Go.Addr.add
attribute [local irreducible] winOf
theorem sq_O17_1 {G : Prop} (h : G := by (repeat (first | (refine sp ?_; (repeat intro zzc)) | (refine iF 19 rfl ?_; refine w_callG Try.func19 ?_ (hs := len_any _ _ _ (by assumption))) | (refine iF 15 rfl ?_; refine w_callG Try.func15 ?_ (hs := text_any _ _ _ (by assumption))))); exact WQ.q1 rfl) : G := h
theorem st_O17_1 {G G' : Prop} (next : G') (h : Bx G' → G := by intro zzn; (first | ((refine st ?_; (repeat intro zzc)); (try ((first | (refine iF 19 rfl ?_; refine w_callG Try.func19 ?_ (hs := len_any _ _ _ (by assumption))) | (refine iF 15 rfl ?_; refine w_callG Try.func15 ?_ (hs := text_any _ _ _ (by assumption))) | ((refine iDraw ?_; (first | refine WC.drawAll rfl (by decide +kernel) ?_ | refine WC.draw 1 rfl (by decide +kernel) ?_ | refine WC.draw 2 rfl (by decide +kernel) ?_ | refine WC.draw 3 rfl (by decide +kernel) ?_ | refine WC.draw 4 rfl (by decide +kernel) ?_ | refine WC.draw 5 rfl (by decide +kernel) ?_ | refine WC.draw 6 rfl (by decide +kernel) ?_ | refine WC.draw 7 rfl (by decide +kernel) ?_ | refine WC.draw 8 rfl (by decide +kernel) ?_ | refine WC.draw 9 rfl (by decide +kernel) ?_ | refine WC.draw 10 rfl (by decide +kernel) ?_ | refine WC.draw 11 rfl (by decide +kernel) ?_ | refine WC.draw 12 rfl (by decide +kernel) ?_ | refine WC.draw 13 rfl (by decide +kernel) ?_ | refine WC.draw 14 rfl (by decide +kernel) ?_ | refine WC.draw 15 rfl (by decide +kernel) ?_ | refine WC.draw 16 rfl (by decide +kernel) ?_ | refine WC.draw 17 rfl (by decide +kernel) ?_ | refine WC.draw 18 rfl (by decide +kernel) ?_ | refine WC.draw 19 rfl (by decide +kernel) ?_ | refine WC.draw 20 rfl (by decide +kernel) ?_ | refine WC.draw 21 rfl (by decide +kernel) ?_ | refine WC.draw 22 rfl (by decide +kernel) ?_ | refine WC.draw 23 rfl (by decide +kernel) ?_ | refine WC.draw 24 rfl (by decide +kernel) ?_)); (repeat (refine WD.cons rfl (fun c h => by cases h) sq_O17_1 ?_)); refine WD.nil ?_)); (try (refine st ?_; (repeat intro zzc)))))) | ((first | (refine iF 19 rfl ?_; refine w_callG Try.func19 ?_ (hs := len_any _ _ _ (by assumption))) | (refine iF 15 rfl ?_; refine w_callG Try.func15 ?_ (hs := text_any _ _ _ (by assumption))) | ((refine iDraw ?_; (first | refine WC.drawAll rfl (by decide +kernel) ?_ | refine WC.draw 1 rfl (by decide +kernel) ?_ | refine WC.draw 2 rfl (by decide +kernel) ?_ | refine WC.draw 3 rfl (by decide +kernel) ?_ | refine WC.draw 4 rfl (by decide +kernel) ?_ | refine WC.draw 5 rfl (by decide +kernel) ?_ | refine WC.draw 6 rfl (by decide +kernel) ?_ | refine WC.draw 7 rfl (by decide +kernel) ?_ | refine WC.draw 8 rfl (by decide +kernel) ?_ | refine WC.draw 9 rfl (by decide +kernel) ?_ | refine WC.draw 10 rfl (by decide +kernel) ?_ | refine WC.draw 11 rfl (by decide +kernel) ?_ | refine WC.draw 12 rfl (by decide +kernel) ?_ | refine WC.draw 13 rfl (by decide +kernel) ?_ | refine WC.draw 14 rfl (by decide +kernel) ?_ | refine WC.draw 15 rfl (by decide +kernel) ?_ | refine WC.draw 16 rfl (by decide +kernel) ?_ | refine WC.draw 17 rfl (by decide +kernel) ?_ | refine WC.draw 18 rfl (by decide +kernel) ?_ | refine WC.draw 19 rfl (by decide +kernel) ?_ | refine WC.draw 20 rfl (by decide +kernel) ?_ | refine WC.draw 21 rfl (by decide +kernel) ?_ | refine WC.draw 22 rfl (by decide +kernel) ?_ | refine WC.draw 23 rfl (by decide +kernel) ?_ | refine WC.draw 24 rfl (by decide +kernel) ?_)); (repeat (refine WD.cons rfl (fun c h => by cases h) sq_O17_1 ?_)); refine WD.nil ?_)); (try (refine st ?_; (repeat intro zzc))))); (repeat ((first | (refine iF 19 rfl ?_; refine w_callG Try.func19 ?_ (hs := len_any _ _ _ (by assumption))) | (refine iF 15 rfl ?_; refine w_callG Try.func15 ?_ (hs := text_any _ _ _ (by assumption))) | ((refine iDraw ?_; (first | refine WC.drawAll rfl (by decide +kernel) ?_ | refine WC.draw 1 rfl (by decide +kernel) ?_ | refine WC.draw 2 rfl (by decide +kernel) ?_ | refine WC.draw 3 rfl (by decide +kernel) ?_ | refine WC.draw 4 rfl (by decide +kernel) ?_ | refine WC.draw 5 rfl (by decide +kernel) ?_ | refine WC.draw 6 rfl (by decide +kernel) ?_ | refine WC.draw 7 rfl (by decide +kernel) ?_ | refine WC.draw 8 rfl (by decide +kernel) ?_ | refine WC.draw 9 rfl (by decide +kernel) ?_ | refine WC.draw 10 rfl (by decide +kernel) ?_ | refine WC.draw 11 rfl (by decide +kernel) ?_ | refine WC.draw 12 rfl (by decide +kernel) ?_ | refine WC.draw 13 rfl (by decide +kernel) ?_ | refine WC.draw 14 rfl (by decide +kernel) ?_ | refine WC.draw 15 rfl (by decide +kernel) ?_ | refine WC.draw 16 rfl (by decide +kernel) ?_ | refine WC.draw 17 rfl (by decide +kernel) ?_ | refine WC.draw 18 rfl (by decide +kernel) ?_ | refine WC.draw 19 rfl (by decide +kernel) ?_ | refine WC.draw 20 rfl (by decide +kernel) ?_ | refine WC.draw 21 rfl (by decide +kernel) ?_ | refine WC.draw 22 rfl (by decide +kernel) ?_ | refine WC.draw 23 rfl (by decide +kernel) ?_ | refine WC.draw 24 rfl (by decide +kernel) ?_)); (repeat (refine WD.cons rfl (fun c h => by cases h) sq_O17_1 ?_)); refine WD.nil ?_)); (try (refine st ?_; (repeat intro zzc))))); (repeat revert zzc); exact zzn.out) : G := h ⟨next⟩
theorem around_any {p : Value} {s : List UInt8} {k : Nat} (hk : k < s.length) (w0 : World) (m : Mem) (H : SHeap) (hp : RopeAt m p s) :
    Does Try.prog 43 #[p, .int .i64 (k : Int)] w0 m H (fun v m' H' => m.le m' ∧ H' = H ∧ v = .tuple #[str (winOf s k), .int .i64 ((k - 8 : Nat) : Int)]) := by
  have hl := hp.len
  refine Does.of_body (args := [p, .int .i64 (k : Int)]) Try.func43 rfl Try.ntmps43 rfl ?_
  have e1 : max ((k : Int) - 8) 0 = ((k - 8 : Nat) : Int) := by omega
  have e2 : min ((k : Int) + 8) (s.length : Int) = ((min (k + 8) s.length : Nat) : Int) := by omega
  (try (refine st_O17_1 ?_; intros))
  rw [e1, e2]
  refine w_callF Try.func16 ?_ (hs := slice_any _ _ _ hp)
  rintro v m1 H ⟨hle1, rfl, hv⟩
  have hv2 : ResV m1 (.ok (winOf s k)) v := by
    unfold sliceR at hv
    rw [if_neg (by omega), Int.toNat_natCast, Int.toNat_natCast] at hv
    unfold winOf
    exact hv
  obtain ⟨q, rfl, hq⟩ := hv2
  (try (refine st_O17_1 ?_; intros))
  exact q_fin0 (H0 := H) ⟨hle1, rfl, rfl⟩ (hd := zpk)
theorem at_z {l : List UInt8} {z : Int} {k : Nat} {p : Pc} (hz : z = (k : Int)) (hl : l.length ≤ 9223372036854775804) (hk : k < l.length) (hp : readP l k = p) (w0 : World) (m : Mem) (H : SHeap) :
    Does Try.prog 44 #[str l, .int .i64 z] w0 m H (Gives (.tuple #[p.v, .int .i64 0]) m H) := by subst hz; subst hp; exact at_in l k hl hk w0 m H
theorem piece_any {p : Value} {s : List UInt8} {k : Nat} (hk : k < s.length) (w0 : World) (m : Mem) (H : SHeap) (hp : RopeAt m p s) :
    Does Try.prog 22 #[p, .int .i64 (k : Int)] w0 m H (fun v m' H' => m.le m' ∧ H' = H ∧ ∃ q, Over s k q ∧ v = .tuple #[q.v, .int .i64 0]) := by
  have hl := hp.len
  obtain ⟨b, rfl⟩ := ropes_ptr hp
  have hnn : (some (⟨b, 0, none⟩ : Addr)).isNone = false := rfl
  refine Does.of_body (args := [.pointer (some ⟨b, 0, none⟩), .int .i64 (k : Int)]) Try.func22 rfl Try.ntmps22 rfl ?_
  have hwl := win_len hk
  have e1 : max ((k : Int) - 3) 0 = ((k - 3 : Nat) : Int) := by omega
  (refine st_O17_1 ?_; intros; rename_i b4)
  refine w_callF Try.func43 ?_ (hs := around_any hk _ _ _ hp)
  rintro v m1 H1 ⟨hle1, rfl, rfl⟩
  (try (refine st_O17_1 ?_; intros))
  obtain ⟨i0, hi0⟩ : ∃ i0, k - 3 = i0 := ⟨_, rfl⟩
  rw [e1, hi0]
  refine WC.loopH [(8, .int .i64 ((i0) : Int)), (6, str (winOf s k)), (7, .int .i64 ((k - 8 : Nat) : Int)), (1, .int .i64 (k : Int)), (4, .pointer (some ⟨b4, 0, none⟩))] ?_ ?_ (fun j r ds m' H' => ∃ i, j = k - i ∧ r = [(8, .int .i64 (i : Int)), (6, str (winOf s k)), (7, .int .i64 ((k - 8 : Nat) : Int)), (1, .int .i64 (k : Int)), (4, .pointer (some ⟨b4, 0, none⟩))] ∧ ds = [] ∧ m1 = m' ∧ H' = .blk b4 (.cells [.int .i64 0, .int .i64 0, .int .i32 0, .bool false].toArray 40 (0, 0)) :: H ∧ (k - 3 ≤ i ∧ i ≤ k) ∧ (∀ q, k - 3 ≤ q → q < i → ¬ ((readP s q).b = false ∧ k < q + (readP s q).w))) (k - (i0)) ⟨i0, rfl, rfl, rfl, rfl, rfl, ⟨by omega, by omega⟩, fun q h1 h2 => by omega⟩ ?_
  · (repeat (first | exact Env.Sub.nil | refine Env.Sub.cons rfl ?_))
  · exact zpk
  rintro j r ds m' H' ⟨i, rfl, rfl, rfl, rfl, rfl, hi, hno⟩
  have hsh := win_read hk (i := i) (by omega) hi.2
  obtain ⟨r, hr⟩ : ∃ r, readP (winOf s k) (i - (k - 8)) = r := ⟨_, rfl⟩
  rw [hr] at hsh
  have hra : r.at_ + (k - 8) = i := by have := readP_at s i; rw [← hsh] at this; exact this
  have hrw : (readP s i).w = r.w := by rw [← hsh]; rfl
  have hrb : (readP s i).b = r.b := by rw [← hsh]; rfl
  have hrr : (readP s i).r = r.r := by rw [← hsh]; rfl
  have hrs : readP s i = ⟨i, r.w, r.r, r.b⟩ := by rw [← hsh]; unfold Pc.sh; rw [hra]
  have hmw := readP_w (l := winOf s k) (k := i - (k - 8)) (by omega)
  rw [hr] at hmw
  by_cases hik : i < k
  · (try (refine st_O17_1 ?_; intros))
    refine w_callF Try.func44 ?_ (hs := at_z (k := i - (k - 8)) (by omega) (by omega) (by omega) hr _ _ _)
    rintro v m2 H2 ⟨rfl, rfl, rfl⟩
    by_cases hyes : r.b = false ∧ k < i + r.w
    · obtain ⟨hb, hw⟩ := hyes
      have hnb : (!r.b) = true := by rw [hb]; rfl
      have hov := over_form hk hik (by rw [hrb]; exact hb) (by rw [hrw]; exact hw)
      (refine st_O17_1 ?_; intros; rename_i b9)
      refine q_fin0 (H0 := H) ⟨hle1, rfl, _, hov, ?_⟩ (hd := zpk)
      rw [hrs]
      rfl
    · cases hb : r.b with
      | true =>
        have hnb : (!r.b) = false := by rw [hb]; rfl
        (refine st_O17_1 ?_; intros; rename_i b9)
        refine WQ.next (k - (i + 1)) ⟨i + 1, rfl, rfl, rfl, rfl, rfl, ?_, ?_⟩ (by omega) zsb zpk
        · omega
        · intro q h1 h2
          by_cases hq : q = i
          · subst hq; rw [hrb, hrw]; exact hyes
          · exact hno q h1 (by omega)
      | false =>
        have hw : ¬ k < i + r.w := fun h => hyes ⟨hb, h⟩
        have hnb : (!r.b) = true := by rw [hb]; rfl
        (refine st_O17_1 ?_; intros; rename_i b9)
        refine WQ.next (k - (i + 1)) ⟨i + 1, rfl, rfl, rfl, rfl, rfl, ?_, ?_⟩ (by omega) zsb zpk
        · omega
        · intro q h1 h2
          by_cases hq : q = i
          · subst hq; rw [hrb, hrw]; exact hyes
          · exact hno q h1 (by omega)
  · obtain rfl : i = k := by omega
    have hov := over_self hk (fun q h1 h2 => hno q (by omega) h1)
    (try (refine st_O17_1 ?_; intros))
    refine w_callF Try.func44 ?_ (hs := at_z (k := i - (i - 8)) (by omega) (by omega) (by omega) hr _ _ _)
    rintro v m2 H2 ⟨rfl, rfl, rfl⟩
    (refine st_O17_1 ?_; intros; rename_i b9)
    refine q_fin0 (H0 := H) ⟨hle1, rfl, _, hov, ?_⟩ (hd := zpk)
    rw [hrs]
    rfl
/-- the boundary ahead of which so many pieces stand -/
def runeR (s : List UInt8) (k : Int) : Int × Int := if k < 0 ∨ ((pieces s).length : Int) < k then (0, 5) else match (pieces s)[k.toNat]? with
  | some p => ((p.at_ : Int), 0)
  | none => ((s.length : Int), 0)
theorem sq_O17_2 {G : Prop} (h : G := by (repeat (first | (refine sp ?_; (repeat intro zzc)) | (refine iF 19 rfl ?_; refine w_callG Try.func19 ?_ (hs := len_any _ _ _ (by assumption))) | (refine iF 15 rfl ?_; refine w_callG Try.func15 ?_ (hs := text_any _ _ _ (by assumption))) | (refine iF 19 rfl ?_; refine w_callG Try.func19 ?_ (hs := lenT_any _ _ _ (by assumption))))); exact WQ.q1 rfl) : G := h
theorem st_O17_2 {G G' : Prop} (next : G') (h : Bx G' → G := by intro zzn; (first | ((refine st ?_; (repeat intro zzc)); (try ((first | (refine iF 19 rfl ?_; refine w_callG Try.func19 ?_ (hs := len_any _ _ _ (by assumption))) | (refine iF 15 rfl ?_; refine w_callG Try.func15 ?_ (hs := text_any _ _ _ (by assumption))) | (refine iF 19 rfl ?_; refine w_callG Try.func19 ?_ (hs := lenT_any _ _ _ (by assumption))) | ((refine iDraw ?_; (first | refine WC.drawAll rfl (by decide +kernel) ?_ | refine WC.draw 1 rfl (by decide +kernel) ?_ | refine WC.draw 2 rfl (by decide +kernel) ?_ | refine WC.draw 3 rfl (by decide +kernel) ?_ | refine WC.draw 4 rfl (by decide +kernel) ?_ | refine WC.draw 5 rfl (by decide +kernel) ?_ | refine WC.draw 6 rfl (by decide +kernel) ?_ | refine WC.draw 7 rfl (by decide +kernel) ?_ | refine WC.draw 8 rfl (by decide +kernel) ?_ | refine WC.draw 9 rfl (by decide +kernel) ?_ | refine WC.draw 10 rfl (by decide +kernel) ?_ | refine WC.draw 11 rfl (by decide +kernel) ?_ | refine WC.draw 12 rfl (by decide +kernel) ?_ | refine WC.draw 13 rfl (by decide +kernel) ?_ | refine WC.draw 14 rfl (by decide +kernel) ?_ | refine WC.draw 15 rfl (by decide +kernel) ?_ | refine WC.draw 16 rfl (by decide +kernel) ?_ | refine WC.draw 17 rfl (by decide +kernel) ?_ | refine WC.draw 18 rfl (by decide +kernel) ?_ | refine WC.draw 19 rfl (by decide +kernel) ?_ | refine WC.draw 20 rfl (by decide +kernel) ?_ | refine WC.draw 21 rfl (by decide +kernel) ?_ | refine WC.draw 22 rfl (by decide +kernel) ?_ | refine WC.draw 23 rfl (by decide +kernel) ?_ | refine WC.draw 24 rfl (by decide +kernel) ?_)); (repeat (refine WD.cons rfl (fun c h => by cases h) sq_O17_2 ?_)); refine WD.nil ?_)); (try (refine st ?_; (repeat intro zzc)))))) | ((first | (refine iF 19 rfl ?_; refine w_callG Try.func19 ?_ (hs := len_any _ _ _ (by assumption))) | (refine iF 15 rfl ?_; refine w_callG Try.func15 ?_ (hs := text_any _ _ _ (by assumption))) | (refine iF 19 rfl ?_; refine w_callG Try.func19 ?_ (hs := lenT_any _ _ _ (by assumption))) | ((refine iDraw ?_; (first | refine WC.drawAll rfl (by decide +kernel) ?_ | refine WC.draw 1 rfl (by decide +kernel) ?_ | refine WC.draw 2 rfl (by decide +kernel) ?_ | refine WC.draw 3 rfl (by decide +kernel) ?_ | refine WC.draw 4 rfl (by decide +kernel) ?_ | refine WC.draw 5 rfl (by decide +kernel) ?_ | refine WC.draw 6 rfl (by decide +kernel) ?_ | refine WC.draw 7 rfl (by decide +kernel) ?_ | refine WC.draw 8 rfl (by decide +kernel) ?_ | refine WC.draw 9 rfl (by decide +kernel) ?_ | refine WC.draw 10 rfl (by decide +kernel) ?_ | refine WC.draw 11 rfl (by decide +kernel) ?_ | refine WC.draw 12 rfl (by decide +kernel) ?_ | refine WC.draw 13 rfl (by decide +kernel) ?_ | refine WC.draw 14 rfl (by decide +kernel) ?_ | refine WC.draw 15 rfl (by decide +kernel) ?_ | refine WC.draw 16 rfl (by decide +kernel) ?_ | refine WC.draw 17 rfl (by decide +kernel) ?_ | refine WC.draw 18 rfl (by decide +kernel) ?_ | refine WC.draw 19 rfl (by decide +kernel) ?_ | refine WC.draw 20 rfl (by decide +kernel) ?_ | refine WC.draw 21 rfl (by decide +kernel) ?_ | refine WC.draw 22 rfl (by decide +kernel) ?_ | refine WC.draw 23 rfl (by decide +kernel) ?_ | refine WC.draw 24 rfl (by decide +kernel) ?_)); (repeat (refine WD.cons rfl (fun c h => by cases h) sq_O17_2 ?_)); refine WD.nil ?_)); (try (refine st ?_; (repeat intro zzc))))); (repeat ((first | (refine iF 19 rfl ?_; refine w_callG Try.func19 ?_ (hs := len_any _ _ _ (by assumption))) | (refine iF 15 rfl ?_; refine w_callG Try.func15 ?_ (hs := text_any _ _ _ (by assumption))) | (refine iF 19 rfl ?_; refine w_callG Try.func19 ?_ (hs := lenT_any _ _ _ (by assumption))) | ((refine iDraw ?_; (first | refine WC.drawAll rfl (by decide +kernel) ?_ | refine WC.draw 1 rfl (by decide +kernel) ?_ | refine WC.draw 2 rfl (by decide +kernel) ?_ | refine WC.draw 3 rfl (by decide +kernel) ?_ | refine WC.draw 4 rfl (by decide +kernel) ?_ | refine WC.draw 5 rfl (by decide +kernel) ?_ | refine WC.draw 6 rfl (by decide +kernel) ?_ | refine WC.draw 7 rfl (by decide +kernel) ?_ | refine WC.draw 8 rfl (by decide +kernel) ?_ | refine WC.draw 9 rfl (by decide +kernel) ?_ | refine WC.draw 10 rfl (by decide +kernel) ?_ | refine WC.draw 11 rfl (by decide +kernel) ?_ | refine WC.draw 12 rfl (by decide +kernel) ?_ | refine WC.draw 13 rfl (by decide +kernel) ?_ | refine WC.draw 14 rfl (by decide +kernel) ?_ | refine WC.draw 15 rfl (by decide +kernel) ?_ | refine WC.draw 16 rfl (by decide +kernel) ?_ | refine WC.draw 17 rfl (by decide +kernel) ?_ | refine WC.draw 18 rfl (by decide +kernel) ?_ | refine WC.draw 19 rfl (by decide +kernel) ?_ | refine WC.draw 20 rfl (by decide +kernel) ?_ | refine WC.draw 21 rfl (by decide +kernel) ?_ | refine WC.draw 22 rfl (by decide +kernel) ?_ | refine WC.draw 23 rfl (by decide +kernel) ?_ | refine WC.draw 24 rfl (by decide +kernel) ?_)); (repeat (refine WD.cons rfl (fun c h => by cases h) sq_O17_2 ?_)); refine WD.nil ?_)); (try (refine st ?_; (repeat intro zzc))))); (repeat revert zzc); exact zzn.out) : G := h ⟨next⟩
theorem rune_any {p : Value} {s : List UInt8} {k : Int} (w0 : World) (m : Mem) (H : SHeap) (hp : RopeAt m p s) :
    Does Try.prog 24 #[p, .int .i64 k] w0 m H (fun v m' H' => m.le m' ∧ H' = H ∧ v = .tuple #[.int .i64 (runeR s k).1, .int .i64 (runeR s k).2]) := by
  have hl := hp.len
  obtain ⟨b, rfl⟩ := ropes_ptr hp
  obtain ⟨o, hT, ho⟩ := hp.node
  have hnn : (some (⟨b, 0, none⟩ : Addr)).isNone = false := rfl
  have hpl := pieces_length s
  refine Does.of_body (args := [.pointer (some ⟨b, 0, none⟩), .int .i64 k]) Try.func24 rfl Try.ntmps24 rfl ?_
  (refine st_O17_2 ?_; intros; rename_i b3 b4 b5 b6)
  refine w_callF Try.func23 ?_ (hs := piecesIt_any _ _ _)
  rintro v0 m H0 ⟨bi, rfl, rfl, rfl⟩
  refine WL.persist (b := bi) (by (repeat (first | exact Out.here | apply Out.there))) ?_
  intro m1 hle1 hbi
  refine WL.persist (b := b3) (by (repeat (first | exact Out.here | apply Out.there))) ?_
  intro m2 hle2 hb3
  (try (refine st_O17_2 ?_; intros))
  replace hbi := hle2 _ _ hbi
  have hT2 := hT.le (hle1.trans hle2)
  have hseq := ropePieces_seq (b := bi) (p := .pointer (some ⟨b, 0, none⟩)) (o := o)
  rw [ho] at hseq
  refine WC.rangeFuncM (Hc := H) (encs := fun p : Pc => [p.v]) (xs := pieces s) (Cap := RopeIn bi (.pointer (some ⟨b, 0, none⟩)) o) (lb := [.pointer (some ⟨bi, 0, none⟩)]) (ps := [12])
    (J := fun pre _ Hl => (∀ i : Nat, i < pre.length → (i : Int) ≠ k) ∧ Hl = [.blk b6 (.cells [.int .i64 (pre.length : Int)].toArray 3 (0, 0)), .blk b5 (.cells [.int .i64 0].toArray 24 (0, 0)), .blk b4 (.cells [.int .i64 0].toArray 3 (0, 0))])
    (Jx := fun c _ _ Hl => c = .ret ∧ ∃ p, 0 ≤ k ∧ (pieces s)[k.toNat]? = some p ∧ Hl = [.blk b5 (.cells [.int .i64 0].toArray 24 (0, 0)), .blk b4 (.cells [.int .i64 (p.at_ : Int)].toArray 3 (0, 0))])
    rfl Try.func45 rfl rfl hseq ⟨hbi, hT2⟩ (fun _ => rfl) rfl (fun _ _ _ _ h _ => h) (fun _ _ _ _ _ h _ => h) (.cons (.cons (.cons .nil))) ?_ ?_ ?_ ?_
  · exact ⟨fun i h => by simp at h, rfl⟩
  · rintro lp pre x post hxs m3 Hl ⟨hno, rfl⟩ hm3 Hfr hfr
    have hpre : pre.length + post.length + 1 = (pieces s).length := by rw [hxs]; simp; omega
    have hb33 := hm3 _ _ hb3
    simp only [List.cons_append, List.nil_append]
    (try (refine st_O17_2 ?_; intros))
    refine WQ.assigned (.cons (.cons (.cons (.cons .nil)))) (Mem.le.refl _) ?_
    intro Hfr2
    simp only [List.cons_append, List.nil_append]
    by_cases hk : (pre.length : Int) = k
    · (try (refine st_O17_2 ?_; intros))
      exact WQ.roundRet (Hl := [_, _]) (fun w h => h.drop.drop) (Mem.le.refl _) ⟨rfl, x, by omega, by rw [show k.toNat = pre.length by omega, hxs]; simp, rfl⟩
    · (try (refine st_O17_2 ?_; intros))
      refine WQ.roundOn (Hl := [_, _, _]) (fun w h => h.drop) (Mem.le.refl _) ⟨fun i hi => ?_, by rw [List.length_append]; rfl⟩
      rw [List.length_append] at hi
      by_cases h : i = pre.length
      · subst h; exact hk
      · exact hno i (by simp at hi; omega)
  · rintro D m3 Hl ⟨hno, rfl⟩ hm3
    simp only [List.cons_append, List.nil_append]
    have hb33 := hm3 _ _ hb3
    have hT3 := hT2.le hm3
    by_cases hk : ((pieces s).length : Int) = k
    · (try (refine st_O17_2 ?_; intros))
      rw [ho]
      refine WQ.mark (List.perm_middle (l₁ := [_, _, _])) ?_
      refine q_fin0 (H0 := H) ⟨hle1.trans (hle2.trans hm3), rfl, ?_⟩ (hd := zpk)
      have hnone : (pieces s)[k.toNat]? = none := List.getElem?_eq_none (by omega)
      unfold runeR
      rw [if_neg (by omega), hnone]
    · (try (refine st_O17_2 ?_; intros))
      refine WQ.mark (List.perm_middle (l₁ := [_, _, _])) ?_
      refine q_fin0 (H0 := H) ⟨hle1.trans (hle2.trans hm3), rfl, ?_⟩ (hd := zpk)
      unfold runeR
      rw [if_pos]
      by_cases h : k < 0
      · exact .inl h
      · refine .inr ?_
        have := hno k.toNat
        omega
  · rintro D c pre m3 Hl _ ⟨rfl, p, hk, hget, rfl⟩ hm3
    simp only [List.cons_append, List.nil_append]
    have hlt := (List.getElem?_eq_some_iff.1 hget).1
    (try (refine st_O17_2 ?_; intros))
    refine WQ.mark (List.perm_middle (l₁ := [_, _])) ?_
    refine q_fin0 (H0 := H) ⟨hle1.trans (hle2.trans hm3), rfl, ?_⟩ (hd := zpk)
    unfold runeR
    rw [if_neg (by omega), hget]
end Go.Proofs.Ytljfncpecpkhhaa

/-
  Plain facts for ropes: a place told in all ways, as ropes find it. No condition.
-/
namespace Go.Eng
open Go
structure PlS where
  byte : Nat
  rune : Nat
  unit : Nat
  line : Nat
  col : Nat
  deriving DecidableEq
def PlS.cs (p : PlS) : List Value := [.int .i64 (p.byte : Int), .int .i64 (p.rune : Int), .int .i64 (p.unit : Int), .int .i64 (p.line : Int), .int .i64 (p.col : Int)]
def PlS.zero : PlS := ⟨0, 0, 0, 0, 0⟩
/-- a byte 13 ends its line, if no 10 stands behind it -/
def PlS.next (s : PlS) (last behind : Nat) : PlS := if last = 13 ∧ behind ≠ 10 then { s with line := s.line + 1, col := 0 } else s
def PlS.add (s : PlS) (p : Pc) : PlS := ⟨s.byte + p.w, s.rune + 1, s.unit + 1 + (if 65536 ≤ p.r then 1 else 0), s.line + (if p.r = 10 then 1 else 0), if p.r = 10 then 0 else s.col + 1⟩
def placeGo (k : Int) : List Pc → PlS → Nat → PlS
  | [], s, last => s.next last 0
  | p :: ps, s, last => if k < ((p.at_ + p.w : Nat) : Int) then s.next last p.r else placeGo k ps ((s.next last p.r).add p) p.r
def placeOf (s : List UInt8) (k : Int) : PlS := placeGo k (pieces s) PlS.zero 0
def PlS.small (s : PlS) (n : Nat) : Prop := s.byte ≤ 4 * n ∧ s.rune ≤ n ∧ s.unit ≤ 2 * n ∧ s.line ≤ 2 * n ∧ s.col ≤ n
theorem PlS.next_small {s : PlS} {n l b : Nat} (h : s.small n) : (s.next l b).byte = s.byte ∧ (s.next l b).byte ≤ 4 * n ∧ (s.next l b).rune ≤ n ∧ (s.next l b).unit ≤ 2 * n ∧ (s.next l b).line ≤ 2 * n + 1 ∧ (s.next l b).col ≤ n := by
  obtain ⟨h1, h2, h3, h4, h5⟩ := h
  unfold PlS.next
  split
  · exact ⟨rfl, h1, h2, h3, by simp only []; omega, by simp only []; omega⟩
  · exact ⟨rfl, h1, h2, h3, by omega, h5⟩
theorem PlS.add_small {s : PlS} {p : Pc} {n l b : Nat} (h : s.small n) (hw : p.w ≤ 4) : (((s.next l b).add p)).small (n + 1) := by
  obtain ⟨h0, h1, h2, h3, h4, h5⟩ := PlS.next_small (l := l) (b := b) h
  unfold PlS.small PlS.add
  simp only []
  refine ⟨by omega, by omega, ?_, ?_, ?_⟩
  · split <;> omega
  · split <;> omega
  · split <;> omega
end Go.Eng

/-
  The walks of the laws RopeJoined and RopeHeals. No condition.
-/
namespace Go.Eng
end Go.Eng
namespace Go.Proofs.Ytljfncpecpkhhaa
open Go Go.Eng
set_option maxRecDepth 100000
set_option maxHeartbeats 4000000
set_option linter.all false
attribute [local irreducible] WL WC WQ QFun QLoop Does Q1 QRound QAssign Go.Addr.add
end Go.Proofs.Ytljfncpecpkhhaa

/-
  The walk of the law RopeEarly. No condition.
-/
namespace Go.Eng
open Go Go.RowKit
section
variable {P : Program} {ro : Option Nat} {n : Nat} {w0 : World} {Q : Exit → Act → World → Prop} {r : Env} {ds : List Nat} {m : Mem} {H : SHeap}
theorem WC.heap {c : Code} {H' : SHeap} (hh : ∀ w, Sat w0 m H w → Sat w0 m H' w) (h : WC P ro n w0 c Q r ds m H') : WC P ro n w0 c Q r ds m H := fun tmps w ho hs => h tmps w ho (hh w hs)
theorem WQ.heapX {e : Exit} {H' : SHeap} (hh : ∀ w, Sat w0 m H w → Sat w0 m H' w) (h : WQ n w0 Q e r ds m H') : WQ n w0 Q e r ds m H := fun tmps w ho hs => h tmps w ho (hh w hs)
end
end Go.Eng
namespace Go.Proofs.Ytljfncpecpkhhaa
open Go Go.Eng
set_option maxRecDepth 100000
set_option maxHeartbeats 4000000
set_option linter.all false
attribute [local irreducible] WL WC WQ QFun QLoop Does Q1 QRound QAssign Go.Addr.add
attribute [local irreducible] textsOf txt
end Go.Proofs.Ytljfncpecpkhhaa

/-
  The walk of ropes' Place. No condition.
-/
namespace Go.Proofs.Ytljfncpecpkhhaa
open Go Go.Eng
set_option maxRecDepth 100000
set_option maxHeartbeats 4000000
set_option linter.all false
attribute [local irreducible] WL WC WQ QFun QLoop Does Q1 QRound QAssign Go.Addr.add
theorem next_any {b7 b8 : Nat} {last behind : Nat} {pl : PlS} (hl : pl.line ≤ 1000000000) (w0 : World) (m : Mem) (H : SHeap) :
    Does Try.prog 61 #[.int .i32 (behind : Int), .pointer (some ⟨b8, 0, none⟩), .pointer (some ⟨b7, 0, none⟩)] w0 m (.blk b8 (.cells [.int .i32 (last : Int)].toArray 21 (0, 0)) :: .blk b7 (.cells [.int .i64 (pl.byte : Int), .int .i64 (pl.rune : Int), .int .i64 (pl.unit : Int), .int .i64 (pl.line : Int), .int .i64 (pl.col : Int)].toArray 59 (0, 0)) :: H)
      (fun _ m' H' => m' = m ∧ H' = .blk b8 (.cells [.int .i32 (last : Int)].toArray 21 (0, 0)) :: .blk b7 (.cells (pl.next last behind).cs.toArray 59 (0, 0)) :: H) := by
  refine Does.of_body (args := [.int .i32 (behind : Int), .pointer (some ⟨b8, 0, none⟩), .pointer (some ⟨b7, 0, none⟩)]) Try.func61 rfl Try.ntmps61 rfl ?_
  by_cases h : last = 13 ∧ behind ≠ 10
  · obtain ⟨h1, h2⟩ := h
    have e : pl.next last behind = { pl with line := pl.line + 1, col := 0 } := by unfold PlS.next; rw [if_pos ⟨h1, h2⟩]
    rw [e]
    (try (refine st ?_; intros))
    exact q_finNorm0 (H0 := .blk b8 (.cells [.int .i32 (last : Int)].toArray 21 (0, 0)) :: .blk b7 (.cells [.int .i64 (pl.byte : Int), .int .i64 (pl.rune : Int), .int .i64 (pl.unit : Int), .int .i64 ((pl.line : Int) + 1), .int .i64 0].toArray 59 (0, 0)) :: H) ⟨rfl, rfl⟩ (hd := zpk)
  · have e : pl.next last behind = pl := by unfold PlS.next; rw [if_neg h]
    rw [e]
    by_cases h1 : last = 13
    · have h2 : behind = 10 := Classical.byContradiction fun h2 => h ⟨h1, h2⟩
      (try (refine st ?_; intros))
      exact q_finNorm0 (H0 := .blk b8 (.cells [.int .i32 (last : Int)].toArray 21 (0, 0)) :: .blk b7 (.cells [.int .i64 (pl.byte : Int), .int .i64 (pl.rune : Int), .int .i64 (pl.unit : Int), .int .i64 (pl.line : Int), .int .i64 (pl.col : Int)].toArray 59 (0, 0)) :: H) ⟨rfl, rfl⟩ (hd := zpk)
    · (try (refine st ?_; intros))
      exact q_finNorm0 (H0 := .blk b8 (.cells [.int .i32 (last : Int)].toArray 21 (0, 0)) :: .blk b7 (.cells [.int .i64 (pl.byte : Int), .int .i64 (pl.rune : Int), .int .i64 (pl.unit : Int), .int .i64 (pl.line : Int), .int .i64 (pl.col : Int)].toArray 59 (0, 0)) :: H) ⟨rfl, rfl⟩ (hd := zpk)
theorem sq_O19_1 {G : Prop} (h : G := by (repeat (first | (refine sp ?_; (repeat intro zzc)) | (refine iF 19 rfl ?_; refine w_callG Try.func19 ?_ (hs := lenT_any _ _ _ (by assumption))))); exact WQ.q1 rfl) : G := h
theorem st_O19_1 {G G' : Prop} (next : G') (h : Bx G' → G := by intro zzn; (first | ((refine st ?_; (repeat intro zzc)); (try ((first | (refine iF 19 rfl ?_; refine w_callG Try.func19 ?_ (hs := lenT_any _ _ _ (by assumption))) | ((refine iDraw ?_; (first | refine WC.drawAll rfl (by decide +kernel) ?_ | refine WC.draw 1 rfl (by decide +kernel) ?_ | refine WC.draw 2 rfl (by decide +kernel) ?_ | refine WC.draw 3 rfl (by decide +kernel) ?_ | refine WC.draw 4 rfl (by decide +kernel) ?_ | refine WC.draw 5 rfl (by decide +kernel) ?_ | refine WC.draw 6 rfl (by decide +kernel) ?_ | refine WC.draw 7 rfl (by decide +kernel) ?_ | refine WC.draw 8 rfl (by decide +kernel) ?_ | refine WC.draw 9 rfl (by decide +kernel) ?_ | refine WC.draw 10 rfl (by decide +kernel) ?_ | refine WC.draw 11 rfl (by decide +kernel) ?_ | refine WC.draw 12 rfl (by decide +kernel) ?_ | refine WC.draw 13 rfl (by decide +kernel) ?_ | refine WC.draw 14 rfl (by decide +kernel) ?_ | refine WC.draw 15 rfl (by decide +kernel) ?_ | refine WC.draw 16 rfl (by decide +kernel) ?_ | refine WC.draw 17 rfl (by decide +kernel) ?_ | refine WC.draw 18 rfl (by decide +kernel) ?_ | refine WC.draw 19 rfl (by decide +kernel) ?_ | refine WC.draw 20 rfl (by decide +kernel) ?_ | refine WC.draw 21 rfl (by decide +kernel) ?_ | refine WC.draw 22 rfl (by decide +kernel) ?_ | refine WC.draw 23 rfl (by decide +kernel) ?_ | refine WC.draw 24 rfl (by decide +kernel) ?_)); (repeat (refine WD.cons rfl (fun c h => by cases h) sq_O19_1 ?_)); refine WD.nil ?_)); (try (refine st ?_; (repeat intro zzc)))))) | ((first | (refine iF 19 rfl ?_; refine w_callG Try.func19 ?_ (hs := lenT_any _ _ _ (by assumption))) | ((refine iDraw ?_; (first | refine WC.drawAll rfl (by decide +kernel) ?_ | refine WC.draw 1 rfl (by decide +kernel) ?_ | refine WC.draw 2 rfl (by decide +kernel) ?_ | refine WC.draw 3 rfl (by decide +kernel) ?_ | refine WC.draw 4 rfl (by decide +kernel) ?_ | refine WC.draw 5 rfl (by decide +kernel) ?_ | refine WC.draw 6 rfl (by decide +kernel) ?_ | refine WC.draw 7 rfl (by decide +kernel) ?_ | refine WC.draw 8 rfl (by decide +kernel) ?_ | refine WC.draw 9 rfl (by decide +kernel) ?_ | refine WC.draw 10 rfl (by decide +kernel) ?_ | refine WC.draw 11 rfl (by decide +kernel) ?_ | refine WC.draw 12 rfl (by decide +kernel) ?_ | refine WC.draw 13 rfl (by decide +kernel) ?_ | refine WC.draw 14 rfl (by decide +kernel) ?_ | refine WC.draw 15 rfl (by decide +kernel) ?_ | refine WC.draw 16 rfl (by decide +kernel) ?_ | refine WC.draw 17 rfl (by decide +kernel) ?_ | refine WC.draw 18 rfl (by decide +kernel) ?_ | refine WC.draw 19 rfl (by decide +kernel) ?_ | refine WC.draw 20 rfl (by decide +kernel) ?_ | refine WC.draw 21 rfl (by decide +kernel) ?_ | refine WC.draw 22 rfl (by decide +kernel) ?_ | refine WC.draw 23 rfl (by decide +kernel) ?_ | refine WC.draw 24 rfl (by decide +kernel) ?_)); (repeat (refine WD.cons rfl (fun c h => by cases h) sq_O19_1 ?_)); refine WD.nil ?_)); (try (refine st ?_; (repeat intro zzc))))); (repeat ((first | (refine iF 19 rfl ?_; refine w_callG Try.func19 ?_ (hs := lenT_any _ _ _ (by assumption))) | ((refine iDraw ?_; (first | refine WC.drawAll rfl (by decide +kernel) ?_ | refine WC.draw 1 rfl (by decide +kernel) ?_ | refine WC.draw 2 rfl (by decide +kernel) ?_ | refine WC.draw 3 rfl (by decide +kernel) ?_ | refine WC.draw 4 rfl (by decide +kernel) ?_ | refine WC.draw 5 rfl (by decide +kernel) ?_ | refine WC.draw 6 rfl (by decide +kernel) ?_ | refine WC.draw 7 rfl (by decide +kernel) ?_ | refine WC.draw 8 rfl (by decide +kernel) ?_ | refine WC.draw 9 rfl (by decide +kernel) ?_ | refine WC.draw 10 rfl (by decide +kernel) ?_ | refine WC.draw 11 rfl (by decide +kernel) ?_ | refine WC.draw 12 rfl (by decide +kernel) ?_ | refine WC.draw 13 rfl (by decide +kernel) ?_ | refine WC.draw 14 rfl (by decide +kernel) ?_ | refine WC.draw 15 rfl (by decide +kernel) ?_ | refine WC.draw 16 rfl (by decide +kernel) ?_ | refine WC.draw 17 rfl (by decide +kernel) ?_ | refine WC.draw 18 rfl (by decide +kernel) ?_ | refine WC.draw 19 rfl (by decide +kernel) ?_ | refine WC.draw 20 rfl (by decide +kernel) ?_ | refine WC.draw 21 rfl (by decide +kernel) ?_ | refine WC.draw 22 rfl (by decide +kernel) ?_ | refine WC.draw 23 rfl (by decide +kernel) ?_ | refine WC.draw 24 rfl (by decide +kernel) ?_)); (repeat (refine WD.cons rfl (fun c h => by cases h) sq_O19_1 ?_)); refine WD.nil ?_)); (try (refine st ?_; (repeat intro zzc))))); (repeat revert zzc); exact zzn.out) : G := h ⟨next⟩
theorem cmx_O19_0 {G G' : Prop} (next : G') (h : Bx G' → G := by intro zzn; (try (refine wcal 0 ?_ (hwl := by intro zm zF zle; have zb := zle _ _ hb34; exact sq_O19_1))); (try (refine wcal 1 ?_ (hwl := by intro zm zF zle; have zb := zle _ _ hb34; exact sq_O19_1))); (try (refine wcal 2 ?_ (hwl := by intro zm zF zle; have zb := zle _ _ hb34; exact sq_O19_1))); (try (refine wcal 3 ?_ (hwl := by intro zm zF zle; have zb := zle _ _ hb34; exact sq_O19_1))); (try (refine wcal 4 ?_ (hwl := by intro zm zF zle; have zb := zle _ _ hb34; exact sq_O19_1))); (try (refine wcal 5 ?_ (hwl := by intro zm zF zle; have zb := zle _ _ hb34; exact sq_O19_1))); (try (refine wcal 6 ?_ (hwl := by intro zm zF zle; have zb := zle _ _ hb34; exact sq_O19_1))); (try (refine wcal 7 ?_ (hwl := by intro zm zF zle; have zb := zle _ _ hb34; exact sq_O19_1))); (try (refine wcal 8 ?_ (hwl := by intro zm zF zle; have zb := zle _ _ hb34; exact sq_O19_1))); (try (refine wcal 9 ?_ (hwl := by intro zm zF zle; have zb := zle _ _ hb34; exact sq_O19_1))); (try (refine wcal 10 ?_ (hwl := by intro zm zF zle; have zb := zle _ _ hb34; exact sq_O19_1))); (try (refine wcal 11 ?_ (hwl := by intro zm zF zle; have zb := zle _ _ hb34; exact sq_O19_1))); (try (refine wcal 12 ?_ (hwl := by intro zm zF zle; have zb := zle _ _ hb34; exact sq_O19_1))); (try (refine wcal 13 ?_ (hwl := by intro zm zF zle; have zb := zle _ _ hb34; exact sq_O19_1))); (try (refine wcal 14 ?_ (hwl := by intro zm zF zle; have zb := zle _ _ hb34; exact sq_O19_1))); (try (refine wcal 15 ?_ (hwl := by intro zm zF zle; have zb := zle _ _ hb34; exact sq_O19_1))); (try (refine wcal 16 ?_ (hwl := by intro zm zF zle; have zb := zle _ _ hb34; exact sq_O19_1))); (try (refine wcal 17 ?_ (hwl := by intro zm zF zle; have zb := zle _ _ hb34; exact sq_O19_1))); (try (refine wcal 18 ?_ (hwl := by intro zm zF zle; have zb := zle _ _ hb34; exact sq_O19_1))); (try (refine wcal 19 ?_ (hwl := by intro zm zF zle; have zb := zle _ _ hb34; exact sq_O19_1))); (try (refine wcal 20 ?_ (hwl := by intro zm zF zle; have zb := zle _ _ hb34; exact sq_O19_1))); (try (refine wcal 21 ?_ (hwl := by intro zm zF zle; have zb := zle _ _ hb34; exact sq_O19_1))); (try (refine wcal 22 ?_ (hwl := by intro zm zF zle; have zb := zle _ _ hb34; exact sq_O19_1))); (try (refine wcal 23 ?_ (hwl := by intro zm zF zle; have zb := zle _ _ hb34; exact sq_O19_1))); (try (refine wcal 24 ?_ (hwl := by intro zm zF zle; have zb := zle _ _ hb34; exact sq_O19_1))); (try (refine wcal 25 ?_ (hwl := by intro zm zF zle; have zb := zle _ _ hb34; exact sq_O19_1))); (try (refine wcal 26 ?_ (hwl := by intro zm zF zle; have zb := zle _ _ hb34; exact sq_O19_1))); (try (refine wcal 27 ?_ (hwl := by intro zm zF zle; have zb := zle _ _ hb34; exact sq_O19_1))); (try (refine wcal 28 ?_ (hwl := by intro zm zF zle; have zb := zle _ _ hb34; exact sq_O19_1))); (try (refine wcal 29 ?_ (hwl := by intro zm zF zle; have zb := zle _ _ hb34; exact sq_O19_1))); (try (refine wcal 30 ?_ (hwl := by intro zm zF zle; have zb := zle _ _ hb34; exact sq_O19_1))); (try (refine wcal 31 ?_ (hwl := by intro zm zF zle; have zb := zle _ _ hb34; exact sq_O19_1))); (try (refine wcal 32 ?_ (hwl := by intro zm zF zle; have zb := zle _ _ hb34; exact sq_O19_1))); (try (refine wcal 33 ?_ (hwl := by intro zm zF zle; have zb := zle _ _ hb34; exact sq_O19_1))); (try (refine wcal 34 ?_ (hwl := by intro zm zF zle; have zb := zle _ _ hb34; exact sq_O19_1))); (try (refine wcal 35 ?_ (hwl := by intro zm zF zle; have zb := zle _ _ hb34; exact sq_O19_1))); (try (refine wcal 36 ?_ (hwl := by intro zm zF zle; have zb := zle _ _ hb34; exact sq_O19_1))); (try (refine wcal 37 ?_ (hwl := by intro zm zF zle; have zb := zle _ _ hb34; exact sq_O19_1))); (try (refine wcal 38 ?_ (hwl := by intro zm zF zle; have zb := zle _ _ hb34; exact sq_O19_1))); (try (refine wcal 39 ?_ (hwl := by intro zm zF zle; have zb := zle _ _ hb34; exact sq_O19_1))); (try (refine wcal 40 ?_ (hwl := by intro zm zF zle; have zb := zle _ _ hb34; exact sq_O19_1))); (try (refine wcal 41 ?_ (hwl := by intro zm zF zle; have zb := zle _ _ hb34; exact sq_O19_1))); exact zzn.out) : G := h ⟨next⟩
theorem place_any {p : Value} {s : List UInt8} {k : Int} (w0 : World) (m : Mem) (H : SHeap) (hp : RopeAt m p s) :
    Does Try.prog 29 #[p, .int .i64 k] w0 m H (fun v m' H' => m.le m' ∧ H' = H ∧ v = if k < 0 ∨ (s.length : Int) < k then .tuple #[.agg PlS.zero.cs.toArray, .int .i64 0, .int .i64 5] else .tuple #[.agg (placeOf s k).cs.toArray, .int .i64 (k - ((placeOf s k).byte : Int)), .int .i64 0]) := by
  have hl := hp.len
  obtain ⟨b, rfl⟩ := ropes_ptr hp
  obtain ⟨o, hT, ho⟩ := hp.node
  have hnn : (some (⟨b, 0, none⟩ : Addr)).isNone = false := rfl
  have hpl := pieces_length s
  refine Does.of_body (args := [.pointer (some ⟨b, 0, none⟩), .int .i64 k]) Try.func29 rfl Try.ntmps29 rfl ?_
  by_cases hout : k < 0 ∨ (s.length : Int) < k
  · rw [if_pos hout]
    rw [← ho] at hout
    by_cases h1 : k < 0
    · (refine st_O19_1 ?_; intros; rename_i b3 b4 b5 b6)
      exact q_fin0 (H0 := H) ⟨Mem.le.refl _, rfl, rfl⟩ (hd := zpk)
    · (refine st_O19_1 ?_; intros; rename_i b3 b4 b5 b6)
      exact q_fin0 (H0 := H) ⟨Mem.le.refl _, rfl, rfl⟩ (hd := zpk)
  rw [if_neg hout]
  have hin : 0 ≤ k ∧ k ≤ ((rtxt o).length : Int) := by rw [ho]; omega
  (refine st_O19_1 ?_; intros; rename_i b3 b4 b5 b6 b7 b8 b9)
  refine w_callF Try.func23 ?_ (hs := piecesIt_any _ _ _)
  rintro v0 m H0 ⟨bi, rfl, rfl, rfl⟩
  refine WL.persist (b := bi) (by (repeat (first | exact Out.here | apply Out.there))) ?_
  intro m1 hle1 hbi
  refine WL.persist (b := b3) (by (repeat (first | exact Out.here | apply Out.there))) ?_
  intro m2 hle2 hb3
  refine WL.persist (b := b9) (by (repeat (first | exact Out.here | apply Out.there))) ?_
  intro m3 hle3 hb9
  replace hb3 := hle3 _ _ hb3
  replace hbi := hle3 _ _ (hle2 _ _ hbi)
  have hle := hle1.trans (hle2.trans hle3)
  have hT2 := hT.le hle
  have hseq := ropePieces_seq (b := bi) (p := .pointer (some ⟨b, 0, none⟩)) (o := o)
  rw [ho] at hseq
  (try (refine st_O19_1 ?_; intros))
  refine WC.heap (H' := .blk b8 (.cells [.int .i32 0].toArray 21 (0, 0)) :: .blk b7 (.cells [.int .i64 0, .int .i64 0, .int .i64 0, .int .i64 0, .int .i64 0].toArray 59 (0, 0)) :: .blk b6 (.cells [.int .i64 0].toArray 24 (0, 0)) :: .blk b5 (.cells [.int .i64 0].toArray 3 (0, 0)) :: .blk b4 (.cells [.int .i64 0, .int .i64 0, .int .i64 0, .int .i64 0, .int .i64 0].toArray 59 (0, 0)) :: H) zpk ?_
  refine WC.rangeFuncM (Hc := H) (encs := fun p : Pc => [p.v]) (xs := pieces s) (Cap := RopeIn bi (.pointer (some ⟨b, 0, none⟩)) o) (lb := [.pointer (some ⟨bi, 0, none⟩)]) (ps := [26])
    (J := fun pre _ Hl => ∃ (pl : PlS) (last : Nat), pl.small pre.length ∧ placeOf s k = placeGo k ((pieces s).drop pre.length) pl last ∧ Hl = [.blk b8 (.cells [.int .i32 (last : Int)].toArray 21 (0, 0)), .blk b7 (.cells [.int .i64 (pl.byte : Int), .int .i64 (pl.rune : Int), .int .i64 (pl.unit : Int), .int .i64 (pl.line : Int), .int .i64 (pl.col : Int)].toArray 59 (0, 0)), .blk b6 (.cells [.int .i64 0].toArray 24 (0, 0)), .blk b5 (.cells [.int .i64 0].toArray 3 (0, 0)), .blk b4 (.cells [.int .i64 0, .int .i64 0, .int .i64 0, .int .i64 0, .int .i64 0].toArray 59 (0, 0))])
    (Jx := fun c _ _ Hl => c = .ret ∧ Hl = [.blk b6 (.cells [.int .i64 0].toArray 24 (0, 0)), .blk b5 (.cells [.int .i64 (k - ((placeOf s k).byte : Int))].toArray 3 (0, 0)), .blk b4 (.cells (placeOf s k).cs.toArray 59 (0, 0))])
    rfl Try.func45 rfl rfl hseq ⟨hbi, hT2⟩ (fun _ => rfl) rfl (fun _ _ _ _ h _ => h) (fun _ _ _ _ _ h _ => h) (.cons (.cons (.cons (.cons (.cons .nil))))) ?_ ?_ ?_ ?_
  · exact ⟨PlS.zero, 0, ⟨by decide, by decide, by decide, by decide, by decide⟩, rfl, rfl⟩
  · rintro lp pre x post hxs m4 Hl ⟨pl, last, hsm, hgo, rfl⟩ hm4 Hfr hfr
    have hpre : pre.length + post.length + 1 = (pieces s).length := by rw [hxs]; simp; omega
    have hb34 := hm4 _ _ hb3
    have hb94 := hm4 _ _ hb9
    have hmem : x ∈ pieces s := by rw [hxs]; simp
    have hmw := mem_w hmem
    have hdr : (pieces s).drop pre.length = x :: post := by rw [hxs]; simp
    rw [hdr, placeGo] at hgo
    have hadd := PlS.add_small (p := x) (l := last) (b := x.r) hsm hmw.2.2.1
    obtain ⟨n0, n1, n2, n3, n4, n5⟩ := PlS.next_small (l := last) (b := x.r) hsm
    have hline : pl.line ≤ 1000000000 := by have := hsm.2.2.2.1; omega
    have hcs : (pl.next last x.r).cs = [.int .i64 ((pl.next last x.r).byte : Int), .int .i64 ((pl.next last x.r).rune : Int), .int .i64 ((pl.next last x.r).unit : Int), .int .i64 ((pl.next last x.r).line : Int), .int .i64 ((pl.next last x.r).col : Int)] := rfl
    simp only [List.cons_append, List.nil_append]
    (refine st_O19_1 ?_; intros; rename_i b10)
    refine WQ.assigned (Hl := [_, _, _, _, _, _]) (.cons (.cons (.cons (.cons (.cons (.cons .nil)))))) (Mem.le.refl _) ?_
    intro Hfr2
    simp only [List.cons_append, List.nil_append]
    (try (refine st_O19_1 ?_; intros))
    refine WL.heap (H' := .blk b8 (.cells [.int .i32 (last : Int)].toArray 21 (0, 0)) :: .blk b7 (.cells [.int .i64 (pl.byte : Int), .int .i64 (pl.rune : Int), .int .i64 (pl.unit : Int), .int .i64 (pl.line : Int), .int .i64 (pl.col : Int)].toArray 59 (0, 0)) :: .blk b10 (.cells x.cs.toArray 40 (0, 0)) :: .blk b6 (.cells [.int .i64 0].toArray 24 (0, 0)) :: .blk b5 (.cells [.int .i64 0].toArray 3 (0, 0)) :: .blk b4 (.cells [.int .i64 0, .int .i64 0, .int .i64 0, .int .i64 0, .int .i64 0].toArray 59 (0, 0)) :: Hfr2) zpk ?_
    refine WL.callV rfl Try.func61 rfl rfl (by exact rfl) (by exact rfl) (next_any hline _ _ _) ?_
    rintro u m4 H4 ⟨rfl, rfl⟩
    rw [hcs]
    obtain ⟨q, hq⟩ : ∃ q, pl.next last x.r = q := ⟨_, rfl⟩
    rw [hq] at n0 n1 n2 n3 n4 n5 hgo hadd ⊢
    have hxcs : x.cs = [.int .i64 (x.at_ : Int), .int .i64 (x.w : Int), .int .i32 (x.r : Int), .bool x.b] := rfl
    rw [hxcs]
    have hxw : 1 ≤ x.w ∧ x.w ≤ 4 := ⟨hmw.2.1, hmw.2.2.1⟩
    have hsl : pre.length ≤ 16777216 := by omega
    by_cases hk : k < ((x.at_ + x.w : Nat) : Int)
    · rw [if_pos hk] at hgo
      (try (refine st_O19_1 ?_; intros))
      refine WC.drawE 6 ([.blk b7 (.cells [.int .i64 (q.byte : Int), .int .i64 (q.rune : Int), .int .i64 (q.unit : Int), .int .i64 (q.line : Int), .int .i64 (q.col : Int)].toArray 59 (0, 0)), .blk b6 (.cells [.int .i64 0].toArray 24 (0, 0)), .blk b5 (.cells [.int .i64 0].toArray 3 (0, 0))]) (.blk b4 (.cells [.int .i64 0, .int .i64 0, .int .i64 0, .int .i64 0, .int .i64 0].toArray 59 (0, 0)) :: Hfr2) rfl (by decide +kernel) zpk ?_
      (refine cmx_O19_0 ?_)
      refine WE.act0 5 (by decide +kernel) rfl rfl (fun c h => by cases h) ?_
      (try (refine st_O19_1 ?_; intros))
      refine WQ.stored (B := []) (U := .blk b4 (.cells [.int .i64 (q.byte : Int), .int .i64 (q.rune : Int), .int .i64 (q.unit : Int), .int .i64 (q.line : Int), .int .i64 (q.col : Int)].toArray 59 (0, 0)) :: Hfr2) (Mem.le.refl _) zpk ?_
      refine WE.done (by decide +kernel) ?_
      (try (refine st_O19_1 ?_; intros))
      refine WQ.roundRet (Hl := [.blk b6 _, .blk b5 _, .blk b4 _]) zpk (Mem.le.refl _) ⟨rfl, ?_⟩
      rw [hgo]
      rfl
    · rw [if_neg hk] at hgo
      have hgo2 : placeOf s k = placeGo k ((pieces s).drop (pre ++ [x]).length) (q.add x) x.r := by rw [hgo, hxs]; simp
      have hadd2 : (q.add x).small (pre ++ [x]).length := by simpa using hadd
      by_cases h16 : 65536 ≤ x.r
      · by_cases h10 : x.r = 10
        · omega
        · have e : q.add x = ⟨q.byte + x.w, q.rune + 1, q.unit + 1 + 1, q.line, q.col + 1⟩ := by unfold PlS.add; rw [if_pos h16, if_neg h10, if_neg h10]; rfl
          rw [e] at hgo2 hadd2
          (try (refine st_O19_1 ?_; intros))
          refine WQ.roundOn (Hl := [.blk b8 _, .blk b7 _, .blk b6 _, .blk b5 _, .blk b4 _]) zpk (Mem.le.refl _) ⟨_, _, hadd2, hgo2, ?_⟩
          rfl
      · by_cases h10 : x.r = 10
        · have e : q.add x = ⟨q.byte + x.w, q.rune + 1, q.unit + 1, q.line + 1, 0⟩ := by unfold PlS.add; rw [if_neg h16, if_pos h10, if_pos h10]
          rw [e] at hgo2 hadd2
          (try (refine st_O19_1 ?_; intros))
          refine WQ.roundOn (Hl := [.blk b8 _, .blk b7 _, .blk b6 _, .blk b5 _, .blk b4 _]) zpk (Mem.le.refl _) ⟨_, _, hadd2, hgo2, ?_⟩
          rfl
        · have e : q.add x = ⟨q.byte + x.w, q.rune + 1, q.unit + 1, q.line, q.col + 1⟩ := by unfold PlS.add; rw [if_neg h16, if_neg h10, if_neg h10]; rfl
          rw [e] at hgo2 hadd2
          (try (refine st_O19_1 ?_; intros))
          refine WQ.roundOn (Hl := [.blk b8 _, .blk b7 _, .blk b6 _, .blk b5 _, .blk b4 _]) zpk (Mem.le.refl _) ⟨_, _, hadd2, hgo2, ?_⟩
          rfl
  · rintro D m4 Hl ⟨pl, last, hsm, hgo, rfl⟩ hm4
    simp only [List.cons_append, List.nil_append]
    rw [List.drop_length, placeGo] at hgo
    have hb34 := hm4 _ _ hb3
    have hb94 := hm4 _ _ hb9
    obtain ⟨n0, n1, n2, n3, n4, n5⟩ := PlS.next_small (l := last) (b := 0) hsm
    have hline : pl.line ≤ 1000000000 := by have := hsm.2.2.2.1; omega
    have hcs : (pl.next last 0).cs = [.int .i64 ((pl.next last 0).byte : Int), .int .i64 ((pl.next last 0).rune : Int), .int .i64 ((pl.next last 0).unit : Int), .int .i64 ((pl.next last 0).line : Int), .int .i64 ((pl.next last 0).col : Int)] := rfl
    (try (refine st_O19_1 ?_; intros))
    refine WL.callV rfl Try.func61 rfl rfl (by exact rfl) (by exact rfl) (next_any (behind := 0) hline _ _ _) ?_
    rintro u m4 H4 ⟨rfl, rfl⟩
    rw [hcs]
    obtain ⟨q, hq⟩ : ∃ q, pl.next last 0 = q := ⟨_, rfl⟩
    rw [hq] at n0 n1 n2 n3 n4 n5 hgo ⊢
    (try (refine st_O19_1 ?_; intros))
    refine WC.drawE 6 ([.blk b7 (.cells [.int .i64 (q.byte : Int), .int .i64 (q.rune : Int), .int .i64 (q.unit : Int), .int .i64 (q.line : Int), .int .i64 (q.col : Int)].toArray 59 (0, 0)), .blk b6 (.cells [.int .i64 0].toArray 24 (0, 0)), .blk b5 (.cells [.int .i64 0].toArray 3 (0, 0))]) (.blk b4 (.cells [.int .i64 0, .int .i64 0, .int .i64 0, .int .i64 0, .int .i64 0].toArray 59 (0, 0)) :: .blk D (.deferred (some [])) :: H) rfl (by decide +kernel) zpk ?_
    (refine cmx_O19_0 ?_)
    refine WE.act0 5 (by decide +kernel) rfl rfl (fun c h => by cases h) ?_
    (try (refine st_O19_1 ?_; intros))
    refine WQ.stored (B := []) (U := .blk b4 (.cells [.int .i64 (q.byte : Int), .int .i64 (q.rune : Int), .int .i64 (q.unit : Int), .int .i64 (q.line : Int), .int .i64 (q.col : Int)].toArray 59 (0, 0)) :: .blk D (.deferred (some [])) :: H) (Mem.le.refl _) zpk ?_
    refine WE.done (by decide +kernel) ?_
    (try (refine st_O19_1 ?_; intros))
    refine WQ.heapX (H' := .blk D (.deferred (some [])) :: .blk b6 (.cells [.int .i64 0].toArray 24 (0, 0)) :: .blk b5 (.cells [.int .i64 (k - (q.byte : Int))].toArray 3 (0, 0)) :: .blk b4 (.cells [.int .i64 (q.byte : Int), .int .i64 (q.rune : Int), .int .i64 (q.unit : Int), .int .i64 (q.line : Int), .int .i64 (q.col : Int)].toArray 59 (0, 0)) :: H) zpk ?_
    refine WQ.mark (H1 := .blk b6 (.cells [.int .i64 0].toArray 24 (0, 0)) :: .blk b5 (.cells [.int .i64 (k - (q.byte : Int))].toArray 3 (0, 0)) :: .blk b4 (.cells [.int .i64 (q.byte : Int), .int .i64 (q.rune : Int), .int .i64 (q.unit : Int), .int .i64 (q.line : Int), .int .i64 (q.col : Int)].toArray 59 (0, 0)) :: H) (List.Perm.refl _) ?_
    refine q_fin0 (H0 := H) ⟨hle.trans hm4, rfl, ?_⟩ (hd := zpk)
    rw [hgo]
    rfl
  · rintro D c pre m4 Hl _ ⟨rfl, rfl⟩ hm4
    simp only [List.cons_append, List.nil_append]
    (try (refine st_O19_1 ?_; intros))
    refine WQ.mark (List.perm_middle (l₁ := [_, _, _])) ?_
    exact q_fin0 (H0 := H) ⟨hle.trans hm4, rfl, rfl⟩ (hd := zpk)
end Go.Proofs.Ytljfncpecpkhhaa

/-
  A walk's engine: contracts that are told of worlds, as contracts of the engine. No condition.
-/
set_option linter.all false
namespace Go.Eng
open Go Go.RowKit
theorem Does.ofSame {P : Program} {f : FuncId} {args : Array Value} {w0 : World} {m : Mem} {H : SHeap} {v : Value} (h : ∀ w, Sat w0 m H w → Calls P f args w fun e w' => e = .returned v ∧ w' = w) : Does P f args w0 m H (Gives v m H) :=
  fun w hs => (callsIn_wide.2 (h w hs)).mono fun _ _ ⟨he, hw⟩ => ⟨v, m, H, he, ⟨rfl, rfl, rfl⟩, by subst hw; exact hs⟩
/-- a variable of the library's holds some number -/
def GInt (g : Nat) (m : Mem) : Prop := ∃ cs T fz z, m g = some (.cells cs T fz) ∧ cs[0]? = some (.int .i64 z)
theorem GInt.le {g : Nat} {m m' : Mem} (h : GInt g m) (hm : m.le m') : GInt g m' := by
  obtain ⟨cs, T, fz, z, h1, h2⟩ := h
  exact ⟨cs, T, fz, z, hm _ _ h1, h2⟩
theorem GInt.cell {g : Nat} {m : Mem} {w0 w : World} {H : SHeap} (h : GInt g m) (hs : Sat w0 m H w) : ∃ z, w.cell? ⟨g, 0, none⟩ = some (.int .i64 z) := by
  obtain ⟨cs, T, fz, z, h1, h2⟩ := h
  exact ⟨z, by simp [World.cell?, hs.pers _ _ h1, h2]⟩
end Go.Eng

/-
  Contracts of the library, laid at this seat by the shelf's own tools. No condition.
-/
namespace Go.Proofs.Ytljfncpecpkhhaa
open Go Go.Shelf Go.Proofs
set_option linter.all false
def sh_lays143_ren : Go.Shelf.Ren := ⟨fun | 143 => 62 | 219 => 83 | 217 => 90 | 225 => 91 | 224 => 92 | 267 => 93 | 266 => 96 | 314 => 97 | n => n, fun | 9 => 9 | 3 => 3 | 4 => 4 | 5 => 5 | 46 => 95 | 146 => 126 | 51 => 125 | n => n, fun | 1 => 0 | n => n⟩
theorem sh_lays143 : Go.Proofs.Lays.n143 Try.prog sh_lays143_ren := {
  mixed := by kernel_rfl
  f143 := Try.func62.trans (congrArg some (by kernel_rfl))
  f217 := Try.func90.trans (congrArg some (by kernel_rfl))
  f219 := Try.func83.trans (congrArg some (by kernel_rfl))
  f224 := Try.func92.trans (congrArg some (by kernel_rfl))
  f225 := Try.func91.trans (congrArg some (by kernel_rfl))
  f266 := Try.func96.trans (congrArg some (by kernel_rfl))
  f267 := Try.func93.trans (congrArg some (by kernel_rfl))
  f314 := Try.func97.trans (congrArg some (by kernel_rfl))
  t3 := Try.underlying3
  a3 := Try.isAgg3
  z3 := Try.sizeOf3
  v3 := Try.zeroValue3
  t4 := Try.underlying4
  a4 := Try.isAgg4
  z4 := Try.sizeOf4
  v4 := Try.zeroValue4
  t5 := Try.underlying5
  a5 := Try.isAgg5
  z5 := Try.sizeOf5
  v5 := Try.zeroValue5
  t9 := Try.underlying9
  a9 := Try.isAgg9
  z9 := Try.sizeOf9
  v9 := Try.zeroValue9
  t46 := Try.underlying95
  a46 := Try.isAgg95
  z46 := Try.sizeOf95
  v46 := Try.zeroValue95
  t51 := Try.underlying125
  a51 := Try.isAgg125
  z51 := Try.sizeOf125
  v51 := Try.zeroValue125
  t146 := Try.underlying126
  a146 := Try.isAgg126
  z146 := Try.sizeOf126
  v146 := Try.zeroValue126
  g1 := by kernel_rfl }
open Go.RowKit Go.Lib in
theorem sh_strings_Index (s sub : ByteArray) (m : Int) (w : World) (hs : s.size < 4294967281) (hm : w.cell? ⟨0, 0, none⟩ = some (.int .i64 m)) :
    Calls Try.prog 62 #[.string s, .string sub] w fun e w' => e = .returned (.int .i64 (Lib.index s.data.toList sub.data.toList)) ∧ w' = w := Any.strings_Index sh_lays143 s sub m w hs hm
def sh_lays99_ren : Go.Shelf.Ren := ⟨fun | 99 => 56 | 206 => 80 | n => n, fun | 9 => 9 | 4 => 4 | 3 => 3 | n => n, fun | n => n⟩
def sh_lays105_ren : Go.Shelf.Ren := ⟨fun | 105 => 28 | 212 => 55 | 99 => 56 | 165 => 57 | 166 => 58 | 170 => 59 | 169 => 60 | 263 => 78 | 264 => 79 | 206 => 80 | 240 => 81 | 241 => 82 | 276 => 88 | 277 => 89 | n => n, fun | 9 => 9 | 3 => 3 | 4 => 4 | 20 => 20 | 0 => 0 | 46 => 95 | 109 => 96 | 5 => 5 | 72 => 101 | 76 => 105 | 51 => 125 | 146 => 126 | 53 => 128 | 148 => 129 | 70 => 99 | 37 => 90 | 75 => 104 | 127 => 131 | 164 => 140 | 80 => 29 | n => n, fun | n => n⟩
end Go.Proofs.Ytljfncpecpkhhaa

/-
  The library's functions that ropes call: strings.Index, HasPrefix, Repeat. No condition.
-/
namespace Go.Proofs.Ytljfncpecpkhhaa
open Go Go.Eng
theorem stringsIndex_any {s t : List UInt8} {w0 : World} {m : Mem} {H : SHeap} (hs : s.length < 4294967281) (hg : GInt 0 m) : Does Try.prog 62 #[str s, str t] w0 m H (Gives (.int .i64 (Lib.index s t)) m H) := by
  refine Does.ofSame fun w hw => ?_
  obtain ⟨z, hz⟩ := hg.cell hw
  exact sh_strings_Index ⟨s.toArray⟩ ⟨t.toArray⟩ z w (by simpa [ByteArray.size] using hs) hz
end Go.Proofs.Ytljfncpecpkhhaa

/-
  The walk of the law RopeHeals. No condition.
-/
namespace Go.Eng
end Go.Eng
namespace Go.Proofs.Ytljfncpecpkhhaa
open Go Go.Eng
set_option maxRecDepth 100000
set_option maxHeartbeats 4000000
set_option linter.all false
attribute [local irreducible] WL WC WQ QFun QLoop Does Q1 QRound QAssign Go.Addr.add
end Go.Proofs.Ytljfncpecpkhhaa

/-
  The walk of the law RopeGrows. No condition.
-/
namespace Go.Eng
end Go.Eng
namespace Go.Proofs.Ytljfncpecpkhhaa
open Go Go.Eng
set_option maxRecDepth 100000
set_option maxHeartbeats 4000000
set_option linter.all false
attribute [local irreducible] WL WC WQ QFun QLoop Does Q1 QRound QAssign Go.Addr.add
end Go.Proofs.Ytljfncpecpkhhaa

/-
  The walks of ropes' Index, and of what nil ropes answer. No condition.
-/
namespace Go.Eng
/-- the least place from one on at which a text stands -/
def idxR (s t : List UInt8) (f : Int) : Int × Bool := if f < 0 ∨ (s.length : Int) < f then (0, false) else if Lib.index (s.drop f.toNat) t < 0 then (0, false) else (f + Lib.index (s.drop f.toNat) t, true)
end Go.Eng
namespace Go.Proofs.Ytljfncpecpkhhaa
open Go Go.Eng
set_option maxRecDepth 100000
set_option maxHeartbeats 4000000
set_option linter.all false
attribute [local irreducible] WL WC WQ QFun QLoop Does Q1 QRound QAssign Go.Addr.add
attribute [local irreducible] Lib.index
theorem sq_O21_1 {G : Prop} (h : G := by (repeat (first | (refine sp ?_; (repeat intro zzc)) | (refine iF 19 rfl ?_; refine w_callG Try.func19 ?_ (hs := len_any _ _ _ (by assumption))) | (refine iF 15 rfl ?_; refine w_callG Try.func15 ?_ (hs := text_any _ _ _ (by assumption))))); exact WQ.q1 rfl) : G := h
theorem st_O21_1 {G G' : Prop} (next : G') (h : Bx G' → G := by intro zzn; (first | ((refine st ?_; (repeat intro zzc)); (try ((first | (refine iF 19 rfl ?_; refine w_callG Try.func19 ?_ (hs := len_any _ _ _ (by assumption))) | (refine iF 15 rfl ?_; refine w_callG Try.func15 ?_ (hs := text_any _ _ _ (by assumption))) | ((refine iDraw ?_; (first | refine WC.drawAll rfl (by decide +kernel) ?_ | refine WC.draw 1 rfl (by decide +kernel) ?_ | refine WC.draw 2 rfl (by decide +kernel) ?_ | refine WC.draw 3 rfl (by decide +kernel) ?_ | refine WC.draw 4 rfl (by decide +kernel) ?_ | refine WC.draw 5 rfl (by decide +kernel) ?_ | refine WC.draw 6 rfl (by decide +kernel) ?_ | refine WC.draw 7 rfl (by decide +kernel) ?_ | refine WC.draw 8 rfl (by decide +kernel) ?_ | refine WC.draw 9 rfl (by decide +kernel) ?_ | refine WC.draw 10 rfl (by decide +kernel) ?_ | refine WC.draw 11 rfl (by decide +kernel) ?_ | refine WC.draw 12 rfl (by decide +kernel) ?_ | refine WC.draw 13 rfl (by decide +kernel) ?_ | refine WC.draw 14 rfl (by decide +kernel) ?_ | refine WC.draw 15 rfl (by decide +kernel) ?_ | refine WC.draw 16 rfl (by decide +kernel) ?_ | refine WC.draw 17 rfl (by decide +kernel) ?_ | refine WC.draw 18 rfl (by decide +kernel) ?_ | refine WC.draw 19 rfl (by decide +kernel) ?_ | refine WC.draw 20 rfl (by decide +kernel) ?_ | refine WC.draw 21 rfl (by decide +kernel) ?_ | refine WC.draw 22 rfl (by decide +kernel) ?_ | refine WC.draw 23 rfl (by decide +kernel) ?_ | refine WC.draw 24 rfl (by decide +kernel) ?_)); (repeat (refine WD.cons rfl (fun c h => by cases h) sq_O21_1 ?_)); refine WD.nil ?_)); (try (refine st ?_; (repeat intro zzc)))))) | ((first | (refine iF 19 rfl ?_; refine w_callG Try.func19 ?_ (hs := len_any _ _ _ (by assumption))) | (refine iF 15 rfl ?_; refine w_callG Try.func15 ?_ (hs := text_any _ _ _ (by assumption))) | ((refine iDraw ?_; (first | refine WC.drawAll rfl (by decide +kernel) ?_ | refine WC.draw 1 rfl (by decide +kernel) ?_ | refine WC.draw 2 rfl (by decide +kernel) ?_ | refine WC.draw 3 rfl (by decide +kernel) ?_ | refine WC.draw 4 rfl (by decide +kernel) ?_ | refine WC.draw 5 rfl (by decide +kernel) ?_ | refine WC.draw 6 rfl (by decide +kernel) ?_ | refine WC.draw 7 rfl (by decide +kernel) ?_ | refine WC.draw 8 rfl (by decide +kernel) ?_ | refine WC.draw 9 rfl (by decide +kernel) ?_ | refine WC.draw 10 rfl (by decide +kernel) ?_ | refine WC.draw 11 rfl (by decide +kernel) ?_ | refine WC.draw 12 rfl (by decide +kernel) ?_ | refine WC.draw 13 rfl (by decide +kernel) ?_ | refine WC.draw 14 rfl (by decide +kernel) ?_ | refine WC.draw 15 rfl (by decide +kernel) ?_ | refine WC.draw 16 rfl (by decide +kernel) ?_ | refine WC.draw 17 rfl (by decide +kernel) ?_ | refine WC.draw 18 rfl (by decide +kernel) ?_ | refine WC.draw 19 rfl (by decide +kernel) ?_ | refine WC.draw 20 rfl (by decide +kernel) ?_ | refine WC.draw 21 rfl (by decide +kernel) ?_ | refine WC.draw 22 rfl (by decide +kernel) ?_ | refine WC.draw 23 rfl (by decide +kernel) ?_ | refine WC.draw 24 rfl (by decide +kernel) ?_)); (repeat (refine WD.cons rfl (fun c h => by cases h) sq_O21_1 ?_)); refine WD.nil ?_)); (try (refine st ?_; (repeat intro zzc))))); (repeat ((first | (refine iF 19 rfl ?_; refine w_callG Try.func19 ?_ (hs := len_any _ _ _ (by assumption))) | (refine iF 15 rfl ?_; refine w_callG Try.func15 ?_ (hs := text_any _ _ _ (by assumption))) | ((refine iDraw ?_; (first | refine WC.drawAll rfl (by decide +kernel) ?_ | refine WC.draw 1 rfl (by decide +kernel) ?_ | refine WC.draw 2 rfl (by decide +kernel) ?_ | refine WC.draw 3 rfl (by decide +kernel) ?_ | refine WC.draw 4 rfl (by decide +kernel) ?_ | refine WC.draw 5 rfl (by decide +kernel) ?_ | refine WC.draw 6 rfl (by decide +kernel) ?_ | refine WC.draw 7 rfl (by decide +kernel) ?_ | refine WC.draw 8 rfl (by decide +kernel) ?_ | refine WC.draw 9 rfl (by decide +kernel) ?_ | refine WC.draw 10 rfl (by decide +kernel) ?_ | refine WC.draw 11 rfl (by decide +kernel) ?_ | refine WC.draw 12 rfl (by decide +kernel) ?_ | refine WC.draw 13 rfl (by decide +kernel) ?_ | refine WC.draw 14 rfl (by decide +kernel) ?_ | refine WC.draw 15 rfl (by decide +kernel) ?_ | refine WC.draw 16 rfl (by decide +kernel) ?_ | refine WC.draw 17 rfl (by decide +kernel) ?_ | refine WC.draw 18 rfl (by decide +kernel) ?_ | refine WC.draw 19 rfl (by decide +kernel) ?_ | refine WC.draw 20 rfl (by decide +kernel) ?_ | refine WC.draw 21 rfl (by decide +kernel) ?_ | refine WC.draw 22 rfl (by decide +kernel) ?_ | refine WC.draw 23 rfl (by decide +kernel) ?_ | refine WC.draw 24 rfl (by decide +kernel) ?_)); (repeat (refine WD.cons rfl (fun c h => by cases h) sq_O21_1 ?_)); refine WD.nil ?_)); (try (refine st ?_; (repeat intro zzc))))); (repeat revert zzc); exact zzn.out) : G := h ⟨next⟩
theorem index_any {p : Value} {s t : List UInt8} {f : Int} (w0 : World) (m : Mem) (H : SHeap) (hg : GInt 0 m) (hp : RopeAt m p s) :
    Does Try.prog 30 #[p, str t, .int .i64 f] w0 m H (fun v m' H' => m.le m' ∧ H' = H ∧ v = .tuple #[.int .i64 (idxR s t f).1, .bool (idxR s t f).2]) := by
  have hl := hp.len
  obtain ⟨b, rfl⟩ := ropes_ptr hp
  have hnn : (some (⟨b, 0, none⟩ : Addr)).isNone = false := rfl
  refine Does.of_body (args := [.pointer (some ⟨b, 0, none⟩), str t, .int .i64 f]) Try.func30 rfl Try.ntmps30 rfl ?_
  unfold idxR
  by_cases h1 : f < 0
  · rw [if_pos (.inl h1)]
    (try (refine st_O21_1 ?_; intros))
    exact q_fin0 (H0 := H) ⟨Mem.le.refl _, rfl, rfl⟩ (hd := zpk)
  by_cases h2 : (s.length : Int) < f
  · rw [if_pos (.inr h2)]
    (try (refine st_O21_1 ?_; intros))
    exact q_fin0 (H0 := H) ⟨Mem.le.refl _, rfl, rfl⟩ (hd := zpk)
  rw [if_neg (by omega)]
  (try (refine st_O21_1 ?_; intros))
  refine w_callF Try.func16 ?_ (hs := slice_any _ _ _ hp)
  rintro v m1 H ⟨hle1, rfl, hv⟩
  have hv2 : ResV m1 (.ok (s.drop f.toNat)) v := by
    unfold sliceR at hv
    rw [if_neg (by omega), Int.toNat_natCast, List.take_of_length_le (Nat.le_refl _)] at hv
    exact hv
  obtain ⟨q, rfl, hq⟩ := hv2
  have hge := Lib.index_ge (s.drop f.toNat) t
  have hle := Lib.index_le (s.drop f.toNat) t
  have hdl : (s.drop f.toNat).length ≤ s.length := by simp
  (try (refine st_O21_1 ?_; intros))
  refine w_callF Try.func62 ?_ (hs := stringsIndex_any (by omega) (hg.le hle1))
  rintro v m2 H ⟨rfl, rfl, rfl⟩
  by_cases h3 : Lib.index (s.drop f.toNat) t < 0
  · rw [if_pos h3]
    (try (refine st_O21_1 ?_; intros))
    exact q_fin0 (H0 := H) ⟨hle1, rfl, rfl⟩ (hd := zpk)
  · rw [if_neg h3]
    (try (refine st_O21_1 ?_; intros))
    exact q_fin0 (H0 := H) ⟨hle1, rfl, rfl⟩ (hd := zpk)
theorem isN : (none : Option Addr).isNone = true := rfl
theorem indexNil_any {t : List UInt8} {f : Int} (w0 : World) (m : Mem) (H : SHeap) : Does Try.prog 30 #[.pointer none, str t, .int .i64 f] w0 m H (Gives (.tuple #[.int .i64 0, .bool false]) m H) := by
  refine Does.of_body (args := [.pointer none, str t, .int .i64 f]) Try.func30 rfl Try.ntmps30 rfl ?_
  have hnn := isN
  (try (refine st_O21_1 ?_; intros))
  exact q_fin0 (H0 := H) (Gives.mk rfl) (hd := zpk)
theorem sliceNil_any {f t : Int} (w0 : World) (m : Mem) (H : SHeap) : Does Try.prog 16 #[.pointer none, .int .i64 f, .int .i64 t] w0 m H (Gives (.tuple #[.pointer none, .int .i64 1]) m H) := by
  refine Does.of_body (args := [.pointer none, .int .i64 f, .int .i64 t]) Try.func16 rfl Try.ntmps16 rfl ?_
  have hnn := isN
  (try (refine st_O21_1 ?_; intros))
  exact q_fin0 (H0 := H) (Gives.mk rfl) (hd := zpk)
theorem deleteNil_any {f t : Int} (w0 : World) (m : Mem) (H : SHeap) : Does Try.prog 18 #[.pointer none, .int .i64 f, .int .i64 t] w0 m H (Gives (.tuple #[.pointer none, .int .i64 1]) m H) := by
  refine Does.of_body (args := [.pointer none, .int .i64 f, .int .i64 t]) Try.func18 rfl Try.ntmps18 rfl ?_
  have hnn := isN
  (try (refine st_O21_1 ?_; intros))
  exact q_fin0 (H0 := H) (Gives.mk rfl) (hd := zpk)
theorem insertNil_any {f : Int} {u : List UInt8} (w0 : World) (m : Mem) (H : SHeap) : Does Try.prog 17 #[.pointer none, .int .i64 f, str u] w0 m H (Gives (.tuple #[.pointer none, .int .i64 1]) m H) := by
  refine Does.of_body (args := [.pointer none, .int .i64 f, str u]) Try.func17 rfl Try.ntmps17 rfl ?_
  have hnn := isN
  (try (refine st_O21_1 ?_; intros))
  exact q_fin0 (H0 := H) (Gives.mk rfl) (hd := zpk)
theorem joinNilL_any {q : Value} (w0 : World) (m : Mem) (H : SHeap) : Does Try.prog 13 #[.pointer none, q] w0 m H (Gives (.tuple #[.pointer none, .int .i64 1]) m H) := by
  refine Does.of_body (args := [.pointer none, q]) Try.func13 rfl Try.ntmps13 rfl ?_
  have hnn := isN
  (try (refine st_O21_1 ?_; intros))
  exact q_fin0 (H0 := H) (Gives.mk rfl) (hd := zpk)
theorem joinNilR_any {p : Option Addr} (w0 : World) (m : Mem) (H : SHeap) : Does Try.prog 13 #[.pointer p, .pointer none] w0 m H (Gives (.tuple #[.pointer none, .int .i64 1]) m H) := by
  refine Does.of_body (args := [.pointer p, .pointer none]) Try.func13 rfl Try.ntmps13 rfl ?_
  have hnn := isN
  cases p with
  | none =>
    (try (refine st_O21_1 ?_; intros))
    exact q_fin0 (H0 := H) (Gives.mk rfl) (hd := zpk)
  | some a =>
    have hna : (some a).isNone = false := rfl
    (try (refine st_O21_1 ?_; intros))
    exact q_fin0 (H0 := H) (Gives.mk rfl) (hd := zpk)
theorem pieceNil_any {k : Int} (w0 : World) (m : Mem) (H : SHeap) : Does Try.prog 22 #[.pointer none, .int .i64 k] w0 m H (Gives (.tuple #[zeroP, .int .i64 1]) m H) := by
  refine Does.of_body (args := [.pointer none, .int .i64 k]) Try.func22 rfl Try.ntmps22 rfl ?_
  have hnn := isN
  (try (refine st_O21_1 ?_; intros))
  exact q_fin0 (H0 := H) (Gives.mk rfl) (hd := zpk)
theorem runeNil_any {k : Int} (w0 : World) (m : Mem) (H : SHeap) : Does Try.prog 24 #[.pointer none, .int .i64 k] w0 m H (Gives (.tuple #[.int .i64 0, .int .i64 1]) m H) := by
  refine Does.of_body (args := [.pointer none, .int .i64 k]) Try.func24 rfl Try.ntmps24 rfl ?_
  have hnn := isN
  (try (refine st_O21_1 ?_; intros))
  exact q_fin0 (H0 := H) (Gives.mk rfl) (hd := zpk)
theorem placeNil_any {k : Int} (w0 : World) (m : Mem) (H : SHeap) : Does Try.prog 29 #[.pointer none, .int .i64 k] w0 m H (Gives (.tuple #[.agg PlS.zero.cs.toArray, .int .i64 0, .int .i64 1]) m H) := by
  refine Does.of_body (args := [.pointer none, .int .i64 k]) Try.func29 rfl Try.ntmps29 rfl ?_
  have hnn := isN
  (try (refine st_O21_1 ?_; intros))
  exact q_fin0 (H0 := H) (Gives.mk rfl) (hd := zpk)
theorem sameNilL_any {q : Value} (w0 : World) (m : Mem) (H : SHeap) : Does Try.prog 14 #[.pointer none, q] w0 m H (Gives (.bool false) m H) := by
  refine Does.of_body (args := [.pointer none, q]) Try.func14 rfl Try.ntmps14 rfl ?_
  have hnn : (!(none : Option Addr).isNone) = false := rfl
  (try (refine st_O21_1 ?_; intros))
  exact q_fin0 (H0 := H) (Gives.mk rfl) (hd := zpk)
theorem sameNilR_any {p : Option Addr} (w0 : World) (m : Mem) (H : SHeap) : Does Try.prog 14 #[.pointer p, .pointer none] w0 m H (Gives (.bool false) m H) := by
  refine Does.of_body (args := [.pointer p, .pointer none]) Try.func14 rfl Try.ntmps14 rfl ?_
  have hnn : (!(none : Option Addr).isNone) = false := rfl
  cases p with
  | none =>
    (try (refine st_O21_1 ?_; intros))
    exact q_fin0 (H0 := H) (Gives.mk rfl) (hd := zpk)
  | some a =>
    have hna : (!(some a).isNone) = true := rfl
    (try (refine st_O21_1 ?_; intros))
    exact q_fin0 (H0 := H) (Gives.mk rfl) (hd := zpk)
theorem pieceOut_any {p : Value} {s : List UInt8} {k : Int} (hk : k < 0 ∨ (s.length : Int) ≤ k) (w0 : World) (m : Mem) (H : SHeap) (hp : RopeAt m p s) :
    Does Try.prog 22 #[p, .int .i64 k] w0 m H (Gives (.tuple #[zeroP, .int .i64 5]) m H) := by
  obtain ⟨b, rfl⟩ := ropes_ptr hp
  have hnn : (some (⟨b, 0, none⟩ : Addr)).isNone = false := rfl
  refine Does.of_body (args := [.pointer (some ⟨b, 0, none⟩), .int .i64 k]) Try.func22 rfl Try.ntmps22 rfl ?_
  by_cases h : k < 0
  · (try (refine st_O21_1 ?_; intros))
    exact q_fin0 (H0 := H) (Gives.mk rfl) (hd := zpk)
  · (try (refine st_O21_1 ?_; intros))
    exact q_fin0 (H0 := H) (Gives.mk rfl) (hd := zpk)
theorem backNil_seq {b : Nat} : SeqM Try.prog 48 [.pointer (some ⟨b, 0, none⟩)] (fun p : Pc => [p.v]) [] (fun m => m b = some (.cells [.pointer none].toArray 23 (0, 0))) := by
  rintro w0 lp J Jx m H mJ mX hcap h0 hY
  refine Does.of_body Try.func48 rfl Try.ntmps48 rfl ?_
  have hnn := isN
  (try (refine st_O21_1 ?_; intros))
  exact q_fin0 (H0 := H) ⟨Mem.le.refl _, .inl h0⟩ (hd := zpk)
end Go.Proofs.Ytljfncpecpkhhaa

/-
  The walk of the law RopeKnown. No condition.
-/
namespace Go.Eng
theorem tee_pieces : pieces tee = [⟨0, 1, 97, false⟩, ⟨1, 2, 233, false⟩, ⟨3, 1, 10, false⟩, ⟨4, 4, 128512, false⟩] := by decide
theorem tee_over {q : Pc} (h : Over tee 2 q) : q = ⟨1, 2, 233, false⟩ := by
  obtain ⟨h1, h2, h3⟩ := h
  rw [tee_pieces] at h1
  simp only [List.mem_cons, List.not_mem_nil, or_false] at h1
  rcases h1 with rfl | rfl | rfl | rfl <;> simp_all
theorem tee_place : placeOf tee 6 = ⟨4, 3, 3, 1, 0⟩ := by
  unfold placeOf
  rw [tee_pieces]
  decide
theorem tee_x : (pieces [97, 195, 120, 169, 10, 240, 159, 152, 128]).length = 6 ∧ nBrk (pieces [97, 195, 120, 169, 10, 240, 159, 152, 128]) = 2 := by decide
theorem tee_idx : idxR tee [10] 0 = (3, true) ∧ idxR tee [] 8 = (8, true) ∧ idxR tee [97] 1 = (0, false) ∧ idxR tee [152] 0 = (6, true) := by decide
end Go.Eng
namespace Go.Proofs.Ytljfncpecpkhhaa
open Go Go.Eng
set_option maxRecDepth 100000
set_option maxHeartbeats 4000000
set_option linter.all false
attribute [local irreducible] WL WC WQ QFun QLoop Does Q1 QRound QAssign Go.Addr.add
theorem tee_runes : runeR tee 3 = (4, 0) ∧ runeR tee 4 = (8, 0) ∧ runeR tee 5 = (0, 5) := by
  refine ⟨?_, ?_, ?_⟩ <;> (unfold runeR; rw [tee_pieces]; decide)
theorem eq_pieceO (a b c a' b' c' : Int) (d d' : Bool) : eqB Try.prog 8 40 (.agg #[.int .i64 a, .int .i64 b, .int .i32 c, .bool d]) (.agg #[.int .i64 a', .int .i64 b', .int .i32 c', .bool d']) = some (dcd (a = a' ∧ b = b' ∧ c = c' ∧ d = d')) := eq_piece a b c a' b' c' d d'
theorem eq_place (a b c d e a' b' c' d' e' : Int) : eqB Try.prog 8 59 (.agg #[.int .i64 a, .int .i64 b, .int .i64 c, .int .i64 d, .int .i64 e]) (.agg #[.int .i64 a', .int .i64 b', .int .i64 c', .int .i64 d', .int .i64 e']) = some (dcd (a = a' ∧ b = b' ∧ c = c' ∧ d = d' ∧ e = e')) := by
  have h : eqB Try.prog 8 59 (.agg #[.int .i64 a, .int .i64 b, .int .i64 c, .int .i64 d, .int .i64 e]) (.agg #[.int .i64 a', .int .i64 b', .int .i64 c', .int .i64 d', .int .i64 e']) = some (a == a' && (b == b' && (c == c' && (d == d' && (e == e' && true))))) := by kernel_rfl
  rw [h]
  by_cases hp : a = a' ∧ b = b' ∧ c = c' ∧ d = d' ∧ e = e'
  · rw [dcd_true hp]; obtain ⟨rfl, rfl, rfl, rfl, rfl⟩ := hp; simp
  · rw [dcd_false hp]
    simp only [Bool.and_true, Option.some.injEq, Bool.and_eq_false_iff, beq_eq_false_iff_ne]
    by_cases h1 : a = a' <;> by_cases h2 : b = b' <;> by_cases h3 : c = c' <;> by_cases h4 : d = d' <;> by_cases h5 : e = e' <;> simp_all
theorem sq_O22_1 {G : Prop} (h : G := by (repeat (first | (refine sp ?_; (repeat intro zzc)) | (refine iB_eql rfl ?_; refine w_eqlV ?_ (he := eq_pieceO _ _ _ _ _ _ _ _)) | (refine iB_neq rfl ?_; refine w_neqV ?_ (he := eq_pieceO _ _ _ _ _ _ _ _)) | (refine iB_eql rfl ?_; refine w_eqlV ?_ (he := eq_place _ _ _ _ _ _ _ _ _ _)) | (refine iB_neq rfl ?_; refine w_neqV ?_ (he := eq_place _ _ _ _ _ _ _ _ _ _)) | (refine iF 15 rfl ?_; refine w_callG Try.func15 ?_ (hs := text_any _ _ _ (by assumption))) | (refine iF 15 rfl ?_; refine w_callG Try.func15 ?_ (hs := textNil_any _ _ _)) | (refine iF 19 rfl ?_; refine w_callG Try.func19 ?_ (hs := lenNil_any _ _ _)) | (refine iF 20 rfl ?_; refine w_callG Try.func20 ?_ (hs := depthNil_any _ _ _)) | (refine iF 14 rfl ?_; refine w_callG Try.func14 ?_ (hs := sameNilL_any _ _ _)) | (refine iF 14 rfl ?_; refine w_callG Try.func14 ?_ (hs := sameNilR_any _ _ _)) | (refine iF 16 rfl ?_; refine w_callG Try.func16 ?_ (hs := sliceNil_any _ _ _)) | (refine iF 18 rfl ?_; refine w_callG Try.func18 ?_ (hs := deleteNil_any _ _ _)) | (refine iF 17 rfl ?_; refine w_callG Try.func17 ?_ (hs := insertNil_any _ _ _)) | (refine iF 13 rfl ?_; refine w_callG Try.func13 ?_ (hs := joinNilL_any _ _ _)) | (refine iF 13 rfl ?_; refine w_callG Try.func13 ?_ (hs := joinNilR_any _ _ _)) | (refine iF 22 rfl ?_; refine w_callG Try.func22 ?_ (hs := pieceNil_any _ _ _)) | (refine iF 24 rfl ?_; refine w_callG Try.func24 ?_ (hs := runeNil_any _ _ _)) | (refine iF 29 rfl ?_; refine w_callG Try.func29 ?_ (hs := placeNil_any _ _ _)) | (refine iF 30 rfl ?_; refine w_callG Try.func30 ?_ (hs := indexNil_any _ _ _)))); exact WQ.q1 rfl) : G := h
theorem st_O22_1 {G G' : Prop} (next : G') (h : Bx G' → G := by intro zzn; (first | ((refine st ?_; (repeat intro zzc)); (try ((first | (refine iB_eql rfl ?_; refine w_eqlV ?_ (he := eq_pieceO _ _ _ _ _ _ _ _)) | (refine iB_neq rfl ?_; refine w_neqV ?_ (he := eq_pieceO _ _ _ _ _ _ _ _)) | (refine iB_eql rfl ?_; refine w_eqlV ?_ (he := eq_place _ _ _ _ _ _ _ _ _ _)) | (refine iB_neq rfl ?_; refine w_neqV ?_ (he := eq_place _ _ _ _ _ _ _ _ _ _)) | (refine iF 15 rfl ?_; refine w_callG Try.func15 ?_ (hs := text_any _ _ _ (by assumption))) | (refine iF 15 rfl ?_; refine w_callG Try.func15 ?_ (hs := textNil_any _ _ _)) | (refine iF 19 rfl ?_; refine w_callG Try.func19 ?_ (hs := lenNil_any _ _ _)) | (refine iF 20 rfl ?_; refine w_callG Try.func20 ?_ (hs := depthNil_any _ _ _)) | (refine iF 14 rfl ?_; refine w_callG Try.func14 ?_ (hs := sameNilL_any _ _ _)) | (refine iF 14 rfl ?_; refine w_callG Try.func14 ?_ (hs := sameNilR_any _ _ _)) | (refine iF 16 rfl ?_; refine w_callG Try.func16 ?_ (hs := sliceNil_any _ _ _)) | (refine iF 18 rfl ?_; refine w_callG Try.func18 ?_ (hs := deleteNil_any _ _ _)) | (refine iF 17 rfl ?_; refine w_callG Try.func17 ?_ (hs := insertNil_any _ _ _)) | (refine iF 13 rfl ?_; refine w_callG Try.func13 ?_ (hs := joinNilL_any _ _ _)) | (refine iF 13 rfl ?_; refine w_callG Try.func13 ?_ (hs := joinNilR_any _ _ _)) | (refine iF 22 rfl ?_; refine w_callG Try.func22 ?_ (hs := pieceNil_any _ _ _)) | (refine iF 24 rfl ?_; refine w_callG Try.func24 ?_ (hs := runeNil_any _ _ _)) | (refine iF 29 rfl ?_; refine w_callG Try.func29 ?_ (hs := placeNil_any _ _ _)) | (refine iF 30 rfl ?_; refine w_callG Try.func30 ?_ (hs := indexNil_any _ _ _)) | ((refine iDraw ?_; (first | refine WC.drawAll rfl (by decide +kernel) ?_ | refine WC.draw 1 rfl (by decide +kernel) ?_ | refine WC.draw 2 rfl (by decide +kernel) ?_ | refine WC.draw 3 rfl (by decide +kernel) ?_ | refine WC.draw 4 rfl (by decide +kernel) ?_ | refine WC.draw 5 rfl (by decide +kernel) ?_ | refine WC.draw 6 rfl (by decide +kernel) ?_ | refine WC.draw 7 rfl (by decide +kernel) ?_ | refine WC.draw 8 rfl (by decide +kernel) ?_ | refine WC.draw 9 rfl (by decide +kernel) ?_ | refine WC.draw 10 rfl (by decide +kernel) ?_ | refine WC.draw 11 rfl (by decide +kernel) ?_ | refine WC.draw 12 rfl (by decide +kernel) ?_ | refine WC.draw 13 rfl (by decide +kernel) ?_ | refine WC.draw 14 rfl (by decide +kernel) ?_ | refine WC.draw 15 rfl (by decide +kernel) ?_ | refine WC.draw 16 rfl (by decide +kernel) ?_ | refine WC.draw 17 rfl (by decide +kernel) ?_ | refine WC.draw 18 rfl (by decide +kernel) ?_ | refine WC.draw 19 rfl (by decide +kernel) ?_ | refine WC.draw 20 rfl (by decide +kernel) ?_ | refine WC.draw 21 rfl (by decide +kernel) ?_ | refine WC.draw 22 rfl (by decide +kernel) ?_ | refine WC.draw 23 rfl (by decide +kernel) ?_ | refine WC.draw 24 rfl (by decide +kernel) ?_)); (repeat (refine WD.cons rfl (fun c h => by cases h) sq_O22_1 ?_)); refine WD.nil ?_)); (try (refine st ?_; (repeat intro zzc)))))) | ((first | (refine iB_eql rfl ?_; refine w_eqlV ?_ (he := eq_pieceO _ _ _ _ _ _ _ _)) | (refine iB_neq rfl ?_; refine w_neqV ?_ (he := eq_pieceO _ _ _ _ _ _ _ _)) | (refine iB_eql rfl ?_; refine w_eqlV ?_ (he := eq_place _ _ _ _ _ _ _ _ _ _)) | (refine iB_neq rfl ?_; refine w_neqV ?_ (he := eq_place _ _ _ _ _ _ _ _ _ _)) | (refine iF 15 rfl ?_; refine w_callG Try.func15 ?_ (hs := text_any _ _ _ (by assumption))) | (refine iF 15 rfl ?_; refine w_callG Try.func15 ?_ (hs := textNil_any _ _ _)) | (refine iF 19 rfl ?_; refine w_callG Try.func19 ?_ (hs := lenNil_any _ _ _)) | (refine iF 20 rfl ?_; refine w_callG Try.func20 ?_ (hs := depthNil_any _ _ _)) | (refine iF 14 rfl ?_; refine w_callG Try.func14 ?_ (hs := sameNilL_any _ _ _)) | (refine iF 14 rfl ?_; refine w_callG Try.func14 ?_ (hs := sameNilR_any _ _ _)) | (refine iF 16 rfl ?_; refine w_callG Try.func16 ?_ (hs := sliceNil_any _ _ _)) | (refine iF 18 rfl ?_; refine w_callG Try.func18 ?_ (hs := deleteNil_any _ _ _)) | (refine iF 17 rfl ?_; refine w_callG Try.func17 ?_ (hs := insertNil_any _ _ _)) | (refine iF 13 rfl ?_; refine w_callG Try.func13 ?_ (hs := joinNilL_any _ _ _)) | (refine iF 13 rfl ?_; refine w_callG Try.func13 ?_ (hs := joinNilR_any _ _ _)) | (refine iF 22 rfl ?_; refine w_callG Try.func22 ?_ (hs := pieceNil_any _ _ _)) | (refine iF 24 rfl ?_; refine w_callG Try.func24 ?_ (hs := runeNil_any _ _ _)) | (refine iF 29 rfl ?_; refine w_callG Try.func29 ?_ (hs := placeNil_any _ _ _)) | (refine iF 30 rfl ?_; refine w_callG Try.func30 ?_ (hs := indexNil_any _ _ _)) | ((refine iDraw ?_; (first | refine WC.drawAll rfl (by decide +kernel) ?_ | refine WC.draw 1 rfl (by decide +kernel) ?_ | refine WC.draw 2 rfl (by decide +kernel) ?_ | refine WC.draw 3 rfl (by decide +kernel) ?_ | refine WC.draw 4 rfl (by decide +kernel) ?_ | refine WC.draw 5 rfl (by decide +kernel) ?_ | refine WC.draw 6 rfl (by decide +kernel) ?_ | refine WC.draw 7 rfl (by decide +kernel) ?_ | refine WC.draw 8 rfl (by decide +kernel) ?_ | refine WC.draw 9 rfl (by decide +kernel) ?_ | refine WC.draw 10 rfl (by decide +kernel) ?_ | refine WC.draw 11 rfl (by decide +kernel) ?_ | refine WC.draw 12 rfl (by decide +kernel) ?_ | refine WC.draw 13 rfl (by decide +kernel) ?_ | refine WC.draw 14 rfl (by decide +kernel) ?_ | refine WC.draw 15 rfl (by decide +kernel) ?_ | refine WC.draw 16 rfl (by decide +kernel) ?_ | refine WC.draw 17 rfl (by decide +kernel) ?_ | refine WC.draw 18 rfl (by decide +kernel) ?_ | refine WC.draw 19 rfl (by decide +kernel) ?_ | refine WC.draw 20 rfl (by decide +kernel) ?_ | refine WC.draw 21 rfl (by decide +kernel) ?_ | refine WC.draw 22 rfl (by decide +kernel) ?_ | refine WC.draw 23 rfl (by decide +kernel) ?_ | refine WC.draw 24 rfl (by decide +kernel) ?_)); (repeat (refine WD.cons rfl (fun c h => by cases h) sq_O22_1 ?_)); refine WD.nil ?_)); (try (refine st ?_; (repeat intro zzc))))); (repeat ((first | (refine iB_eql rfl ?_; refine w_eqlV ?_ (he := eq_pieceO _ _ _ _ _ _ _ _)) | (refine iB_neq rfl ?_; refine w_neqV ?_ (he := eq_pieceO _ _ _ _ _ _ _ _)) | (refine iB_eql rfl ?_; refine w_eqlV ?_ (he := eq_place _ _ _ _ _ _ _ _ _ _)) | (refine iB_neq rfl ?_; refine w_neqV ?_ (he := eq_place _ _ _ _ _ _ _ _ _ _)) | (refine iF 15 rfl ?_; refine w_callG Try.func15 ?_ (hs := text_any _ _ _ (by assumption))) | (refine iF 15 rfl ?_; refine w_callG Try.func15 ?_ (hs := textNil_any _ _ _)) | (refine iF 19 rfl ?_; refine w_callG Try.func19 ?_ (hs := lenNil_any _ _ _)) | (refine iF 20 rfl ?_; refine w_callG Try.func20 ?_ (hs := depthNil_any _ _ _)) | (refine iF 14 rfl ?_; refine w_callG Try.func14 ?_ (hs := sameNilL_any _ _ _)) | (refine iF 14 rfl ?_; refine w_callG Try.func14 ?_ (hs := sameNilR_any _ _ _)) | (refine iF 16 rfl ?_; refine w_callG Try.func16 ?_ (hs := sliceNil_any _ _ _)) | (refine iF 18 rfl ?_; refine w_callG Try.func18 ?_ (hs := deleteNil_any _ _ _)) | (refine iF 17 rfl ?_; refine w_callG Try.func17 ?_ (hs := insertNil_any _ _ _)) | (refine iF 13 rfl ?_; refine w_callG Try.func13 ?_ (hs := joinNilL_any _ _ _)) | (refine iF 13 rfl ?_; refine w_callG Try.func13 ?_ (hs := joinNilR_any _ _ _)) | (refine iF 22 rfl ?_; refine w_callG Try.func22 ?_ (hs := pieceNil_any _ _ _)) | (refine iF 24 rfl ?_; refine w_callG Try.func24 ?_ (hs := runeNil_any _ _ _)) | (refine iF 29 rfl ?_; refine w_callG Try.func29 ?_ (hs := placeNil_any _ _ _)) | (refine iF 30 rfl ?_; refine w_callG Try.func30 ?_ (hs := indexNil_any _ _ _)) | ((refine iDraw ?_; (first | refine WC.drawAll rfl (by decide +kernel) ?_ | refine WC.draw 1 rfl (by decide +kernel) ?_ | refine WC.draw 2 rfl (by decide +kernel) ?_ | refine WC.draw 3 rfl (by decide +kernel) ?_ | refine WC.draw 4 rfl (by decide +kernel) ?_ | refine WC.draw 5 rfl (by decide +kernel) ?_ | refine WC.draw 6 rfl (by decide +kernel) ?_ | refine WC.draw 7 rfl (by decide +kernel) ?_ | refine WC.draw 8 rfl (by decide +kernel) ?_ | refine WC.draw 9 rfl (by decide +kernel) ?_ | refine WC.draw 10 rfl (by decide +kernel) ?_ | refine WC.draw 11 rfl (by decide +kernel) ?_ | refine WC.draw 12 rfl (by decide +kernel) ?_ | refine WC.draw 13 rfl (by decide +kernel) ?_ | refine WC.draw 14 rfl (by decide +kernel) ?_ | refine WC.draw 15 rfl (by decide +kernel) ?_ | refine WC.draw 16 rfl (by decide +kernel) ?_ | refine WC.draw 17 rfl (by decide +kernel) ?_ | refine WC.draw 18 rfl (by decide +kernel) ?_ | refine WC.draw 19 rfl (by decide +kernel) ?_ | refine WC.draw 20 rfl (by decide +kernel) ?_ | refine WC.draw 21 rfl (by decide +kernel) ?_ | refine WC.draw 22 rfl (by decide +kernel) ?_ | refine WC.draw 23 rfl (by decide +kernel) ?_ | refine WC.draw 24 rfl (by decide +kernel) ?_)); (repeat (refine WD.cons rfl (fun c h => by cases h) sq_O22_1 ?_)); refine WD.nil ?_)); (try (refine st ?_; (repeat intro zzc))))); (repeat revert zzc); exact zzn.out) : G := h ⟨next⟩
theorem ropeKnown_any (w0 : World) (m : Mem) (H : SHeap) (hg : GInt 0 m) : Does Try.prog 9 #[] w0 m H (fun v m' _ => v = .bool true ∧ m.le m') := by
  refine Does.of_body (args := []) Try.func9 rfl Try.ntmps9 rfl ?_
  (refine st_O22_1 ?_; intros; rename_i b0)
  refine w_callF Try.func11 ?_ (hs := works_any _ _ _)
  rintro v m0 H1 ⟨hle0, rfl, rfl⟩
  replace hg := hg.le hle0
  (try (refine st_O22_1 ?_; intros))
  refine w_callF Try.func12 ?_ (hs := new_any tee (by decide) _ _ _)
  rintro v m1 H1 ⟨hle1, rfl, hv⟩
  obtain ⟨p, rfl, hp⟩ := hv
  obtain ⟨pb, rfl⟩ := ropes_ptr hp
  replace hg := hg.le hle1
  replace hle0 := hle0.trans hle1
  (try (refine st_O22_1 ?_; intros))
  refine w_callF Try.func22 ?_ (hs := piece_any (k := 2) (by decide) _ _ _ hp)
  rintro v m2 H1 ⟨hle2, rfl, q, hov, rfl⟩
  obtain rfl := tee_over hov
  replace hp := hp.le hle2
  replace hg := hg.le hle2
  replace hle0 := hle0.trans hle2
  (refine st_O22_1 ?_; intros; rename_i b3)
  refine w_callF Try.func22 ?_ (hs := pieceOut_any (k := 8) (by decide) _ _ _ hp)
  rintro v m2 H1 ⟨rfl, rfl, rfl⟩
  (refine st_O22_1 ?_; intros; rename_i b5)
  refine w_callF Try.func24 ?_ (hs := rune_any _ _ _ hp)
  rintro v m3 H1 ⟨hle3, rfl, rfl⟩
  rw [tee_runes.1]
  replace hp := hp.le hle3
  replace hg := hg.le hle3
  replace hle0 := hle0.trans hle3
  (try (refine st_O22_1 ?_; intros))
  refine w_callF Try.func24 ?_ (hs := rune_any _ _ _ hp)
  rintro v m4 H1 ⟨hle4, rfl, rfl⟩
  rw [tee_runes.2.1]
  replace hp := hp.le hle4
  replace hg := hg.le hle4
  replace hle0 := hle0.trans hle4
  (try (refine st_O22_1 ?_; intros))
  refine w_callF Try.func24 ?_ (hs := rune_any _ _ _ hp)
  rintro v m5 H1 ⟨hle5, rfl, rfl⟩
  rw [tee_runes.2.2]
  replace hp := hp.le hle5
  replace hg := hg.le hle5
  replace hle0 := hle0.trans hle5
  (try (refine st_O22_1 ?_; intros))
  refine w_callF Try.func29 ?_ (hs := place_any _ _ _ hp)
  rintro v m6 H1 ⟨hle6, rfl, hv⟩
  have e1 : (placeOf tee 6).cs = [.int .i64 4, .int .i64 3, .int .i64 3, .int .i64 1, .int .i64 0] := by rw [tee_place]; rfl
  have e2 : (((placeOf tee 6).byte : Nat) : Int) = 4 := by rw [tee_place]; rfl
  rw [if_neg (by decide), e1, e2] at hv
  subst hv
  have hc5 : (4 : Int) = 4 ∧ (3 : Int) = 3 ∧ (3 : Int) = 3 ∧ (1 : Int) = 1 ∧ (0 : Int) = 0 := by decide
  replace hp := hp.le hle6
  replace hg := hg.le hle6
  replace hle0 := hle0.trans hle6
  (try (refine st_O22_1 ?_; intros))
  refine w_callF Try.func16 ?_ (hs := slice_any _ _ _ hp)
  rintro v m7 H1 ⟨hle7, rfl, hv⟩
  have hv : v = .tuple #[.pointer none, .int .i64 5] := hv
  subst hv
  replace hp := hp.le hle7
  replace hg := hg.le hle7
  replace hle0 := hle0.trans hle7
  (try (refine st_O22_1 ?_; intros))
  refine w_callF Try.func18 ?_ (hs := delete_any _ _ _ hp)
  rintro v m8 H1 ⟨hle8, rfl, pd, rfl, hd⟩
  have hd : RopeAt m8 pd [97, 10, 240, 159, 152, 128] := hd
  replace hp := hp.le hle8
  replace hg := hg.le hle8
  replace hle0 := hle0.trans hle8
  (try (refine st_O22_1 ?_; intros))
  refine w_callF Try.func17 ?_ (hs := insert_any (by decide) _ _ _ hp)
  rintro v m9 H1 ⟨hle9, rfl, px, rfl, hx⟩
  have hx : RopeAt m9 px [97, 195, 120, 169, 10, 240, 159, 152, 128] := hx
  replace hp := hp.le hle9
  replace hd := hd.le hle9
  replace hg := hg.le hle9
  replace hle0 := hle0.trans hle9
  (try (refine st_O22_1 ?_; intros))
  refine w_callF Try.func25 ?_ (hs := count_any _ _ _ hx)
  rintro v m10 H1 ⟨hle10, rfl, rfl⟩
  rw [tee_x.1, tee_x.2]
  replace hp := hp.le hle10
  replace hd := hd.le hle10
  replace hg := hg.le hle10
  replace hle0 := hle0.trans hle10
  have hdt : ([97, 10, 240, 159, 152, 128] : List UInt8) = [97, 10, 240, 159, 152, 128] := rfl
  (try (refine st_O22_1 ?_; intros))
  refine w_callF Try.func30 ?_ (hs := index_any _ _ _ hg hp)
  rintro v m11 H1 ⟨hle11, rfl, rfl⟩
  rw [tee_idx.1]
  replace hp := hp.le hle11
  replace hg := hg.le hle11
  replace hle0 := hle0.trans hle11
  (try (refine st_O22_1 ?_; intros))
  refine w_callF Try.func30 ?_ (hs := index_any _ _ _ hg hp)
  rintro v m12 H1 ⟨hle12, rfl, rfl⟩
  rw [tee_idx.2.1]
  replace hp := hp.le hle12
  replace hg := hg.le hle12
  replace hle0 := hle0.trans hle12
  (try (refine st_O22_1 ?_; intros))
  refine w_callF Try.func30 ?_ (hs := index_any _ _ _ hg hp)
  rintro v m13 H1 ⟨hle13, rfl, rfl⟩
  rw [tee_idx.2.2.1]
  replace hp := hp.le hle13
  replace hg := hg.le hle13
  replace hle0 := hle0.trans hle13
  (try (refine st_O22_1 ?_; intros))
  refine w_callF Try.func30 ?_ (hs := index_any _ _ _ hg hp)
  rintro v m14 H1 ⟨hle14, rfl, rfl⟩
  rw [tee_idx.2.2.2]
  replace hp := hp.le hle14
  replace hle0 := hle0.trans hle14
  (try (refine st_O22_1 ?_; intros))
  refine w_callF Try.func23 ?_ (hs := piecesIt_any (q := none) _ _ _)
  rintro v m14 H0 ⟨biD1, rfl, rfl, rfl⟩
  refine WL.persist (b := biD1) (by (repeat (first | exact Out.here | apply Out.there))) ?_
  intro m15 hqD1 hbiD1
  (try (refine st_O22_1 ?_; intros))
  refine WC.rangeFuncM (Hl0 := []) (encs := fun p : Pc => [p.v]) (xs := []) (lb := [.pointer (some ⟨biD1, 0, none⟩)]) (ps := [256]) (J := fun _ _ Hl => Hl = []) (Jx := fun _ _ _ _ => False)
    rfl Try.func45 rfl rfl piecesNil_seq ⟨hbiD1, trivial⟩ (fun _ => rfl) rfl (fun _ _ _ _ h _ => h) (fun _ _ _ _ _ h _ => h) .nil rfl ?_ ?_ ?_
  · rintro lp pre x post hxs
    simp at hxs
  rotate_left
  · rintro D c pre m' Hl _ h _
    exact h.elim
  rintro D1 m16 Hl rfl hmD1
  simp only [List.nil_append]
  (try (refine st_O22_1 ?_; intros))
  refine w_callF Try.func26 ?_ (hs := backIt_any (q := none) _ _ _)
  rintro v m16 H0 ⟨biD2, rfl, rfl, rfl⟩
  refine WL.persist (b := biD2) (by (repeat (first | exact Out.here | apply Out.there))) ?_
  intro m17 hqD2 hbiD2
  (try (refine st_O22_1 ?_; intros))
  refine WC.rangeFuncM (Hl0 := []) (encs := fun p : Pc => [p.v]) (xs := []) (lb := [.pointer (some ⟨biD2, 0, none⟩)]) (ps := [259]) (J := fun _ _ Hl => Hl = []) (Jx := fun _ _ _ _ => False)
    rfl Try.func48 rfl rfl backNil_seq hbiD2 (fun _ => rfl) rfl (fun _ _ _ _ h _ => h) (fun _ _ _ _ _ h _ => h) .nil rfl ?_ ?_ ?_
  · rintro lp pre x post hxs
    simp at hxs
  rotate_left
  · rintro D c pre m' Hl _ h _
    exact h.elim
  rintro D2 m18 Hl rfl hmD2
  simp only [List.nil_append]
  (try (refine st_O22_1 ?_; intros))
  refine w_callF Try.func27 ?_ (hs := partsIt_any (q := none) _ _ _)
  rintro v m18 H0 ⟨biD3, rfl, rfl, rfl⟩
  refine WL.persist (b := biD3) (by (repeat (first | exact Out.here | apply Out.there))) ?_
  intro m19 hqD3 hbiD3
  (try (refine st_O22_1 ?_; intros))
  refine WC.rangeFuncM (Hl0 := []) (encs := fun s : List UInt8 => [str s]) (xs := []) (lb := [.pointer (some ⟨biD3, 0, none⟩)]) (ps := [262]) (J := fun _ _ Hl => Hl = []) (Jx := fun _ _ _ _ => False)
    rfl Try.func53 rfl rfl partsNil_seq.m hbiD3 (fun _ => rfl) rfl (fun _ _ _ _ h _ => h) (fun _ _ _ _ _ h _ => h) .nil rfl ?_ ?_ ?_
  · rintro lp pre x post hxs
    simp at hxs
  rotate_left
  · rintro D c pre m' Hl _ h _
    exact h.elim
  rintro D3 m20 Hl rfl hmD3
  simp only [List.nil_append]
  (try (refine st_O22_1 ?_; intros))
  refine WQ.heapX (H' := .blk D3 (.deferred (some [])) :: .blk D2 (.deferred (some [])) :: .blk D1 (.deferred (some [])) :: .blk b0 (.cells [.bool true].toArray 4 (0, 0)) :: H) zpk ?_
  refine WQ.marks (ds := [D3, D2, D1]) (H1 := .blk b0 (.cells [.bool true].toArray 4 (0, 0)) :: H) (List.Perm.refl _) ?_
  exact q_fin0 (H0 := H) ⟨rfl, hle0.trans (hqD1.trans (hmD1.trans (hqD2.trans (hmD2.trans (hqD3.trans hmD3)))))⟩ (hd := zpk)
end Go.Proofs.Ytljfncpecpkhhaa

/-
  A law's conditions, the world's shape kept: for laws that reach a variable of the library's. No condition.
-/
set_option linter.all false
namespace Go.Eng
open Go Go.RowKit Go.ChangeShapes
theorem gint_of {w : World} {g : Nat} (h : ∃ z, w.cell? ⟨g, 0, none⟩ = some (.int .i64 z)) : GInt g (memOf w) := by
  obtain ⟨z, hz⟩ := h
  unfold World.cell? at hz
  cases ho : w.heap[g]? with
  | none => simp [ho] at hz
  | some o =>
    cases o <;> simp [ho] at hz
    case cells cs T fz => exact ⟨cs, T, fz, z, ho, hz⟩
theorem returnsInHanded_of_condS {H : Type} {enc : TypeId × Value → H} {a : Assume} {C : Checked} {os : Os} {f : FuncId} {fn : Func} {s : OpenSpec} {k : (H : Type) → List (DataW H) → Bool} (hk : s.cond = some k) {F : Stop.Interp} {conds : List PathCond} {apart fresh handsOn again : Bool}
    (own : ownKnob C.prog.godebug = none) (started : os.Started) (noInit : C.prog.inits.idxOf? f = none) (hfn : C.prog.funcs[f]? = some fn)
    (witness : ∃ (w : World) (tape : Tape) (i : Input), w.os = os ∧ (w.forCall tape i).Shaped C.prog ∧ i.vars = [] ∧ Input.okWide C.prog (w.forCall tape i) .any w.heap.size f i ∧
      s.pre6 enc C.prog fn conds apart (w.forCall tape i).memory i.args ∧ a.holds C.prog (lone (Frame.enter C.prog f i.args .normal) [] (w.forCall tape i)))
    (contract : ∀ (W : World) (base : Nat) (args : Array Value) (ds gs : List (DataW H)) (before : List MemPlace),
      (∀ (j : Nat) t v, fn.params[j]? = some t → args[j]? = some v → Value.okWide C.prog W .any base t v) →
      DataW.Whole enc C.prog fn.params.toList s.vars apart W args.toList ds gs before →
      conds.all (PathCond.test C.prog ⟨fn.params.toList, ds, s.bare.plain.varTypes C.prog, gs⟩) = true → k H (ds ++ gs) = true → W.ShapedOpen C.prog →
      a.holds C.prog (lone (Frame.enter C.prog f args .normal) [] W) →
      Calls C.prog f args W fun e W' => ∃ v, e = .returned v ∧ (s.at F).post enc C.prog fn apart fresh handsOn again W args v W') :
    ReturnsInHanded a C os f .any (s.pre6 enc C.prog fn conds apart) ((s.at F).post enc C.prog fn apart fresh handsOn again) := by
  refine returnsInHanded_of_calls own started noInit witness ?_
  intro w tape i _ hsh _ hok hpre hholds
  obtain ⟨_, _, _, fn', hfn', _, _, _, _, hval⟩ := hok
  have e : fn' = fn := Option.some.inj (hfn'.symm.trans hfn)
  subst e
  obtain ⟨ds, gs, before, hw, hc, hkk⟩ := (OpenSpec.pre_some hk conds apart _ _).1 hpre.1
  have hw' := DataW.Whole.of_heap (w' := w.forCall tape i) (by rfl) hw
  refine (contract (w.forCall tape i) w.heap.size i.args ds gs before hval hw' hc hkk hsh hholds).mono fun e W' ⟨v, he, hp⟩ => ?_
  subst he
  exact ChangeSpec.post_blind hp
end Go.Eng

