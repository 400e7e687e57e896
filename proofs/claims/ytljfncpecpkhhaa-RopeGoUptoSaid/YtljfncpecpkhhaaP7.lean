/-
  Parts of a walk, joined: O9 O10 OT3 O14 O15 O11 O16 OT4 O17 O12 O13 O18. No condition.
-/
import Derived.Test.YtljfncpecpkhhaaP4
import Derived.Test.YtljfncpecpkhhaaP6
set_option linter.all false
/-
  The walk of ropes' iterator Pieces. No condition.
-/
namespace Go.Eng
open Go Go.RowKit
theorem Tail.app {Hfr : SHeap} : ∀ {H : SHeap}, Tail Hfr (H ++ Hfr) H
  | [] => .nil
  | _ :: _ => .cons Tail.app
theorem Tail.all {H : SHeap} : Tail [] H H := by
  have := Tail.app (Hfr := []) (H := H)
  rwa [List.append_nil] at this
theorem drops_app {w0 w : World} {m : Mem} : ∀ {X H : SHeap}, Sat w0 m (X ++ H) w → Sat w0 m H w
  | [], _, h => h
  | _ :: _, _, h => drops_app (h.drop)
theorem perm_frame (X H1 F : SHeap) : List.Perm (X ++ (H1 ++ F)) ((X ++ F) ++ H1) := by
  rw [List.append_assoc]
  exact List.Perm.append_left X List.perm_append_comm
end Go.Eng
namespace Go.Proofs.Ytljfncpecpkhhaa
open Go Go.Eng
set_option maxRecDepth 100000
set_option maxHeartbeats 4000000
set_option linter.all false
attribute [local irreducible] WL WC WQ QFun QLoop Does Q1 QRound QAssign Go.Addr.add
attribute [local irreducible] begunK lackOf begunOf cutAt
/-- where the iterator stands behind some parts -/
def AtP (L : List UInt8) (b3 b4 b5 by_ lp : Nat) (J : List Pc → Mem → SHeap → Prop) (A : List UInt8) (m' : Mem) (Hl : SHeap) : Prop :=
  ∃ (x y z : Int) (n c : Nat) (told : List Pc) (H1 : SHeap), n = A.length - c ∧ c = cutAt A ∧ [Value.int .u8 x, .int .u8 y, .int .u8 z].take n = (A.drop c).map (fun b => Value.int .u8 (b.toNat : Int)) ∧ pieces L = told ++ from_ L c ∧ Hl = [.blk b5 (.cells [.int .i64 (c : Int)].toArray 3 (0, 0)), .blk b4 (.cells [.int .i64 (n : Int)].toArray 3 (0, 0)), .blk b3 (.cells [.int .u8 x, .int .u8 y, .int .u8 z].toArray 89 (0, 0)), .blk by_ (.cells [.func (.yield lp) #[] #[]].toArray 88 (0, 0))] ++ H1 ∧ J told m' H1
/-- where it was left -/
def LeftP (L : List UInt8) (b3 b4 b5 by_ lp : Nat) (Jx : List Pc → Mem → SHeap → Prop) (cd : Code) (m' : Mem) (Hl : SHeap) : Prop :=
  cd = .ret ∧ ∃ (X H1 : SHeap) (told : List Pc), Hl = X ++ H1 ∧ told <+: pieces L ∧ Jx told m' H1
theorem sq_O9_1 {G : Prop} (h : G := by (repeat (first | (refine sp ?_; (repeat intro zzc)) | (refine WL.slArrH rfl rfl (by (first | with_reducible exact natz _ | with_reducible exact natz0 | with_reducible exact natz1 | with_reducible exact natz2 | with_reducible exact natz3 | with_reducible exact natz4 | with_reducible exact natz8 | (apply natz_add; (· first | with_reducible exact natz _ | with_reducible exact natz0 | with_reducible exact natz1 | with_reducible exact natz2 | with_reducible exact natz3 | with_reducible exact natz4 | with_reducible exact natz8); (· first | with_reducible exact natz _ | with_reducible exact natz0 | with_reducible exact natz1 | with_reducible exact natz2 | with_reducible exact natz3 | with_reducible exact natz4 | with_reducible exact natz8)) | (apply natz_sub; (· first | with_reducible exact natz _ | with_reducible exact natz0 | with_reducible exact natz1 | with_reducible exact natz2 | with_reducible exact natz3 | with_reducible exact natz4 | with_reducible exact natz8); (· first | with_reducible exact natz _ | with_reducible exact natz0 | with_reducible exact natz1 | with_reducible exact natz2 | with_reducible exact natz3 | with_reducible exact natz4 | with_reducible exact natz8); (· omega)) | exact (Int.toNat_of_nonneg (by omega)).symm)) rfl rfl rfl (by omega) ?_) | (refine WL.slArr rfl rfl rfl rfl ?_) | (refine iConv rfl ?_; refine WL.bytesBlk rfl zhs (by assumption) (by assumption) rfl rfl rfl rfl rfl ?_))); exact WQ.q1 rfl) : G := h
theorem cm_O9_1 {G G' : Prop} (next : G') (h : Bx G' → G := by intro zzn; (try (refine wcal 0 ?_ (hwl := by intro zm zF zle; exact sq_O9_1))); (try (refine wcal 1 ?_ (hwl := by intro zm zF zle; exact sq_O9_1))); (try (refine wcal 2 ?_ (hwl := by intro zm zF zle; exact sq_O9_1))); (try (refine wcal 3 ?_ (hwl := by intro zm zF zle; exact sq_O9_1))); (try (refine wcal 4 ?_ (hwl := by intro zm zF zle; exact sq_O9_1))); (try (refine wcal 5 ?_ (hwl := by intro zm zF zle; exact sq_O9_1))); (try (refine wcal 6 ?_ (hwl := by intro zm zF zle; exact sq_O9_1))); (try (refine wcal 7 ?_ (hwl := by intro zm zF zle; exact sq_O9_1))); (try (refine wcal 8 ?_ (hwl := by intro zm zF zle; exact sq_O9_1))); (try (refine wcal 9 ?_ (hwl := by intro zm zF zle; exact sq_O9_1))); (try (refine wcal 10 ?_ (hwl := by intro zm zF zle; exact sq_O9_1))); (try (refine wcal 11 ?_ (hwl := by intro zm zF zle; exact sq_O9_1))); (try (refine wcal 12 ?_ (hwl := by intro zm zF zle; exact sq_O9_1))); (try (refine wcal 13 ?_ (hwl := by intro zm zF zle; exact sq_O9_1))); (try (refine wcal 14 ?_ (hwl := by intro zm zF zle; exact sq_O9_1))); (try (refine wcal 15 ?_ (hwl := by intro zm zF zle; exact sq_O9_1))); (try (refine wcal 16 ?_ (hwl := by intro zm zF zle; exact sq_O9_1))); (try (refine wcal 17 ?_ (hwl := by intro zm zF zle; exact sq_O9_1))); (try (refine wcal 18 ?_ (hwl := by intro zm zF zle; exact sq_O9_1))); (try (refine wcal 19 ?_ (hwl := by intro zm zF zle; exact sq_O9_1))); (try (refine wcal 20 ?_ (hwl := by intro zm zF zle; exact sq_O9_1))); (try (refine wcal 21 ?_ (hwl := by intro zm zF zle; exact sq_O9_1))); (try (refine wcal 22 ?_ (hwl := by intro zm zF zle; exact sq_O9_1))); (try (refine wcal 23 ?_ (hwl := by intro zm zF zle; exact sq_O9_1))); (try (refine wcal 24 ?_ (hwl := by intro zm zF zle; exact sq_O9_1))); (try (refine wcal 25 ?_ (hwl := by intro zm zF zle; exact sq_O9_1))); (try (refine wcal 26 ?_ (hwl := by intro zm zF zle; exact sq_O9_1))); (try (refine wcal 27 ?_ (hwl := by intro zm zF zle; exact sq_O9_1))); (try (refine wcal 28 ?_ (hwl := by intro zm zF zle; exact sq_O9_1))); (try (refine wcal 29 ?_ (hwl := by intro zm zF zle; exact sq_O9_1))); (try (refine wcal 30 ?_ (hwl := by intro zm zF zle; exact sq_O9_1))); (try (refine wcal 31 ?_ (hwl := by intro zm zF zle; exact sq_O9_1))); (try (refine wcal 32 ?_ (hwl := by intro zm zF zle; exact sq_O9_1))); (try (refine wcal 33 ?_ (hwl := by intro zm zF zle; exact sq_O9_1))); (try (refine wcal 34 ?_ (hwl := by intro zm zF zle; exact sq_O9_1))); (try (refine wcal 35 ?_ (hwl := by intro zm zF zle; exact sq_O9_1))); (try (refine wcal 36 ?_ (hwl := by intro zm zF zle; exact sq_O9_1))); (try (refine wcal 37 ?_ (hwl := by intro zm zF zle; exact sq_O9_1))); (try (refine wcal 38 ?_ (hwl := by intro zm zF zle; exact sq_O9_1))); (try (refine wcal 39 ?_ (hwl := by intro zm zF zle; exact sq_O9_1))); (try (refine wcal 40 ?_ (hwl := by intro zm zF zle; exact sq_O9_1))); (try (refine wcal 41 ?_ (hwl := by intro zm zF zle; exact sq_O9_1))); exact zzn.out) : G := h ⟨next⟩
theorem st_O9_1 {G G' : Prop} (next : G') (h : Bx G' → G := by intro zzn; (first | ((refine st ?_; (repeat intro zzc)); (try ((first | (refine WL.slArrH rfl rfl (by (first | with_reducible exact natz _ | with_reducible exact natz0 | with_reducible exact natz1 | with_reducible exact natz2 | with_reducible exact natz3 | with_reducible exact natz4 | with_reducible exact natz8 | (apply natz_add; (· first | with_reducible exact natz _ | with_reducible exact natz0 | with_reducible exact natz1 | with_reducible exact natz2 | with_reducible exact natz3 | with_reducible exact natz4 | with_reducible exact natz8); (· first | with_reducible exact natz _ | with_reducible exact natz0 | with_reducible exact natz1 | with_reducible exact natz2 | with_reducible exact natz3 | with_reducible exact natz4 | with_reducible exact natz8)) | (apply natz_sub; (· first | with_reducible exact natz _ | with_reducible exact natz0 | with_reducible exact natz1 | with_reducible exact natz2 | with_reducible exact natz3 | with_reducible exact natz4 | with_reducible exact natz8); (· first | with_reducible exact natz _ | with_reducible exact natz0 | with_reducible exact natz1 | with_reducible exact natz2 | with_reducible exact natz3 | with_reducible exact natz4 | with_reducible exact natz8); (· omega)) | exact (Int.toNat_of_nonneg (by omega)).symm)) rfl rfl rfl (by omega) ?_) | (refine WL.slArr rfl rfl rfl rfl ?_) | (refine iConv rfl ?_; refine WL.bytesBlk rfl zhs (by assumption) (by assumption) rfl rfl rfl rfl rfl ?_) | ((refine iDraw ?_; (first | refine WC.drawAll rfl (by decide +kernel) ?_ | refine WC.draw 1 rfl (by decide +kernel) ?_ | refine WC.draw 2 rfl (by decide +kernel) ?_ | refine WC.draw 3 rfl (by decide +kernel) ?_ | refine WC.draw 4 rfl (by decide +kernel) ?_ | refine WC.draw 5 rfl (by decide +kernel) ?_ | refine WC.draw 6 rfl (by decide +kernel) ?_ | refine WC.draw 7 rfl (by decide +kernel) ?_ | refine WC.draw 8 rfl (by decide +kernel) ?_ | refine WC.draw 9 rfl (by decide +kernel) ?_ | refine WC.draw 10 rfl (by decide +kernel) ?_ | refine WC.draw 11 rfl (by decide +kernel) ?_ | refine WC.draw 12 rfl (by decide +kernel) ?_ | refine WC.draw 13 rfl (by decide +kernel) ?_ | refine WC.draw 14 rfl (by decide +kernel) ?_ | refine WC.draw 15 rfl (by decide +kernel) ?_ | refine WC.draw 16 rfl (by decide +kernel) ?_ | refine WC.draw 17 rfl (by decide +kernel) ?_ | refine WC.draw 18 rfl (by decide +kernel) ?_ | refine WC.draw 19 rfl (by decide +kernel) ?_ | refine WC.draw 20 rfl (by decide +kernel) ?_ | refine WC.draw 21 rfl (by decide +kernel) ?_ | refine WC.draw 22 rfl (by decide +kernel) ?_ | refine WC.draw 23 rfl (by decide +kernel) ?_ | refine WC.draw 24 rfl (by decide +kernel) ?_)); (repeat (refine WD.cons rfl (fun c h => by cases h) sq_O9_1 ?_)); refine WD.nil ?_)); (try (refine st ?_; (repeat intro zzc)))))) | ((first | (refine WL.slArrH rfl rfl (by (first | with_reducible exact natz _ | with_reducible exact natz0 | with_reducible exact natz1 | with_reducible exact natz2 | with_reducible exact natz3 | with_reducible exact natz4 | with_reducible exact natz8 | (apply natz_add; (· first | with_reducible exact natz _ | with_reducible exact natz0 | with_reducible exact natz1 | with_reducible exact natz2 | with_reducible exact natz3 | with_reducible exact natz4 | with_reducible exact natz8); (· first | with_reducible exact natz _ | with_reducible exact natz0 | with_reducible exact natz1 | with_reducible exact natz2 | with_reducible exact natz3 | with_reducible exact natz4 | with_reducible exact natz8)) | (apply natz_sub; (· first | with_reducible exact natz _ | with_reducible exact natz0 | with_reducible exact natz1 | with_reducible exact natz2 | with_reducible exact natz3 | with_reducible exact natz4 | with_reducible exact natz8); (· first | with_reducible exact natz _ | with_reducible exact natz0 | with_reducible exact natz1 | with_reducible exact natz2 | with_reducible exact natz3 | with_reducible exact natz4 | with_reducible exact natz8); (· omega)) | exact (Int.toNat_of_nonneg (by omega)).symm)) rfl rfl rfl (by omega) ?_) | (refine WL.slArr rfl rfl rfl rfl ?_) | (refine iConv rfl ?_; refine WL.bytesBlk rfl zhs (by assumption) (by assumption) rfl rfl rfl rfl rfl ?_) | ((refine iDraw ?_; (first | refine WC.drawAll rfl (by decide +kernel) ?_ | refine WC.draw 1 rfl (by decide +kernel) ?_ | refine WC.draw 2 rfl (by decide +kernel) ?_ | refine WC.draw 3 rfl (by decide +kernel) ?_ | refine WC.draw 4 rfl (by decide +kernel) ?_ | refine WC.draw 5 rfl (by decide +kernel) ?_ | refine WC.draw 6 rfl (by decide +kernel) ?_ | refine WC.draw 7 rfl (by decide +kernel) ?_ | refine WC.draw 8 rfl (by decide +kernel) ?_ | refine WC.draw 9 rfl (by decide +kernel) ?_ | refine WC.draw 10 rfl (by decide +kernel) ?_ | refine WC.draw 11 rfl (by decide +kernel) ?_ | refine WC.draw 12 rfl (by decide +kernel) ?_ | refine WC.draw 13 rfl (by decide +kernel) ?_ | refine WC.draw 14 rfl (by decide +kernel) ?_ | refine WC.draw 15 rfl (by decide +kernel) ?_ | refine WC.draw 16 rfl (by decide +kernel) ?_ | refine WC.draw 17 rfl (by decide +kernel) ?_ | refine WC.draw 18 rfl (by decide +kernel) ?_ | refine WC.draw 19 rfl (by decide +kernel) ?_ | refine WC.draw 20 rfl (by decide +kernel) ?_ | refine WC.draw 21 rfl (by decide +kernel) ?_ | refine WC.draw 22 rfl (by decide +kernel) ?_ | refine WC.draw 23 rfl (by decide +kernel) ?_ | refine WC.draw 24 rfl (by decide +kernel) ?_)); (repeat (refine WD.cons rfl (fun c h => by cases h) sq_O9_1 ?_)); refine WD.nil ?_)); (try (refine st ?_; (repeat intro zzc))))); (repeat ((first | (refine WL.slArrH rfl rfl (by (first | with_reducible exact natz _ | with_reducible exact natz0 | with_reducible exact natz1 | with_reducible exact natz2 | with_reducible exact natz3 | with_reducible exact natz4 | with_reducible exact natz8 | (apply natz_add; (· first | with_reducible exact natz _ | with_reducible exact natz0 | with_reducible exact natz1 | with_reducible exact natz2 | with_reducible exact natz3 | with_reducible exact natz4 | with_reducible exact natz8); (· first | with_reducible exact natz _ | with_reducible exact natz0 | with_reducible exact natz1 | with_reducible exact natz2 | with_reducible exact natz3 | with_reducible exact natz4 | with_reducible exact natz8)) | (apply natz_sub; (· first | with_reducible exact natz _ | with_reducible exact natz0 | with_reducible exact natz1 | with_reducible exact natz2 | with_reducible exact natz3 | with_reducible exact natz4 | with_reducible exact natz8); (· first | with_reducible exact natz _ | with_reducible exact natz0 | with_reducible exact natz1 | with_reducible exact natz2 | with_reducible exact natz3 | with_reducible exact natz4 | with_reducible exact natz8); (· omega)) | exact (Int.toNat_of_nonneg (by omega)).symm)) rfl rfl rfl (by omega) ?_) | (refine WL.slArr rfl rfl rfl rfl ?_) | (refine iConv rfl ?_; refine WL.bytesBlk rfl zhs (by assumption) (by assumption) rfl rfl rfl rfl rfl ?_) | ((refine iDraw ?_; (first | refine WC.drawAll rfl (by decide +kernel) ?_ | refine WC.draw 1 rfl (by decide +kernel) ?_ | refine WC.draw 2 rfl (by decide +kernel) ?_ | refine WC.draw 3 rfl (by decide +kernel) ?_ | refine WC.draw 4 rfl (by decide +kernel) ?_ | refine WC.draw 5 rfl (by decide +kernel) ?_ | refine WC.draw 6 rfl (by decide +kernel) ?_ | refine WC.draw 7 rfl (by decide +kernel) ?_ | refine WC.draw 8 rfl (by decide +kernel) ?_ | refine WC.draw 9 rfl (by decide +kernel) ?_ | refine WC.draw 10 rfl (by decide +kernel) ?_ | refine WC.draw 11 rfl (by decide +kernel) ?_ | refine WC.draw 12 rfl (by decide +kernel) ?_ | refine WC.draw 13 rfl (by decide +kernel) ?_ | refine WC.draw 14 rfl (by decide +kernel) ?_ | refine WC.draw 15 rfl (by decide +kernel) ?_ | refine WC.draw 16 rfl (by decide +kernel) ?_ | refine WC.draw 17 rfl (by decide +kernel) ?_ | refine WC.draw 18 rfl (by decide +kernel) ?_ | refine WC.draw 19 rfl (by decide +kernel) ?_ | refine WC.draw 20 rfl (by decide +kernel) ?_ | refine WC.draw 21 rfl (by decide +kernel) ?_ | refine WC.draw 22 rfl (by decide +kernel) ?_ | refine WC.draw 23 rfl (by decide +kernel) ?_ | refine WC.draw 24 rfl (by decide +kernel) ?_)); (repeat (refine WD.cons rfl (fun c h => by cases h) sq_O9_1 ?_)); refine WD.nil ?_)); (try (refine st ?_; (repeat intro zzc))))); (repeat revert zzc); exact zzn.out) : G := h ⟨next⟩
theorem ropePieces_seq {b : Nat} {p : Value} {o : Option Nd} : SeqM Try.prog 45 [.pointer (some ⟨b, 0, none⟩)] (fun p : Pc => [p.v]) (pieces (rtxt o)) (RopeIn b p o) := by
  intro w0 lp J Jx m H mJ mX hcap h0 hY
  obtain ⟨hb, a, v, rfl, ha, hv, ok, hl⟩ := hcap
  obtain ⟨L, hL⟩ : ∃ L, rtxt o = L := ⟨_, rfl⟩
  have hfl : (partsR o).flatten = L := by rw [partsR_txt, hL]
  rw [hL] at hY hl ⊢
  refine Does.of_body Try.func45 rfl Try.ntmps45 rfl ?_
  (refine st_O9_1 ?_; intros; rename_i by_ b3 b4 b5)
  refine w_callF Try.func27 ?_ (hs := partsIt_any _ _ _)
  rintro v0 m H0 ⟨bq, rfl, rfl, rfl⟩
  refine WL.persist (b := bq) (by (repeat (first | exact Out.here | apply Out.there))) ?_
  intro m1 hle1 hbq
  (try (refine st_O9_1 ?_; intros))
  have hcap : RopeIn bq (.pointer (some ⟨a, 0, none⟩)) o m1 := ⟨hbq, a, v, rfl, hle1 _ _ ha, hv.le hle1, ok, by rw [hL]; exact hl⟩
  refine WC.rangeFunc (encs := fun s : List UInt8 => [str s]) (xs := partsR o) (Cap := RopeIn bq (.pointer (some ⟨a, 0, none⟩)) o) (lb := [.pointer (some ⟨bq, 0, none⟩)]) (ps := [13]) (Hc := [])
    (J := fun pre m' Hl => m.le m' ∧ AtP L b3 b4 b5 by_ lp J pre.flatten m' Hl) (Jx := fun cd _ m' Hl => LeftP L b3 b4 b5 by_ lp Jx cd m' Hl)
    rfl Try.func53 rfl rfl parts_seq hcap (fun _ => rfl) rfl Tail.all ?_ ?_ ?_ ?_
  · refine ⟨hle1, 0, 0, 0, 0, 0, [], H, ?_, ?_, rfl, ?_, rfl, ?_⟩
    · rfl
    · exact cut_nil.symm
    · rfl
    · exact mJ _ _ _ _ h0 hle1
  · rintro lp2 pre s post hx m2 Hl ⟨hle2, x, y, z, n, c, told, H1, hn, hc, hhh, htold, rfl, hJ⟩ hm2 Hfr hfr
    simp only [List.cons_append, List.nil_append, List.append_assoc]
    (try (refine st_O9_1 ?_; intros))
    refine WQ.assignedIn (.cons (.cons (.cons (.cons Tail.app)))) (Mem.le.refl _) ?_
    intro Hfr2 hfr2
    simp only [List.cons_append]
    have hA : cutAt pre.flatten ≤ pre.flatten.length := cut_le _
    obtain ⟨h, hh⟩ : ∃ h, pre.flatten.drop c = h := ⟨_, rfl⟩
    have hhl : n = h.length := by rw [← hh, List.length_drop]; omega
    rw [hh] at hhh
    have hLx : L = pre.flatten ++ s ++ post.flatten := by rw [← hfl, hx]; simp
    have hLl : L.length = pre.flatten.length + s.length + post.flatten.length := by rw [hLx, List.length_append, List.length_append]
    have hn3 : n ≤ 3 := by have := held_le pre.flatten; rw [← hc, hh] at this; omega
    have htold0 := htold
    rw [hc] at htold
    obtain ⟨f1, f2, f3⟩ := part_told hLx htold (h := h) (by rw [← hh, hc])
    obtain ⟨S, hS⟩ : ∃ S, h ++ s = S := ⟨_, rfl⟩
    have hSl : S.length = n + s.length := by rw [← hS, List.length_append, ← hhl]
    (try (refine st_O9_1 ?_; intros))
    rw [hS] at f1 f2 f3 ⊢
    have hk3 : (begunOf S).1 ≤ 3 := (begun_le S).1
    have hkl : (begunOf S).1 ≤ S.length := (begun_le S).2
    refine w_callF Try.func46 ?_ (hs := open_any (by omega) _ _ _)
    rintro v1 m2 H9 ⟨rfl, rfl, rfl⟩
    generalize (begunOf S).1 = k at *
    (try (refine st_O9_1 ?_; intros))
    obtain ⟨U, hU⟩ : ∃ U, S.take (S.length - k) = U := ⟨_, rfl⟩
    have htl : U.length = S.length - k := by rw [← hU]; simp
    rw [hU] at f3 ⊢
    refine w_callF Try.func47 ?_ (hs := pieces_any _ _ _ _)
    rintro v1 m2 H9 ⟨bs, rfl, rfl, rfl⟩
    refine WL.persist (b := bs) (by (repeat (first | exact Out.here | apply Out.there))) ?_
    intro m3 hle3 hbs
    (try (refine st_O9_1 ?_; intros))
    have hkc : S.length - (S.length - k) = k := by omega
    refine WC.rangeFuncIn (lo := lp2) (Hc := Hfr2) hfr2 (encs := fun p : Pc => [p.v]) (xs := pieces (U)) (Cap := TextAt bs (U)) (lb := [.pointer (some ⟨bs, 0, none⟩)]) (ps := [29])
      (J := fun pre2 m' Hl => m.le m' ∧ ∃ H1, Hl = [.blk b5 (.cells [.int .i64 (c : Int)].toArray 3 (0, 0)), .blk b4 (.cells [.int .i64 (k : Int)].toArray 3 (0, 0)), .blk b3 (.cells [.int .u8 x, .int .u8 y, .int .u8 z].toArray 89 (0, 0)), .blk by_ (.cells [.func (.yield lp) #[] #[]].toArray 88 (0, 0))] ++ H1 ∧ J (told ++ pre2.map (Pc.sh c)) m' H1)
      (Jx := fun cd _ m' Hl => LeftP L b3 b4 b5 by_ lp Jx cd m' Hl)
      rfl Try.func75 rfl rfl (pieces_seq _ (by omega) bs) hbs (fun _ => rfl) rfl (.cons (.cons (.cons (.cons Tail.app)))) ?_ ?_ ?_ ?_
    · exact ⟨hle2.trans hle3, H1, rfl, by rw [List.map_nil, List.append_nil]; exact mJ _ _ _ _ hJ hle3⟩
    · rintro lp4 pre2 p2 post2 hx2 m4 Hl ⟨hle4, H4, rfl, hJ4⟩ hm4 Hfr4 hfr4
      simp only [List.cons_append, List.nil_append, List.append_assoc]
      have hmw := mem_w (l := U) (p := p2) (by rw [hx2]; simp)
      have hcl := cut_le (pre.flatten ++ s)
      have hal : (pre.flatten ++ s).length = pre.flatten.length + s.length := List.length_append
      (refine st_O9_1 ?_; intros; rename_i b9)
      refine WQ.assignedIn (.cons (.cons (.cons (.cons (.cons Tail.app))))) (Mem.le.refl _) ?_
      intro Hfr5 hfr5
      simp only [List.cons_append]
      (try (refine st_O9_1 ?_; intros))
      rw [show (p2.at_ : Int) + (c : Int) = ((p2.at_ + c : Nat) : Int) by omega]
      have hpc : pieces L = (told ++ pre2.map (Pc.sh c)) ++ p2.sh c :: (post2.map (Pc.sh c) ++ from_ L (cutAt (pre.flatten ++ s))) := by rw [f3, ← hc, hx2]; simp
      refine WL.heap (fun w h => h.perm (perm_frame [_, _, _, _, _] H4 Hfr5)) ?_
      refine WL.yield (vs := [(p2.sh c).v]) rfl rfl rfl (hY _ _ _ hpc m4 H4 _ hJ4 hle4) ?_ ?_
      · rintro m5 H9 ⟨H5, rfl, hJ5, hle5⟩
        refine WL.heap (fun w h => h.perm (perm_frame [_, _, _, _, _] H5 Hfr5).symm) ?_
        simp only [List.cons_append, List.nil_append]
        (try (refine st_O9_1 ?_; intros))
        refine WQ.roundOn (Hl := [_, _, _, _] ++ H5) (fun w h => by have := h.drop; simpa using this) hle5 ⟨hle4.trans hle5, H5, rfl, by simpa using hJ5⟩
      · rintro m5 H9 ⟨H5, rfl, hJ5, hle5⟩
        refine WL.heap (fun w h => h.perm (perm_frame [_, _, _, _, _] H5 Hfr5).symm) ?_
        simp only [List.cons_append, List.nil_append]
        (try (refine st_O9_1 ?_; intros))
        refine WQ.roundRet (Hl := [.blk b5 (.cells [.int .i64 (c : Int)].toArray 3 (0, 0)), .blk b4 (.cells [.int .i64 (k : Int)].toArray 3 (0, 0)), .blk b3 (.cells [.int .u8 x, .int .u8 y, .int .u8 z].toArray 89 (0, 0)), .blk by_ (.cells [.func (.yield lp) #[] #[]].toArray 88 (0, 0))] ++ H5) (fun w h => by have := h.drop; simpa using this) hle5 ⟨rfl, _, H5, _, rfl, ⟨_, by rw [hpc, List.append_assoc]; rfl⟩, hJ5⟩
    · rintro m4 Hl ⟨hle4, H4, rfl, hJ4⟩ hm4
      simp only [List.cons_append, List.nil_append, List.append_assoc]
      have hcl := cut_le (pre.flatten ++ s)
      have hal : (pre.flatten ++ s).length = pre.flatten.length + s.length := List.length_append
      (try (refine st_O9_1 ?_; intros))
      rw [show (c : Int) + (U.length : Int) = ((cutAt (pre.flatten ++ s) : Nat) : Int) by omega]
      have hdl : (S.drop U.length).length = k := by rw [List.length_drop]; omega
      obtain ⟨x', y', z', hlaid, htake⟩ := held3 (x := x) (y := y) (z := z) (S.drop U.length) (by omega)
      rw [hdl] at htake
      refine WC.drawE 6 ([.blk b5 (.cells [.int .i64 ((cutAt (pre.flatten ++ s) : Nat) : Int)].toArray 3 (0, 0)), .blk b4 (.cells [.int .i64 (k : Int)].toArray 3 (0, 0)), .blk by_ (.cells [.func (.yield lp) #[] #[]].toArray 88 (0, 0))]) (.blk b3 (.cells [.int .u8 x, .int .u8 y, .int .u8 z].toArray 89 (0, 0)) :: (H4 ++ Hfr2)) rfl (by decide +kernel) zpk ?_
      (refine cm_O9_1 ?_)
      refine WE.act1 5 (by decide +kernel) rfl rfl (fun c h => by cases h) ?_
      refine WL.copyS (L := [.int .u8 x, .int .u8 y, .int .u8 z]) (L' := [.int .u8 x', .int .u8 y', .int .u8 z']) rfl rfl (by omega) rfl rfl rfl (by (repeat (first | exact Repl.here | apply Repl.there))) (by simp; omega) hlaid rfl ?_
      (try (refine st_O9_1 ?_; intros))
      refine WQ.acted (B := []) (U := .blk b3 (.cells [.int .u8 x', .int .u8 y', .int .u8 z'].toArray 89 (0, 0)) :: (H4 ++ Hfr2)) rfl (Mem.le.refl _) zpk ?_
      refine WE.done (by decide +kernel) ?_
      (try (refine st_O9_1 ?_; intros))
      have hfl2 : (pre ++ [s]).flatten = pre.flatten ++ s := by simp
      refine WQ.roundOn (Hl := [.blk b5 (.cells [.int .i64 ((cutAt (pre.flatten ++ s) : Nat) : Int)].toArray 3 (0, 0)), .blk b4 (.cells [.int .i64 (k : Int)].toArray 3 (0, 0)), .blk b3 (.cells [.int .u8 x', .int .u8 y', .int .u8 z'].toArray 89 (0, 0)), .blk by_ (.cells [.func (.yield lp) #[] #[]].toArray 88 (0, 0))] ++ H4) ?_ (hle3.trans hm4) ⟨hle4, ?_⟩
      · intro w h
        have h2 := h.perm (List.Perm.cons _ (List.Perm.cons _ (List.Perm.swap _ _ _)))
        simpa using h2
      · rw [hfl2]
        exact ⟨x', y', z', k, _, _, H4, by omega, rfl, by rw [htake, htl, f2], by rw [f3, ← hc], rfl, hJ4⟩
    · rintro cd pre2 m4 Hl _ ⟨rfl, X, H4, told', rfl, hpre, hJ4⟩ hm4
      (try (refine st_O9_1 ?_; intros))
      exact WQ.roundRet (Hl := X ++ H4) (fun w h => h) (hle3.trans hm4) ⟨rfl, X, H4, told', rfl, hpre, hJ4⟩
  · rintro D m2 Hl ⟨hle2, x, y, z, n, c, told, H1, hn, hc, hhh, htold, rfl, hJ⟩ hm2
    rw [hfl] at hn hc hhh
    simp only [List.cons_append, List.nil_append, List.append_assoc]
    have hA : cutAt L ≤ L.length := cut_le _
    obtain ⟨h, hh⟩ : ∃ h, L.drop c = h := ⟨_, rfl⟩
    have hhl : n = h.length := by rw [← hh, List.length_drop]; omega
    have hn3 : n ≤ 3 := by have := held_le L; rw [← hc, hh] at this; omega
    rw [hh] at hhh
    have hend := rest_told (by rw [← hc]; exact htold)
    rw [← hc, hh] at hend
    (try (refine st_O9_1 ?_; intros))
    refine w_callF Try.func47 ?_ (hs := pieces_any _ _ _ _)
    rintro v1 m2 H9 ⟨bs, rfl, rfl, rfl⟩
    refine WL.persist (b := bs) (by (repeat (first | exact Out.here | apply Out.there))) ?_
    intro m3 hle3 hbs
    (try (refine st_O9_1 ?_; intros))
    refine WC.rangeFunc (Hc := []) (encs := fun p : Pc => [p.v]) (xs := pieces h) (Cap := TextAt bs h) (lb := [.pointer (some ⟨bs, 0, none⟩)]) (ps := [53])
      (J := fun pre2 m' Hl => m.le m' ∧ ∃ H1, Hl = [.blk b5 (.cells [.int .i64 (c : Int)].toArray 3 (0, 0)), .blk b4 (.cells [.int .i64 (n : Int)].toArray 3 (0, 0)), .blk b3 (.cells [.int .u8 x, .int .u8 y, .int .u8 z].toArray 89 (0, 0)), .blk by_ (.cells [.func (.yield lp) #[] #[]].toArray 88 (0, 0))] ++ (H1 ++ [.blk D (.deferred (some []))]) ∧ J (told ++ pre2.map (Pc.sh c)) m' H1)
      (Jx := fun cd _ m' Hl => m.le m' ∧ cd = .ret ∧ ∃ (X H1 : SHeap) (told : List Pc), Hl = X ++ (H1 ++ [.blk D (.deferred (some []))]) ∧ told <+: pieces L ∧ Jx told m' H1)
      rfl Try.func75 rfl rfl (pieces_seq _ (by omega) bs) hbs (fun _ => rfl) rfl Tail.all ?_ ?_ ?_ ?_
    · exact ⟨hle2.trans hle3, H1, rfl, by rw [List.map_nil, List.append_nil]; exact mJ _ _ _ _ hJ hle3⟩
    · rintro lp4 pre2 p2 post2 hx2 m4 Hl ⟨hle4, H4, rfl, hJ4⟩ hm4 Hfr4 hfr4
      simp only [List.cons_append, List.nil_append, List.append_assoc]
      have hmw := mem_w (l := h) (p := p2) (by rw [hx2]; simp)
      (refine st_O9_1 ?_; intros; rename_i b9)
      refine WQ.assignedIn (Hl := _ :: _ :: _ :: _ :: _ :: (H4 ++ [.blk D (.deferred (some []))])) (.cons (.cons (.cons (.cons (.cons (by have := Tail.app (Hfr := Hfr4) (H := H4 ++ [.blk D (.deferred (some []))]); simpa using this)))))) (Mem.le.refl _) ?_
      intro Hfr5 hfr5
      simp only [List.cons_append, List.append_assoc, List.nil_append]
      (try (refine st_O9_1 ?_; intros))
      rw [show (p2.at_ : Int) + (c : Int) = ((p2.at_ + c : Nat) : Int) by omega]
      have hpc : pieces L = (told ++ pre2.map (Pc.sh c)) ++ p2.sh c :: post2.map (Pc.sh c) := by rw [hend, hx2]; simp
      refine WL.heap (fun w h => h.perm (perm_frame [_, _, _, _, _] H4 (.blk D (.deferred (some [])) :: Hfr5))) ?_
      refine WL.yield (vs := [(p2.sh c).v]) rfl rfl rfl (hY _ _ _ hpc m4 H4 _ hJ4 hle4) ?_ ?_
      · rintro m5 H9 ⟨H5, rfl, hJ5, hle5⟩
        refine WL.heap (fun w h => h.perm (perm_frame [_, _, _, _, _] H5 (.blk D (.deferred (some [])) :: Hfr5)).symm) ?_
        simp only [List.cons_append, List.nil_append]
        (try (refine st_O9_1 ?_; intros))
        refine WQ.roundOn (Hl := [_, _, _, _] ++ (H5 ++ [.blk D (.deferred (some []))])) (fun w h => by have := h.drop; simpa using this) hle5 ⟨hle4.trans hle5, H5, rfl, by simpa using hJ5⟩
      · rintro m5 H9 ⟨H5, rfl, hJ5, hle5⟩
        refine WL.heap (fun w h => h.perm (perm_frame [_, _, _, _, _] H5 (.blk D (.deferred (some [])) :: Hfr5)).symm) ?_
        simp only [List.cons_append, List.nil_append]
        (try (refine st_O9_1 ?_; intros))
        refine WQ.roundRet (Hl := [] ++ (H5 ++ [.blk D (.deferred (some []))])) (fun w h => by have := h.drop.drop.drop.drop.drop; simpa using this) hle5 ⟨hle4.trans hle5, rfl, [], H5, _, rfl, ⟨_, by rw [hpc, List.append_assoc]; rfl⟩, hJ5⟩
    · rintro D2 m4 Hl ⟨hle4, H4, rfl, hJ4⟩ hm4
      rw [← hend] at hJ4
      (try (refine st_O9_1 ?_; intros))
      refine WQ.markNorm (H1 := [_, _, _, _] ++ (H4 ++ [.blk D (.deferred (some []))])) List.perm_append_comm ?_
      refine WQ.markNorm (H1 := [_, _, _, _] ++ H4) (by rw [← List.append_assoc]; exact List.perm_append_comm) ?_
      exact q_finNorm0 (H0 := H4) ⟨hle4, .inl hJ4⟩ (hd := fun w h => h.drop.drop.drop.drop)
    · rintro D2 cd pre2 m4 Hl _ ⟨hle4, rfl, X, H4, told', rfl, hpre, hJ4⟩ hm4
      (try (refine st_O9_1 ?_; intros))
      refine WQ.mark (H1 := X ++ (H4 ++ [.blk D (.deferred (some []))])) List.perm_append_comm ?_
      refine WQ.mark (H1 := X ++ H4) (by rw [← List.append_assoc]; exact List.perm_append_comm) ?_
      exact q_fin0 (H0 := H4) ⟨hle4, .inr ⟨told', hpre, hJ4⟩⟩ (hd := fun w h => drops_app h)
  · rintro D cd pre2 m4 Hl _ ⟨rfl, X, H4, told', rfl, hpre, hJ4⟩ hm4
    (try (refine st_O9_1 ?_; intros))
    refine WQ.mark (H1 := X ++ H4) List.perm_append_comm ?_
    exact q_fin0 (H0 := H4) ⟨hle1.trans hm4, .inr ⟨told', hpre, hJ4⟩⟩ (hd := fun w h => drops_app h)
end Go.Proofs.Ytljfncpecpkhhaa

/-
  The walks of ropes' Count and of the laws' works. No condition.
-/
namespace Go.Eng
def nBrk (ps : List Pc) : Nat := (ps.filter fun p => p.b).length
theorem nBrk_snoc (pre : List Pc) (x : Pc) : nBrk (pre ++ [x]) = nBrk pre + (if x.b then 1 else 0) := by
  unfold nBrk; rw [List.filter_append, List.length_append]; cases hx : x.b <;> simp [hx]
theorem nBrk_le (pre : List Pc) : nBrk pre ≤ pre.length := List.length_filter_le _ _
def tee : List UInt8 := [97, 195, 169, 10, 240, 159, 152, 128]
theorem tee_a : (pieces [97, 195]).length = 2 ∧ nBrk (pieces [97, 195]) = 1 := by decide
theorem tee_b : (pieces tee).length = 4 ∧ nBrk (pieces tee) = 0 := by decide
end Go.Eng
namespace Go.Proofs.Ytljfncpecpkhhaa
open Go Go.Eng
set_option maxRecDepth 100000
set_option maxHeartbeats 4000000
set_option linter.all false
attribute [local irreducible] WL WC WQ QFun QLoop Does Q1 QRound QAssign Go.Addr.add
attribute [local irreducible] nBrk
theorem count_any {p : Value} {s : List UInt8} (w0 : World) (m : Mem) (H : SHeap) (hp : RopeAt m p s) :
    Does Try.prog 25 #[p] w0 m H (fun v m' H' => m.le m' ∧ H' = H ∧ v = .tuple #[.int .i64 ((pieces s).length : Int), .int .i64 (nBrk (pieces s) : Int)]) := by
  obtain ⟨b, rfl⟩ := ropes_ptr hp
  obtain ⟨o, hT, ho⟩ := hp.node
  have hl := hp.len
  refine Does.of_body (args := [.pointer (some ⟨b, 0, none⟩)]) Try.func25 rfl Try.ntmps25 rfl ?_
  have hpl := pieces_length s
  (refine st ?_; intros; rename_i b4 b5)
  refine w_callF Try.func23 ?_ (hs := piecesIt_any _ _ _)
  rintro v0 m H0 ⟨bi, rfl, rfl, rfl⟩
  refine WL.persist (b := bi) (by (repeat (first | exact Out.here | apply Out.there))) ?_
  intro m1 hle1 hbi
  (try (refine st ?_; intros))
  have hin : RopeIn bi (.pointer (some ⟨b, 0, none⟩)) o m1 := ⟨hbi, hT.le hle1⟩
  have hseq := ropePieces_seq (b := bi) (p := .pointer (some ⟨b, 0, none⟩)) (o := o)
  rw [ho] at hseq
  refine WC.rangeFuncM (Hc := H) (encs := fun p : Pc => [p.v]) (xs := pieces s) (Cap := RopeIn bi (.pointer (some ⟨b, 0, none⟩)) o) (lb := [.pointer (some ⟨bi, 0, none⟩)]) (ps := [9])
    (J := fun pre _ Hl => Hl = [.blk b5 (.cells [.int .i64 (nBrk pre : Int)].toArray 3 (0, 0)), .blk b4 (.cells [.int .i64 (pre.length : Int)].toArray 3 (0, 0))]) (Jx := fun _ _ _ _ => False)
    rfl Try.func45 rfl rfl hseq hin (fun _ => rfl) rfl (fun _ _ _ _ h _ => h) (fun _ _ _ _ _ h _ => h) (.cons (.cons .nil)) ?_ ?_ ?_ ?_
  · rw [show nBrk [] = 0 from by unfold nBrk; rfl]; rfl
  · rintro lp pre x post hxs m2 Hl rfl hm2 Hfr hfr
    have hpre : pre.length ≤ (pieces s).length := by rw [hxs]; simp
    have hsn := nBrk_snoc pre x
    have hle3 := nBrk_le pre
    simp only [List.cons_append, List.nil_append]
    (try (refine st ?_; intros))
    refine WQ.assigned (.cons (.cons (.cons .nil))) (Mem.le.refl _) ?_
    intro Hfr2
    simp only [List.cons_append, List.nil_append]
    cases hx : x.b with
    | true =>
      rw [hx] at hsn
      (try (refine st ?_; intros))
      exact WQ.roundOn (Hl := [_, _]) (fun w h => h.drop) (Mem.le.refl _) (by rw [hsn, List.length_append]; rfl)
    | false =>
      rw [hx] at hsn
      (try (refine st ?_; intros))
      exact WQ.roundOn (Hl := [_, _]) (fun w h => h.drop) (Mem.le.refl _) (by rw [hsn, List.length_append]; rfl)
  · rintro D m2 Hl rfl hm2
    simp only [List.cons_append, List.nil_append]
    (try (refine st ?_; intros))
    refine WQ.mark (List.perm_middle (l₁ := [_, _])) ?_
    exact q_fin0 (H0 := H) ⟨hle1.trans hm2, rfl, rfl⟩ (hd := zpk)
  · rintro D c pre m' Hl _ h _
    exact h.elim
theorem sq_O10_1 {G : Prop} (h : G := by (repeat (first | (refine sp ?_; (repeat intro zzc)) | (refine iF 15 rfl ?_; refine w_callG Try.func15 ?_ (hs := text_any _ _ _ (by assumption))) | (refine iF 14 rfl ?_; refine w_callG Try.func14 ?_ (hs := same_any _ _ _ (by assumption) (by assumption))))); exact WQ.q1 rfl) : G := h
theorem st_O10_1 {G G' : Prop} (next : G') (h : Bx G' → G := by intro zzn; (first | ((refine st ?_; (repeat intro zzc)); (try ((first | (refine iF 15 rfl ?_; refine w_callG Try.func15 ?_ (hs := text_any _ _ _ (by assumption))) | (refine iF 14 rfl ?_; refine w_callG Try.func14 ?_ (hs := same_any _ _ _ (by assumption) (by assumption))) | ((refine iDraw ?_; (first | refine WC.drawAll rfl (by decide +kernel) ?_ | refine WC.draw 1 rfl (by decide +kernel) ?_ | refine WC.draw 2 rfl (by decide +kernel) ?_ | refine WC.draw 3 rfl (by decide +kernel) ?_ | refine WC.draw 4 rfl (by decide +kernel) ?_ | refine WC.draw 5 rfl (by decide +kernel) ?_ | refine WC.draw 6 rfl (by decide +kernel) ?_ | refine WC.draw 7 rfl (by decide +kernel) ?_ | refine WC.draw 8 rfl (by decide +kernel) ?_ | refine WC.draw 9 rfl (by decide +kernel) ?_ | refine WC.draw 10 rfl (by decide +kernel) ?_ | refine WC.draw 11 rfl (by decide +kernel) ?_ | refine WC.draw 12 rfl (by decide +kernel) ?_ | refine WC.draw 13 rfl (by decide +kernel) ?_ | refine WC.draw 14 rfl (by decide +kernel) ?_ | refine WC.draw 15 rfl (by decide +kernel) ?_ | refine WC.draw 16 rfl (by decide +kernel) ?_ | refine WC.draw 17 rfl (by decide +kernel) ?_ | refine WC.draw 18 rfl (by decide +kernel) ?_ | refine WC.draw 19 rfl (by decide +kernel) ?_ | refine WC.draw 20 rfl (by decide +kernel) ?_ | refine WC.draw 21 rfl (by decide +kernel) ?_ | refine WC.draw 22 rfl (by decide +kernel) ?_ | refine WC.draw 23 rfl (by decide +kernel) ?_ | refine WC.draw 24 rfl (by decide +kernel) ?_)); (repeat (refine WD.cons rfl (fun c h => by cases h) sq_O10_1 ?_)); refine WD.nil ?_)); (try (refine st ?_; (repeat intro zzc)))))) | ((first | (refine iF 15 rfl ?_; refine w_callG Try.func15 ?_ (hs := text_any _ _ _ (by assumption))) | (refine iF 14 rfl ?_; refine w_callG Try.func14 ?_ (hs := same_any _ _ _ (by assumption) (by assumption))) | ((refine iDraw ?_; (first | refine WC.drawAll rfl (by decide +kernel) ?_ | refine WC.draw 1 rfl (by decide +kernel) ?_ | refine WC.draw 2 rfl (by decide +kernel) ?_ | refine WC.draw 3 rfl (by decide +kernel) ?_ | refine WC.draw 4 rfl (by decide +kernel) ?_ | refine WC.draw 5 rfl (by decide +kernel) ?_ | refine WC.draw 6 rfl (by decide +kernel) ?_ | refine WC.draw 7 rfl (by decide +kernel) ?_ | refine WC.draw 8 rfl (by decide +kernel) ?_ | refine WC.draw 9 rfl (by decide +kernel) ?_ | refine WC.draw 10 rfl (by decide +kernel) ?_ | refine WC.draw 11 rfl (by decide +kernel) ?_ | refine WC.draw 12 rfl (by decide +kernel) ?_ | refine WC.draw 13 rfl (by decide +kernel) ?_ | refine WC.draw 14 rfl (by decide +kernel) ?_ | refine WC.draw 15 rfl (by decide +kernel) ?_ | refine WC.draw 16 rfl (by decide +kernel) ?_ | refine WC.draw 17 rfl (by decide +kernel) ?_ | refine WC.draw 18 rfl (by decide +kernel) ?_ | refine WC.draw 19 rfl (by decide +kernel) ?_ | refine WC.draw 20 rfl (by decide +kernel) ?_ | refine WC.draw 21 rfl (by decide +kernel) ?_ | refine WC.draw 22 rfl (by decide +kernel) ?_ | refine WC.draw 23 rfl (by decide +kernel) ?_ | refine WC.draw 24 rfl (by decide +kernel) ?_)); (repeat (refine WD.cons rfl (fun c h => by cases h) sq_O10_1 ?_)); refine WD.nil ?_)); (try (refine st ?_; (repeat intro zzc))))); (repeat ((first | (refine iF 15 rfl ?_; refine w_callG Try.func15 ?_ (hs := text_any _ _ _ (by assumption))) | (refine iF 14 rfl ?_; refine w_callG Try.func14 ?_ (hs := same_any _ _ _ (by assumption) (by assumption))) | ((refine iDraw ?_; (first | refine WC.drawAll rfl (by decide +kernel) ?_ | refine WC.draw 1 rfl (by decide +kernel) ?_ | refine WC.draw 2 rfl (by decide +kernel) ?_ | refine WC.draw 3 rfl (by decide +kernel) ?_ | refine WC.draw 4 rfl (by decide +kernel) ?_ | refine WC.draw 5 rfl (by decide +kernel) ?_ | refine WC.draw 6 rfl (by decide +kernel) ?_ | refine WC.draw 7 rfl (by decide +kernel) ?_ | refine WC.draw 8 rfl (by decide +kernel) ?_ | refine WC.draw 9 rfl (by decide +kernel) ?_ | refine WC.draw 10 rfl (by decide +kernel) ?_ | refine WC.draw 11 rfl (by decide +kernel) ?_ | refine WC.draw 12 rfl (by decide +kernel) ?_ | refine WC.draw 13 rfl (by decide +kernel) ?_ | refine WC.draw 14 rfl (by decide +kernel) ?_ | refine WC.draw 15 rfl (by decide +kernel) ?_ | refine WC.draw 16 rfl (by decide +kernel) ?_ | refine WC.draw 17 rfl (by decide +kernel) ?_ | refine WC.draw 18 rfl (by decide +kernel) ?_ | refine WC.draw 19 rfl (by decide +kernel) ?_ | refine WC.draw 20 rfl (by decide +kernel) ?_ | refine WC.draw 21 rfl (by decide +kernel) ?_ | refine WC.draw 22 rfl (by decide +kernel) ?_ | refine WC.draw 23 rfl (by decide +kernel) ?_ | refine WC.draw 24 rfl (by decide +kernel) ?_)); (repeat (refine WD.cons rfl (fun c h => by cases h) sq_O10_1 ?_)); refine WD.nil ?_)); (try (refine st ?_; (repeat intro zzc))))); (repeat revert zzc); exact zzn.out) : G := h ⟨next⟩
theorem works_any (w0 : World) (m : Mem) (H : SHeap) : Does Try.prog 11 #[] w0 m H (fun v m' H' => m.le m' ∧ H' = H ∧ v = .bool true) := by
  refine Does.of_body (args := []) Try.func11 rfl Try.ntmps11 rfl ?_
  (try (refine st_O10_1 ?_; intros))
  refine w_callF Try.func12 ?_ (hs := new_any tee (by decide) _ _ _)
  rintro v m1 H ⟨hle1, rfl, hv⟩
  obtain ⟨p, rfl, hp⟩ := hv
  (try (refine st_O10_1 ?_; intros))
  refine w_callF Try.func16 ?_ (hs := slice_any _ _ _ hp)
  rintro v m2 H ⟨hle2, rfl, pa, rfl, ha⟩
  replace hp := hp.le hle2
  (try (refine st_O10_1 ?_; intros))
  refine w_callF Try.func16 ?_ (hs := slice_any _ _ _ hp)
  rintro v m3 H ⟨hle3, rfl, pb, rfl, hb⟩
  replace hp := hp.le hle3
  replace ha := ha.le hle3
  have e1 : tee = [97, 195, 169, 10, 240, 159, 152, 128] := rfl
  have e2 : ([97, 195] : List UInt8) = [97, 195] := rfl
  have ha : RopeAt m3 pa [97, 195] := ha
  have hb : RopeAt m3 pb [169, 10, 240, 159, 152, 128] := hb
  (try (refine st_O10_1 ?_; intros))
  refine w_callF Try.func25 ?_ (hs := count_any _ _ _ ha)
  rintro v m4 H ⟨hle4, rfl, rfl⟩
  rw [tee_a.1, tee_a.2]
  replace hp := hp.le hle4
  replace ha := ha.le hle4
  replace hb := hb.le hle4
  (try (refine st_O10_1 ?_; intros))
  refine w_callF Try.func13 ?_ (hs := join_any _ _ _ ha hb)
  rintro v m5 H ⟨hle5, rfl, pq, rfl, hq⟩
  have hq : RopeAt m5 pq tee := hq
  replace hp := hp.le hle5
  replace ha := ha.le hle5
  (try (refine st_O10_1 ?_; intros))
  refine w_callF Try.func25 ?_ (hs := count_any _ _ _ hq)
  rintro v m6 H ⟨hle6, rfl, rfl⟩
  rw [tee_b.1, tee_b.2]
  replace hp := hp.le hle6
  replace ha := ha.le hle6
  replace hq := hq.le hle6
  have e3 : tee = tee := rfl
  have e4 : ¬ ([97, 195] : List UInt8) = tee := by decide
  (try (refine st_O10_1 ?_; intros))
  refine q_fin0 (H0 := H) ⟨hle1.trans (hle2.trans (hle3.trans (hle4.trans (hle5.trans hle6)))), rfl, ?_⟩ (hd := zpk)
  rw [dcd_false e4]; rfl
end Go.Proofs.Ytljfncpecpkhhaa

/-
  Plain facts for ropes: what is told of a text from its end, part by part. No condition.
-/
namespace Go.Eng
open Go
end Go.Eng

/-
  The walk of ropes' iterator Back. No condition.
-/
namespace Go.Eng
open Go Go.RowKit
end Go.Eng
namespace Go.Proofs.Ytljfncpecpkhhaa
open Go Go.Eng
set_option maxRecDepth 100000
set_option maxHeartbeats 4000000
set_option linter.all false
attribute [local irreducible] WL WC WQ QFun QLoop Does Q1 QRound QAssign Go.Addr.add
/-- what the pieces are handed to -/
def Yields (w0 : World) (lp : Nat) (xs : List Pc) (J Jx : List Pc → Mem → SHeap → Prop) (m : Mem) : Prop :=
  ∀ pre x post, xs = pre ++ x :: post → ∀ m1 H1 Hit, J pre m1 H1 → m.le m1 →
    YieldOK Try.prog w0 lp [x.v].toArray m1 (Hit ++ H1) (fun m' H' => ∃ H2, H' = Hit ++ H2 ∧ J (pre ++ [x]) m' H2 ∧ m1.le m') (fun m' H' => ∃ H2, H' = Hit ++ H2 ∧ Jx (pre ++ [x]) m' H2 ∧ m1.le m')
def ToldP (xs pre1 : List Pc) (J Jx : List Pc → Mem → SHeap → Prop) (m : Mem) (Hit : SHeap) : Value → Mem → SHeap → Prop := fun v m' H' => m.le m' ∧ ∃ H2, H' = Hit ++ H2 ∧ (v = .bool true ∧ J pre1 m' H2 ∨ v = .bool false ∧ ∃ pre, pre <+: xs ∧ Jx pre m' H2)
end Go.Proofs.Ytljfncpecpkhhaa

/-
  The walk of ropes' iterator Back: a part, and the whole. No condition.
-/
namespace Go.Proofs.Ytljfncpecpkhhaa
open Go Go.Eng
set_option maxRecDepth 100000
set_option maxHeartbeats 4000000
set_option linter.all false
attribute [local irreducible] WL WC WQ QFun QLoop Does Q1 QRound QAssign Go.Addr.add
attribute [local irreducible] begunK lackOf begunOf cutAt
/-- where the iterator stands: what is told, and what is held, before the texts Z of the parts that are done -/
def StB (L : List UInt8) (b3 b4 : Nat) (J : List Pc → Mem → SHeap → Prop) (y : Nat) (m' : Mem) (Hl : SHeap) : Prop :=
  ∃ (e : Nat) (H1 : SHeap), Go.Eng.Reach L e ∧ y ≤ e ∧ e ≤ L.length ∧ e ≤ y + 3 ∧ Hl = .blk b4 (.cells [.int .i64 (e : Int)].toArray 3 (0, 0)) :: .blk b3 (.cells [str ((L.drop y).take (e - y))].toArray 9 (0, 0)) :: H1 ∧ J (from_ L e).reverse m' H1
def LfB (L : List UInt8) (b3 b4 : Nat) (Jx : List Pc → Mem → SHeap → Prop) (m' : Mem) (Hl : SHeap) : Prop :=
  ∃ (i j : Go.Eng.Item) (H1 : SHeap) (pre : List Pc), Hl = i :: j :: H1 ∧ pre <+: (pieces L).reverse ∧ Jx pre m' H1
theorem sq_O15_1 {G : Prop} (h : G := by (repeat (first | (refine sp ?_; (repeat intro zzc)) | (refine iInv rfl ?_; first | refine w_size rfl (by assumption) rfl ?_ | refine w_depth rfl (by assumption) rfl ?_) | (refine iB_eql rfl ?_; refine WL.eqlNilI rfl (by first | exact .inr ⟨_, _, rfl, rfl⟩ | exact .inl ⟨rfl, rfl⟩) rfl rfl ?_))); exact WQ.q1 rfl) : G := h
theorem st_O15_1 {G G' : Prop} (next : G') (h : Bx G' → G := by intro zzn; (first | ((refine st ?_; (repeat intro zzc)); (try ((first | (refine iInv rfl ?_; first | refine w_size rfl (by assumption) rfl ?_ | refine w_depth rfl (by assumption) rfl ?_) | (refine iB_eql rfl ?_; refine WL.eqlNilI rfl (by first | exact .inr ⟨_, _, rfl, rfl⟩ | exact .inl ⟨rfl, rfl⟩) rfl rfl ?_) | ((refine iDraw ?_; (first | refine WC.drawAll rfl (by decide +kernel) ?_ | refine WC.draw 1 rfl (by decide +kernel) ?_ | refine WC.draw 2 rfl (by decide +kernel) ?_ | refine WC.draw 3 rfl (by decide +kernel) ?_ | refine WC.draw 4 rfl (by decide +kernel) ?_ | refine WC.draw 5 rfl (by decide +kernel) ?_ | refine WC.draw 6 rfl (by decide +kernel) ?_ | refine WC.draw 7 rfl (by decide +kernel) ?_ | refine WC.draw 8 rfl (by decide +kernel) ?_ | refine WC.draw 9 rfl (by decide +kernel) ?_ | refine WC.draw 10 rfl (by decide +kernel) ?_ | refine WC.draw 11 rfl (by decide +kernel) ?_ | refine WC.draw 12 rfl (by decide +kernel) ?_ | refine WC.draw 13 rfl (by decide +kernel) ?_ | refine WC.draw 14 rfl (by decide +kernel) ?_ | refine WC.draw 15 rfl (by decide +kernel) ?_ | refine WC.draw 16 rfl (by decide +kernel) ?_ | refine WC.draw 17 rfl (by decide +kernel) ?_ | refine WC.draw 18 rfl (by decide +kernel) ?_ | refine WC.draw 19 rfl (by decide +kernel) ?_ | refine WC.draw 20 rfl (by decide +kernel) ?_ | refine WC.draw 21 rfl (by decide +kernel) ?_ | refine WC.draw 22 rfl (by decide +kernel) ?_ | refine WC.draw 23 rfl (by decide +kernel) ?_ | refine WC.draw 24 rfl (by decide +kernel) ?_)); (repeat (refine WD.cons rfl (fun c h => by cases h) sq_O15_1 ?_)); refine WD.nil ?_)); (try (refine st ?_; (repeat intro zzc)))))) | ((first | (refine iInv rfl ?_; first | refine w_size rfl (by assumption) rfl ?_ | refine w_depth rfl (by assumption) rfl ?_) | (refine iB_eql rfl ?_; refine WL.eqlNilI rfl (by first | exact .inr ⟨_, _, rfl, rfl⟩ | exact .inl ⟨rfl, rfl⟩) rfl rfl ?_) | ((refine iDraw ?_; (first | refine WC.drawAll rfl (by decide +kernel) ?_ | refine WC.draw 1 rfl (by decide +kernel) ?_ | refine WC.draw 2 rfl (by decide +kernel) ?_ | refine WC.draw 3 rfl (by decide +kernel) ?_ | refine WC.draw 4 rfl (by decide +kernel) ?_ | refine WC.draw 5 rfl (by decide +kernel) ?_ | refine WC.draw 6 rfl (by decide +kernel) ?_ | refine WC.draw 7 rfl (by decide +kernel) ?_ | refine WC.draw 8 rfl (by decide +kernel) ?_ | refine WC.draw 9 rfl (by decide +kernel) ?_ | refine WC.draw 10 rfl (by decide +kernel) ?_ | refine WC.draw 11 rfl (by decide +kernel) ?_ | refine WC.draw 12 rfl (by decide +kernel) ?_ | refine WC.draw 13 rfl (by decide +kernel) ?_ | refine WC.draw 14 rfl (by decide +kernel) ?_ | refine WC.draw 15 rfl (by decide +kernel) ?_ | refine WC.draw 16 rfl (by decide +kernel) ?_ | refine WC.draw 17 rfl (by decide +kernel) ?_ | refine WC.draw 18 rfl (by decide +kernel) ?_ | refine WC.draw 19 rfl (by decide +kernel) ?_ | refine WC.draw 20 rfl (by decide +kernel) ?_ | refine WC.draw 21 rfl (by decide +kernel) ?_ | refine WC.draw 22 rfl (by decide +kernel) ?_ | refine WC.draw 23 rfl (by decide +kernel) ?_ | refine WC.draw 24 rfl (by decide +kernel) ?_)); (repeat (refine WD.cons rfl (fun c h => by cases h) sq_O15_1 ?_)); refine WD.nil ?_)); (try (refine st ?_; (repeat intro zzc))))); (repeat ((first | (refine iInv rfl ?_; first | refine w_size rfl (by assumption) rfl ?_ | refine w_depth rfl (by assumption) rfl ?_) | (refine iB_eql rfl ?_; refine WL.eqlNilI rfl (by first | exact .inr ⟨_, _, rfl, rfl⟩ | exact .inl ⟨rfl, rfl⟩) rfl rfl ?_) | ((refine iDraw ?_; (first | refine WC.drawAll rfl (by decide +kernel) ?_ | refine WC.draw 1 rfl (by decide +kernel) ?_ | refine WC.draw 2 rfl (by decide +kernel) ?_ | refine WC.draw 3 rfl (by decide +kernel) ?_ | refine WC.draw 4 rfl (by decide +kernel) ?_ | refine WC.draw 5 rfl (by decide +kernel) ?_ | refine WC.draw 6 rfl (by decide +kernel) ?_ | refine WC.draw 7 rfl (by decide +kernel) ?_ | refine WC.draw 8 rfl (by decide +kernel) ?_ | refine WC.draw 9 rfl (by decide +kernel) ?_ | refine WC.draw 10 rfl (by decide +kernel) ?_ | refine WC.draw 11 rfl (by decide +kernel) ?_ | refine WC.draw 12 rfl (by decide +kernel) ?_ | refine WC.draw 13 rfl (by decide +kernel) ?_ | refine WC.draw 14 rfl (by decide +kernel) ?_ | refine WC.draw 15 rfl (by decide +kernel) ?_ | refine WC.draw 16 rfl (by decide +kernel) ?_ | refine WC.draw 17 rfl (by decide +kernel) ?_ | refine WC.draw 18 rfl (by decide +kernel) ?_ | refine WC.draw 19 rfl (by decide +kernel) ?_ | refine WC.draw 20 rfl (by decide +kernel) ?_ | refine WC.draw 21 rfl (by decide +kernel) ?_ | refine WC.draw 22 rfl (by decide +kernel) ?_ | refine WC.draw 23 rfl (by decide +kernel) ?_ | refine WC.draw 24 rfl (by decide +kernel) ?_)); (repeat (refine WD.cons rfl (fun c h => by cases h) sq_O15_1 ?_)); refine WD.nil ?_)); (try (refine st ?_; (repeat intro zzc))))); (repeat revert zzc); exact zzn.out) : G := h ⟨next⟩
theorem lenT_any {p : Value} {o : Option Nd} (w0 : World) (m : Mem) (H : SHeap) (hp : RopeT m p o) : Does Try.prog 19 #[p] w0 m H (Gives (.int .i64 ((rtxt o).length : Int)) m H) := by
  obtain ⟨b, v, rfl, hb, hv, ok, hl⟩ := hp
  refine Does.of_body (args := [.pointer (some ⟨b, 0, none⟩)]) Try.func19 rfl Try.ntmps19 rfl ?_
  cases o with
  | none =>
    cases hv
    (try (refine st_O15_1 ?_; intros))
    exact q_fin0 (H0 := H) (Gives.mk rfl) (hd := zpk)
  | some T =>
    have hT : NAt m T v := hv
    obtain ⟨t, x, rfl⟩ := hT.iface
    (try (refine st_O15_1 ?_; intros))
    exact q_fin0 (H0 := H) (Gives.mk rfl) (hd := zpk)
def yOf (L : List UInt8) (pre : List (List UInt8)) : Nat := L.length - pre.reverse.flatten.length
end Go.Proofs.Ytljfncpecpkhhaa

/-
  The walks of the laws RopeJoined and RopeHeals. No condition.
-/
namespace Go.Eng
end Go.Eng
namespace Go.Proofs.Ytljfncpecpkhhaa
open Go Go.Eng
set_option maxRecDepth 100000
set_option maxHeartbeats 4000000
set_option linter.all false
attribute [local irreducible] WL WC WQ QFun QLoop Does Q1 QRound QAssign Go.Addr.add
theorem works_true {w0 : World} {m0 m : Mem} {H : SHeap} (hle : m0.le m) : Does Try.prog 11 #[] w0 m H (fun v m' H' => m0.le m' ∧ H' = H ∧ v = .bool true) :=
  (works_any w0 m H).mono fun v m' H' ⟨h1, h2, h3⟩ => ⟨hle.trans h1, h2, h3⟩
end Go.Proofs.Ytljfncpecpkhhaa

/-
  The walk of the law RopeEarly. No condition.
-/
namespace Go.Eng
open Go Go.RowKit
section
variable {P : Program} {ro : Option Nat} {n : Nat} {w0 : World} {Q : Exit → Act → World → Prop} {r : Env} {ds : List Nat} {m : Mem} {H : SHeap}
theorem WC.heap {c : Code} {H' : SHeap} (hh : ∀ w, Sat w0 m H w → Sat w0 m H' w) (h : WC P ro n w0 c Q r ds m H') : WC P ro n w0 c Q r ds m H := fun tmps w ho hs => h tmps w ho (hh w hs)
theorem WQ.heapX {e : Exit} {H' : SHeap} (hh : ∀ w, Sat w0 m H w → Sat w0 m H' w) (h : WQ n w0 Q e r ds m H') : WQ n w0 Q e r ds m H := fun tmps w ho hs => h tmps w ho (hh w hs)
end
end Go.Eng
namespace Go.Proofs.Ytljfncpecpkhhaa
open Go Go.Eng
set_option maxRecDepth 100000
set_option maxHeartbeats 4000000
set_option linter.all false
attribute [local irreducible] WL WC WQ QFun QLoop Does Q1 QRound QAssign Go.Addr.add
attribute [local irreducible] textsOf txt
end Go.Proofs.Ytljfncpecpkhhaa

/-
  Plain facts for ropes: a piece read in a window about a place. No condition.
-/
namespace Go.Eng
open Go
/-- a window about a place -/
def winOf (L : List UInt8) (k : Nat) : List UInt8 := (L.take (min (k + 8) L.length)).drop (k - 8)
theorem win_len {L : List UInt8} {k : Nat} (hk : k < L.length) : (winOf L k).length = min (k + 8) L.length - (k - 8) := by simp [winOf]
theorem win_read {L : List UInt8} {k i : Nat} (hk : k < L.length) (h1 : k - 8 ≤ i) (h2 : i ≤ k) : (readP (winOf L k) (i - (k - 8))).sh (k - 8) = readP L i := by
  by_cases hend : L.length ≤ k + 8
  · have e : winOf L k = L.drop (k - 8) := by unfold winOf; rw [List.take_of_length_le (by omega)]
    rw [e, read_drop, show k - 8 + (i - (k - 8)) = i by omega]
  · have e : winOf L k = (L.drop (k - 8)).take (k + 8 - (k - 8)) := by unfold winOf; rw [Nat.min_eq_left (by omega), ← List.drop_take]
    have e2 : dl ((winOf L k).drop (i - (k - 8))) = dl (L.drop i) := by
      rw [e]
      refine dl_nb fun q hq => ?_
      rw [nb_drop, nb_take (by omega), nb_drop, nb_drop]
      congr 1; omega
    unfold readP
    rw [e2]
    split
    · simp only [Pc.sh]; congr 1; omega
    · simp only [Pc.sh]; congr 1; omega
/-- the piece to which a byte belongs -/
def Over (L : List UInt8) (k : Nat) (p : Pc) : Prop := p ∈ pieces L ∧ p.at_ ≤ k ∧ k < p.at_ + p.w
theorem over_form {L : List UInt8} {k i : Nat} (hk : k < L.length) (h1 : i < k) (hb : (readP L i).b = false) (hw : k < i + (readP L i).w) : Over L k (readP L i) := by
  have hr := (within_reach (Nat.le_of_lt hk) (⟨h1, hw, hb⟩ : Within L k i))
  have ha := readP_at L i
  exact ⟨reach_mem hr.1 hr.2.1, by omega, by omega⟩
theorem over_self {L : List UInt8} {k : Nat} (hk : k < L.length) (h : ∀ i, i < k → k ≤ i + 3 → ¬ ((readP L i).b = false ∧ k < i + (readP L i).w)) : Over L k (readP L k) := by
  have hr : Reach L k := by
    by_cases hr : Reach L k
    · exact hr
    · exfalso
      have hno : ¬ (k = L.length ∨ Reach L k) := by
        rintro (h | h)
        · omega
        · exact hr h
      obtain ⟨i, hi⟩ := (within_iff (l := L) (at_ := k) (by omega)).2 hno
      have := within_reach (by omega) hi
      exact h i hi.1 this.2.2.1 ⟨hi.2.2, hi.2.1⟩
  have hw := readP_w hk
  have ha := readP_at L k
  exact ⟨reach_mem hr hk, by omega, by omega⟩
theorem over_start {L : List UInt8} {p q : Pc} (h : Over L p.at_ q) (hp : p ∈ pieces L) : q = p := by
  obtain ⟨h1, h2, h3⟩ := h
  obtain ⟨r1, l1, e1⟩ := reach_of_mem h1
  obtain ⟨r2, l2, e2⟩ := reach_of_mem hp
  rcases Nat.lt_or_eq_of_le h2 with hlt | heq
  · exact absurd r2 (not_reach_within l1 r1 hlt (by rw [← e1]; exact h3))
  · rw [e1, e2, heq]
theorem pc_form {l : List UInt8} {p : Pc} (h : p ∈ pieces l) : (p.b = true → p.r = 65533 ∧ p.w = 1) ∧ (p.b = false → ¬ (p.r = 65533 ∧ p.w = 1) ∧ okr p.r ∧ txt l p = fmb p.r) := by
  obtain ⟨_, hlt, he⟩ := reach_of_mem h
  have hat := readP_at l p.at_
  unfold readP at he
  split at he
  · rw [he]; exact ⟨fun _ => ⟨rfl, rfl⟩, fun h => by cases h⟩
  · rename_i hd
    rcases dl_cases (l.drop p.at_) (by simp; omega) with ⟨h1, h2, h3⟩ | ⟨h2, _⟩
    · have hr : p.r = (dl (l.drop p.at_)).1 := by rw [he]
      have hw : p.w = (dl (l.drop p.at_)).2 := by rw [he]
      have hb : p.b = false := by rw [he]
      refine ⟨(fun h => by rw [hb] at h; cases h), fun _ => ⟨fun ⟨a, b⟩ => hd ?_, by rw [hr]; exact h1, ?_⟩⟩
      · rw [hr] at a; rw [hw] at b
        exact Prod.ext a b
      · have := (begins_iff _ _ (okr_le h1)).1 h3
        rw [hr, ← this, txt, hw, h2, List.drop_take]
        congr 1; omega
    · exact absurd h2 hd
theorem pc_okr {l : List UInt8} {p : Pc} (h : p ∈ pieces l) : okr p.r := by
  obtain ⟨_, hlt, he⟩ := reach_of_mem h
  rw [he]; exact readP_ok hlt
end Go.Eng

/-
  The walks of ropes' around, Piece, Rune. No condition.
-/
namespace Go.Proofs.Ytljfncpecpkhhaa
open Go Go.Eng
set_option maxRecDepth 100000
set_option maxHeartbeats 4000000
set_option linter.all false
attribute [local irreducible] WL WC WQ QFun QLoop Does Q1 QRound QAssign Go.Addr.add
attribute [local irreducible] winOf
theorem sq_O17_1 {G : Prop} (h : G := by (repeat (first | (refine sp ?_; (repeat intro zzc)) | (refine iF 19 rfl ?_; refine w_callG Try.func19 ?_ (hs := len_any _ _ _ (by assumption))) | (refine iF 15 rfl ?_; refine w_callG Try.func15 ?_ (hs := text_any _ _ _ (by assumption))))); exact WQ.q1 rfl) : G := h
theorem st_O17_1 {G G' : Prop} (next : G') (h : Bx G' → G := by intro zzn; (first | ((refine st ?_; (repeat intro zzc)); (try ((first | (refine iF 19 rfl ?_; refine w_callG Try.func19 ?_ (hs := len_any _ _ _ (by assumption))) | (refine iF 15 rfl ?_; refine w_callG Try.func15 ?_ (hs := text_any _ _ _ (by assumption))) | ((refine iDraw ?_; (first | refine WC.drawAll rfl (by decide +kernel) ?_ | refine WC.draw 1 rfl (by decide +kernel) ?_ | refine WC.draw 2 rfl (by decide +kernel) ?_ | refine WC.draw 3 rfl (by decide +kernel) ?_ | refine WC.draw 4 rfl (by decide +kernel) ?_ | refine WC.draw 5 rfl (by decide +kernel) ?_ | refine WC.draw 6 rfl (by decide +kernel) ?_ | refine WC.draw 7 rfl (by decide +kernel) ?_ | refine WC.draw 8 rfl (by decide +kernel) ?_ | refine WC.draw 9 rfl (by decide +kernel) ?_ | refine WC.draw 10 rfl (by decide +kernel) ?_ | refine WC.draw 11 rfl (by decide +kernel) ?_ | refine WC.draw 12 rfl (by decide +kernel) ?_ | refine WC.draw 13 rfl (by decide +kernel) ?_ | refine WC.draw 14 rfl (by decide +kernel) ?_ | refine WC.draw 15 rfl (by decide +kernel) ?_ | refine WC.draw 16 rfl (by decide +kernel) ?_ | refine WC.draw 17 rfl (by decide +kernel) ?_ | refine WC.draw 18 rfl (by decide +kernel) ?_ | refine WC.draw 19 rfl (by decide +kernel) ?_ | refine WC.draw 20 rfl (by decide +kernel) ?_ | refine WC.draw 21 rfl (by decide +kernel) ?_ | refine WC.draw 22 rfl (by decide +kernel) ?_ | refine WC.draw 23 rfl (by decide +kernel) ?_ | refine WC.draw 24 rfl (by decide +kernel) ?_)); (repeat (refine WD.cons rfl (fun c h => by cases h) sq_O17_1 ?_)); refine WD.nil ?_)); (try (refine st ?_; (repeat intro zzc)))))) | ((first | (refine iF 19 rfl ?_; refine w_callG Try.func19 ?_ (hs := len_any _ _ _ (by assumption))) | (refine iF 15 rfl ?_; refine w_callG Try.func15 ?_ (hs := text_any _ _ _ (by assumption))) | ((refine iDraw ?_; (first | refine WC.drawAll rfl (by decide +kernel) ?_ | refine WC.draw 1 rfl (by decide +kernel) ?_ | refine WC.draw 2 rfl (by decide +kernel) ?_ | refine WC.draw 3 rfl (by decide +kernel) ?_ | refine WC.draw 4 rfl (by decide +kernel) ?_ | refine WC.draw 5 rfl (by decide +kernel) ?_ | refine WC.draw 6 rfl (by decide +kernel) ?_ | refine WC.draw 7 rfl (by decide +kernel) ?_ | refine WC.draw 8 rfl (by decide +kernel) ?_ | refine WC.draw 9 rfl (by decide +kernel) ?_ | refine WC.draw 10 rfl (by decide +kernel) ?_ | refine WC.draw 11 rfl (by decide +kernel) ?_ | refine WC.draw 12 rfl (by decide +kernel) ?_ | refine WC.draw 13 rfl (by decide +kernel) ?_ | refine WC.draw 14 rfl (by decide +kernel) ?_ | refine WC.draw 15 rfl (by decide +kernel) ?_ | refine WC.draw 16 rfl (by decide +kernel) ?_ | refine WC.draw 17 rfl (by decide +kernel) ?_ | refine WC.draw 18 rfl (by decide +kernel) ?_ | refine WC.draw 19 rfl (by decide +kernel) ?_ | refine WC.draw 20 rfl (by decide +kernel) ?_ | refine WC.draw 21 rfl (by decide +kernel) ?_ | refine WC.draw 22 rfl (by decide +kernel) ?_ | refine WC.draw 23 rfl (by decide +kernel) ?_ | refine WC.draw 24 rfl (by decide +kernel) ?_)); (repeat (refine WD.cons rfl (fun c h => by cases h) sq_O17_1 ?_)); refine WD.nil ?_)); (try (refine st ?_; (repeat intro zzc))))); (repeat ((first | (refine iF 19 rfl ?_; refine w_callG Try.func19 ?_ (hs := len_any _ _ _ (by assumption))) | (refine iF 15 rfl ?_; refine w_callG Try.func15 ?_ (hs := text_any _ _ _ (by assumption))) | ((refine iDraw ?_; (first | refine WC.drawAll rfl (by decide +kernel) ?_ | refine WC.draw 1 rfl (by decide +kernel) ?_ | refine WC.draw 2 rfl (by decide +kernel) ?_ | refine WC.draw 3 rfl (by decide +kernel) ?_ | refine WC.draw 4 rfl (by decide +kernel) ?_ | refine WC.draw 5 rfl (by decide +kernel) ?_ | refine WC.draw 6 rfl (by decide +kernel) ?_ | refine WC.draw 7 rfl (by decide +kernel) ?_ | refine WC.draw 8 rfl (by decide +kernel) ?_ | refine WC.draw 9 rfl (by decide +kernel) ?_ | refine WC.draw 10 rfl (by decide +kernel) ?_ | refine WC.draw 11 rfl (by decide +kernel) ?_ | refine WC.draw 12 rfl (by decide +kernel) ?_ | refine WC.draw 13 rfl (by decide +kernel) ?_ | refine WC.draw 14 rfl (by decide +kernel) ?_ | refine WC.draw 15 rfl (by decide +kernel) ?_ | refine WC.draw 16 rfl (by decide +kernel) ?_ | refine WC.draw 17 rfl (by decide +kernel) ?_ | refine WC.draw 18 rfl (by decide +kernel) ?_ | refine WC.draw 19 rfl (by decide +kernel) ?_ | refine WC.draw 20 rfl (by decide +kernel) ?_ | refine WC.draw 21 rfl (by decide +kernel) ?_ | refine WC.draw 22 rfl (by decide +kernel) ?_ | refine WC.draw 23 rfl (by decide +kernel) ?_ | refine WC.draw 24 rfl (by decide +kernel) ?_)); (repeat (refine WD.cons rfl (fun c h => by cases h) sq_O17_1 ?_)); refine WD.nil ?_)); (try (refine st ?_; (repeat intro zzc))))); (repeat revert zzc); exact zzn.out) : G := h ⟨next⟩
theorem around_any {p : Value} {s : List UInt8} {k : Nat} (hk : k < s.length) (w0 : World) (m : Mem) (H : SHeap) (hp : RopeAt m p s) :
    Does Try.prog 43 #[p, .int .i64 (k : Int)] w0 m H (fun v m' H' => m.le m' ∧ H' = H ∧ v = .tuple #[str (winOf s k), .int .i64 ((k - 8 : Nat) : Int)]) := by
  have hl := hp.len
  refine Does.of_body (args := [p, .int .i64 (k : Int)]) Try.func43 rfl Try.ntmps43 rfl ?_
  have e1 : max ((k : Int) - 8) 0 = ((k - 8 : Nat) : Int) := by omega
  have e2 : min ((k : Int) + 8) (s.length : Int) = ((min (k + 8) s.length : Nat) : Int) := by omega
  (try (refine st_O17_1 ?_; intros))
  rw [e1, e2]
  refine w_callF Try.func16 ?_ (hs := slice_any _ _ _ hp)
  rintro v m1 H ⟨hle1, rfl, hv⟩
  have hv2 : ResV m1 (.ok (winOf s k)) v := by
    unfold sliceR at hv
    rw [if_neg (by omega), Int.toNat_natCast, Int.toNat_natCast] at hv
    unfold winOf
    exact hv
  obtain ⟨q, rfl, hq⟩ := hv2
  (try (refine st_O17_1 ?_; intros))
  exact q_fin0 (H0 := H) ⟨hle1, rfl, rfl⟩ (hd := zpk)
theorem at_z {l : List UInt8} {z : Int} {k : Nat} {p : Pc} (hz : z = (k : Int)) (hl : l.length ≤ 9223372036854775804) (hk : k < l.length) (hp : readP l k = p) (w0 : World) (m : Mem) (H : SHeap) :
    Does Try.prog 44 #[str l, .int .i64 z] w0 m H (Gives (.tuple #[p.v, .int .i64 0]) m H) := by subst hz; subst hp; exact at_in l k hl hk w0 m H
theorem piece_any {p : Value} {s : List UInt8} {k : Nat} (hk : k < s.length) (w0 : World) (m : Mem) (H : SHeap) (hp : RopeAt m p s) :
    Does Try.prog 22 #[p, .int .i64 (k : Int)] w0 m H (fun v m' H' => m.le m' ∧ H' = H ∧ ∃ q, Over s k q ∧ v = .tuple #[q.v, .int .i64 0]) := by
  have hl := hp.len
  obtain ⟨b, rfl⟩ := ropes_ptr hp
  have hnn : (some (⟨b, 0, none⟩ : Addr)).isNone = false := rfl
  refine Does.of_body (args := [.pointer (some ⟨b, 0, none⟩), .int .i64 (k : Int)]) Try.func22 rfl Try.ntmps22 rfl ?_
  have hwl := win_len hk
  have e1 : max ((k : Int) - 3) 0 = ((k - 3 : Nat) : Int) := by omega
  (refine st_O17_1 ?_; intros; rename_i b4)
  refine w_callF Try.func43 ?_ (hs := around_any hk _ _ _ hp)
  rintro v m1 H1 ⟨hle1, rfl, rfl⟩
  (try (refine st_O17_1 ?_; intros))
  obtain ⟨i0, hi0⟩ : ∃ i0, k - 3 = i0 := ⟨_, rfl⟩
  rw [e1, hi0]
  refine WC.loopH [(8, .int .i64 ((i0) : Int)), (6, str (winOf s k)), (7, .int .i64 ((k - 8 : Nat) : Int)), (1, .int .i64 (k : Int)), (4, .pointer (some ⟨b4, 0, none⟩))] ?_ ?_ (fun j r ds m' H' => ∃ i, j = k - i ∧ r = [(8, .int .i64 (i : Int)), (6, str (winOf s k)), (7, .int .i64 ((k - 8 : Nat) : Int)), (1, .int .i64 (k : Int)), (4, .pointer (some ⟨b4, 0, none⟩))] ∧ ds = [] ∧ m1 = m' ∧ H' = .blk b4 (.cells [.int .i64 0, .int .i64 0, .int .i32 0, .bool false].toArray 40 (0, 0)) :: H ∧ (k - 3 ≤ i ∧ i ≤ k) ∧ (∀ q, k - 3 ≤ q → q < i → ¬ ((readP s q).b = false ∧ k < q + (readP s q).w))) (k - (i0)) ⟨i0, rfl, rfl, rfl, rfl, rfl, ⟨by omega, by omega⟩, fun q h1 h2 => by omega⟩ ?_
  · (repeat (first | exact Env.Sub.nil | refine Env.Sub.cons rfl ?_))
  · exact zpk
  rintro j r ds m' H' ⟨i, rfl, rfl, rfl, rfl, rfl, hi, hno⟩
  have hsh := win_read hk (i := i) (by omega) hi.2
  obtain ⟨r, hr⟩ : ∃ r, readP (winOf s k) (i - (k - 8)) = r := ⟨_, rfl⟩
  rw [hr] at hsh
  have hra : r.at_ + (k - 8) = i := by have := readP_at s i; rw [← hsh] at this; exact this
  have hrw : (readP s i).w = r.w := by rw [← hsh]; rfl
  have hrb : (readP s i).b = r.b := by rw [← hsh]; rfl
  have hrr : (readP s i).r = r.r := by rw [← hsh]; rfl
  have hrs : readP s i = ⟨i, r.w, r.r, r.b⟩ := by rw [← hsh]; unfold Pc.sh; rw [hra]
  have hmw := readP_w (l := winOf s k) (k := i - (k - 8)) (by omega)
  rw [hr] at hmw
  by_cases hik : i < k
  · (try (refine st_O17_1 ?_; intros))
    refine w_callF Try.func44 ?_ (hs := at_z (k := i - (k - 8)) (by omega) (by omega) (by omega) hr _ _ _)
    rintro v m2 H2 ⟨rfl, rfl, rfl⟩
    by_cases hyes : r.b = false ∧ k < i + r.w
    · obtain ⟨hb, hw⟩ := hyes
      have hnb : (!r.b) = true := by rw [hb]; rfl
      have hov := over_form hk hik (by rw [hrb]; exact hb) (by rw [hrw]; exact hw)
      (refine st_O17_1 ?_; intros; rename_i b9)
      refine q_fin0 (H0 := H) ⟨hle1, rfl, _, hov, ?_⟩ (hd := zpk)
      rw [hrs]
      rfl
    · cases hb : r.b with
      | true =>
        have hnb : (!r.b) = false := by rw [hb]; rfl
        (refine st_O17_1 ?_; intros; rename_i b9)
        refine WQ.next (k - (i + 1)) ⟨i + 1, rfl, rfl, rfl, rfl, rfl, ?_, ?_⟩ (by omega) zsb zpk
        · omega
        · intro q h1 h2
          by_cases hq : q = i
          · subst hq; rw [hrb, hrw]; exact hyes
          · exact hno q h1 (by omega)
      | false =>
        have hw : ¬ k < i + r.w := fun h => hyes ⟨hb, h⟩
        have hnb : (!r.b) = true := by rw [hb]; rfl
        (refine st_O17_1 ?_; intros; rename_i b9)
        refine WQ.next (k - (i + 1)) ⟨i + 1, rfl, rfl, rfl, rfl, rfl, ?_, ?_⟩ (by omega) zsb zpk
        · omega
        · intro q h1 h2
          by_cases hq : q = i
          · subst hq; rw [hrb, hrw]; exact hyes
          · exact hno q h1 (by omega)
  · obtain rfl : i = k := by omega
    have hov := over_self hk (fun q h1 h2 => hno q (by omega) h1)
    (try (refine st_O17_1 ?_; intros))
    refine w_callF Try.func44 ?_ (hs := at_z (k := i - (i - 8)) (by omega) (by omega) (by omega) hr _ _ _)
    rintro v m2 H2 ⟨rfl, rfl, rfl⟩
    (refine st_O17_1 ?_; intros; rename_i b9)
    refine q_fin0 (H0 := H) ⟨hle1, rfl, _, hov, ?_⟩ (hd := zpk)
    rw [hrs]
    rfl
/-- the boundary ahead of which so many pieces stand -/
def runeR (s : List UInt8) (k : Int) : Int × Int := if k < 0 ∨ ((pieces s).length : Int) < k then (0, 5) else match (pieces s)[k.toNat]? with
  | some p => ((p.at_ : Int), 0)
  | none => ((s.length : Int), 0)
theorem sq_O17_2 {G : Prop} (h : G := by (repeat (first | (refine sp ?_; (repeat intro zzc)) | (refine iF 19 rfl ?_; refine w_callG Try.func19 ?_ (hs := len_any _ _ _ (by assumption))) | (refine iF 15 rfl ?_; refine w_callG Try.func15 ?_ (hs := text_any _ _ _ (by assumption))) | (refine iF 19 rfl ?_; refine w_callG Try.func19 ?_ (hs := lenT_any _ _ _ (by assumption))))); exact WQ.q1 rfl) : G := h
theorem st_O17_2 {G G' : Prop} (next : G') (h : Bx G' → G := by intro zzn; (first | ((refine st ?_; (repeat intro zzc)); (try ((first | (refine iF 19 rfl ?_; refine w_callG Try.func19 ?_ (hs := len_any _ _ _ (by assumption))) | (refine iF 15 rfl ?_; refine w_callG Try.func15 ?_ (hs := text_any _ _ _ (by assumption))) | (refine iF 19 rfl ?_; refine w_callG Try.func19 ?_ (hs := lenT_any _ _ _ (by assumption))) | ((refine iDraw ?_; (first | refine WC.drawAll rfl (by decide +kernel) ?_ | refine WC.draw 1 rfl (by decide +kernel) ?_ | refine WC.draw 2 rfl (by decide +kernel) ?_ | refine WC.draw 3 rfl (by decide +kernel) ?_ | refine WC.draw 4 rfl (by decide +kernel) ?_ | refine WC.draw 5 rfl (by decide +kernel) ?_ | refine WC.draw 6 rfl (by decide +kernel) ?_ | refine WC.draw 7 rfl (by decide +kernel) ?_ | refine WC.draw 8 rfl (by decide +kernel) ?_ | refine WC.draw 9 rfl (by decide +kernel) ?_ | refine WC.draw 10 rfl (by decide +kernel) ?_ | refine WC.draw 11 rfl (by decide +kernel) ?_ | refine WC.draw 12 rfl (by decide +kernel) ?_ | refine WC.draw 13 rfl (by decide +kernel) ?_ | refine WC.draw 14 rfl (by decide +kernel) ?_ | refine WC.draw 15 rfl (by decide +kernel) ?_ | refine WC.draw 16 rfl (by decide +kernel) ?_ | refine WC.draw 17 rfl (by decide +kernel) ?_ | refine WC.draw 18 rfl (by decide +kernel) ?_ | refine WC.draw 19 rfl (by decide +kernel) ?_ | refine WC.draw 20 rfl (by decide +kernel) ?_ | refine WC.draw 21 rfl (by decide +kernel) ?_ | refine WC.draw 22 rfl (by decide +kernel) ?_ | refine WC.draw 23 rfl (by decide +kernel) ?_ | refine WC.draw 24 rfl (by decide +kernel) ?_)); (repeat (refine WD.cons rfl (fun c h => by cases h) sq_O17_2 ?_)); refine WD.nil ?_)); (try (refine st ?_; (repeat intro zzc)))))) | ((first | (refine iF 19 rfl ?_; refine w_callG Try.func19 ?_ (hs := len_any _ _ _ (by assumption))) | (refine iF 15 rfl ?_; refine w_callG Try.func15 ?_ (hs := text_any _ _ _ (by assumption))) | (refine iF 19 rfl ?_; refine w_callG Try.func19 ?_ (hs := lenT_any _ _ _ (by assumption))) | ((refine iDraw ?_; (first | refine WC.drawAll rfl (by decide +kernel) ?_ | refine WC.draw 1 rfl (by decide +kernel) ?_ | refine WC.draw 2 rfl (by decide +kernel) ?_ | refine WC.draw 3 rfl (by decide +kernel) ?_ | refine WC.draw 4 rfl (by decide +kernel) ?_ | refine WC.draw 5 rfl (by decide +kernel) ?_ | refine WC.draw 6 rfl (by decide +kernel) ?_ | refine WC.draw 7 rfl (by decide +kernel) ?_ | refine WC.draw 8 rfl (by decide +kernel) ?_ | refine WC.draw 9 rfl (by decide +kernel) ?_ | refine WC.draw 10 rfl (by decide +kernel) ?_ | refine WC.draw 11 rfl (by decide +kernel) ?_ | refine WC.draw 12 rfl (by decide +kernel) ?_ | refine WC.draw 13 rfl (by decide +kernel) ?_ | refine WC.draw 14 rfl (by decide +kernel) ?_ | refine WC.draw 15 rfl (by decide +kernel) ?_ | refine WC.draw 16 rfl (by decide +kernel) ?_ | refine WC.draw 17 rfl (by decide +kernel) ?_ | refine WC.draw 18 rfl (by decide +kernel) ?_ | refine WC.draw 19 rfl (by decide +kernel) ?_ | refine WC.draw 20 rfl (by decide +kernel) ?_ | refine WC.draw 21 rfl (by decide +kernel) ?_ | refine WC.draw 22 rfl (by decide +kernel) ?_ | refine WC.draw 23 rfl (by decide +kernel) ?_ | refine WC.draw 24 rfl (by decide +kernel) ?_)); (repeat (refine WD.cons rfl (fun c h => by cases h) sq_O17_2 ?_)); refine WD.nil ?_)); (try (refine st ?_; (repeat intro zzc))))); (repeat ((first | (refine iF 19 rfl ?_; refine w_callG Try.func19 ?_ (hs := len_any _ _ _ (by assumption))) | (refine iF 15 rfl ?_; refine w_callG Try.func15 ?_ (hs := text_any _ _ _ (by assumption))) | (refine iF 19 rfl ?_; refine w_callG Try.func19 ?_ (hs := lenT_any _ _ _ (by assumption))) | ((refine iDraw ?_; (first | refine WC.drawAll rfl (by decide +kernel) ?_ | refine WC.draw 1 rfl (by decide +kernel) ?_ | refine WC.draw 2 rfl (by decide +kernel) ?_ | refine WC.draw 3 rfl (by decide +kernel) ?_ | refine WC.draw 4 rfl (by decide +kernel) ?_ | refine WC.draw 5 rfl (by decide +kernel) ?_ | refine WC.draw 6 rfl (by decide +kernel) ?_ | refine WC.draw 7 rfl (by decide +kernel) ?_ | refine WC.draw 8 rfl (by decide +kernel) ?_ | refine WC.draw 9 rfl (by decide +kernel) ?_ | refine WC.draw 10 rfl (by decide +kernel) ?_ | refine WC.draw 11 rfl (by decide +kernel) ?_ | refine WC.draw 12 rfl (by decide +kernel) ?_ | refine WC.draw 13 rfl (by decide +kernel) ?_ | refine WC.draw 14 rfl (by decide +kernel) ?_ | refine WC.draw 15 rfl (by decide +kernel) ?_ | refine WC.draw 16 rfl (by decide +kernel) ?_ | refine WC.draw 17 rfl (by decide +kernel) ?_ | refine WC.draw 18 rfl (by decide +kernel) ?_ | refine WC.draw 19 rfl (by decide +kernel) ?_ | refine WC.draw 20 rfl (by decide +kernel) ?_ | refine WC.draw 21 rfl (by decide +kernel) ?_ | refine WC.draw 22 rfl (by decide +kernel) ?_ | refine WC.draw 23 rfl (by decide +kernel) ?_ | refine WC.draw 24 rfl (by decide +kernel) ?_)); (repeat (refine WD.cons rfl (fun c h => by cases h) sq_O17_2 ?_)); refine WD.nil ?_)); (try (refine st ?_; (repeat intro zzc))))); (repeat revert zzc); exact zzn.out) : G := h ⟨next⟩
theorem rune_any {p : Value} {s : List UInt8} {k : Int} (w0 : World) (m : Mem) (H : SHeap) (hp : RopeAt m p s) :
    Does Try.prog 24 #[p, .int .i64 k] w0 m H (fun v m' H' => m.le m' ∧ H' = H ∧ v = .tuple #[.int .i64 (runeR s k).1, .int .i64 (runeR s k).2]) := by
  have hl := hp.len
  obtain ⟨b, rfl⟩ := ropes_ptr hp
  obtain ⟨o, hT, ho⟩ := hp.node
  have hnn : (some (⟨b, 0, none⟩ : Addr)).isNone = false := rfl
  have hpl := pieces_length s
  refine Does.of_body (args := [.pointer (some ⟨b, 0, none⟩), .int .i64 k]) Try.func24 rfl Try.ntmps24 rfl ?_
  (refine st_O17_2 ?_; intros; rename_i b3 b4 b5 b6)
  refine w_callF Try.func23 ?_ (hs := piecesIt_any _ _ _)
  rintro v0 m H0 ⟨bi, rfl, rfl, rfl⟩
  refine WL.persist (b := bi) (by (repeat (first | exact Out.here | apply Out.there))) ?_
  intro m1 hle1 hbi
  refine WL.persist (b := b3) (by (repeat (first | exact Out.here | apply Out.there))) ?_
  intro m2 hle2 hb3
  (try (refine st_O17_2 ?_; intros))
  replace hbi := hle2 _ _ hbi
  have hT2 := hT.le (hle1.trans hle2)
  have hseq := ropePieces_seq (b := bi) (p := .pointer (some ⟨b, 0, none⟩)) (o := o)
  rw [ho] at hseq
  refine WC.rangeFuncM (Hc := H) (encs := fun p : Pc => [p.v]) (xs := pieces s) (Cap := RopeIn bi (.pointer (some ⟨b, 0, none⟩)) o) (lb := [.pointer (some ⟨bi, 0, none⟩)]) (ps := [12])
    (J := fun pre _ Hl => (∀ i : Nat, i < pre.length → (i : Int) ≠ k) ∧ Hl = [.blk b6 (.cells [.int .i64 (pre.length : Int)].toArray 3 (0, 0)), .blk b5 (.cells [.int .i64 0].toArray 24 (0, 0)), .blk b4 (.cells [.int .i64 0].toArray 3 (0, 0))])
    (Jx := fun c _ _ Hl => c = .ret ∧ ∃ p, 0 ≤ k ∧ (pieces s)[k.toNat]? = some p ∧ Hl = [.blk b5 (.cells [.int .i64 0].toArray 24 (0, 0)), .blk b4 (.cells [.int .i64 (p.at_ : Int)].toArray 3 (0, 0))])
    rfl Try.func45 rfl rfl hseq ⟨hbi, hT2⟩ (fun _ => rfl) rfl (fun _ _ _ _ h _ => h) (fun _ _ _ _ _ h _ => h) (.cons (.cons (.cons .nil))) ?_ ?_ ?_ ?_
  · exact ⟨fun i h => by simp at h, rfl⟩
  · rintro lp pre x post hxs m3 Hl ⟨hno, rfl⟩ hm3 Hfr hfr
    have hpre : pre.length + post.length + 1 = (pieces s).length := by rw [hxs]; simp; omega
    have hb33 := hm3 _ _ hb3
    simp only [List.cons_append, List.nil_append]
    (try (refine st_O17_2 ?_; intros))
    refine WQ.assigned (.cons (.cons (.cons (.cons .nil)))) (Mem.le.refl _) ?_
    intro Hfr2
    simp only [List.cons_append, List.nil_append]
    by_cases hk : (pre.length : Int) = k
    · (try (refine st_O17_2 ?_; intros))
      exact WQ.roundRet (Hl := [_, _]) (fun w h => h.drop.drop) (Mem.le.refl _) ⟨rfl, x, by omega, by rw [show k.toNat = pre.length by omega, hxs]; simp, rfl⟩
    · (try (refine st_O17_2 ?_; intros))
      refine WQ.roundOn (Hl := [_, _, _]) (fun w h => h.drop) (Mem.le.refl _) ⟨fun i hi => ?_, by rw [List.length_append]; rfl⟩
      rw [List.length_append] at hi
      by_cases h : i = pre.length
      · subst h; exact hk
      · exact hno i (by simp at hi; omega)
  · rintro D m3 Hl ⟨hno, rfl⟩ hm3
    simp only [List.cons_append, List.nil_append]
    have hb33 := hm3 _ _ hb3
    have hT3 := hT2.le hm3
    by_cases hk : ((pieces s).length : Int) = k
    · (try (refine st_O17_2 ?_; intros))
      rw [ho]
      refine WQ.mark (List.perm_middle (l₁ := [_, _, _])) ?_
      refine q_fin0 (H0 := H) ⟨hle1.trans (hle2.trans hm3), rfl, ?_⟩ (hd := zpk)
      have hnone : (pieces s)[k.toNat]? = none := List.getElem?_eq_none (by omega)
      unfold runeR
      rw [if_neg (by omega), hnone]
    · (try (refine st_O17_2 ?_; intros))
      refine WQ.mark (List.perm_middle (l₁ := [_, _, _])) ?_
      refine q_fin0 (H0 := H) ⟨hle1.trans (hle2.trans hm3), rfl, ?_⟩ (hd := zpk)
      unfold runeR
      rw [if_pos]
      by_cases h : k < 0
      · exact .inl h
      · refine .inr ?_
        have := hno k.toNat
        omega
  · rintro D c pre m3 Hl _ ⟨rfl, p, hk, hget, rfl⟩ hm3
    simp only [List.cons_append, List.nil_append]
    have hlt := (List.getElem?_eq_some_iff.1 hget).1
    (try (refine st_O17_2 ?_; intros))
    refine WQ.mark (List.perm_middle (l₁ := [_, _])) ?_
    refine q_fin0 (H0 := H) ⟨hle1.trans (hle2.trans hm3), rfl, ?_⟩ (hd := zpk)
    unfold runeR
    rw [if_neg (by omega), hget]
end Go.Proofs.Ytljfncpecpkhhaa

/-
  The walk of the law RopeHeals. No condition.
-/
namespace Go.Eng
end Go.Eng
namespace Go.Proofs.Ytljfncpecpkhhaa
open Go Go.Eng
set_option maxRecDepth 100000
set_option maxHeartbeats 4000000
set_option linter.all false
attribute [local irreducible] WL WC WQ QFun QLoop Does Q1 QRound QAssign Go.Addr.add
end Go.Proofs.Ytljfncpecpkhhaa

/-
  The walk of the law RopeGrows. No condition.
-/
namespace Go.Eng
theorem sum_mem : ∀ {l : List (List UInt8)} {x : List UInt8}, x ∈ l → x.length ≤ (l.map List.length).sum
  | _ :: l, x, h => by
    rw [List.map_cons, List.sum_cons]
    rcases List.mem_cons.1 h with rfl | h
    · omega
    · have := sum_mem h; omega
end Go.Eng
namespace Go.Proofs.Ytljfncpecpkhhaa
open Go Go.Eng
set_option maxRecDepth 100000
set_option maxHeartbeats 4000000
set_option linter.all false
attribute [local irreducible] WL WC WQ QFun QLoop Does Q1 QRound QAssign Go.Addr.add
end Go.Proofs.Ytljfncpecpkhhaa

/-
  The walk of the law RopeGo. No condition.
-/
namespace Go.Proofs.Ytljfncpecpkhhaa
open Go Go.Eng
set_option maxRecDepth 100000
set_option maxHeartbeats 4000000
set_option linter.all false
attribute [local irreducible] WL WC WQ QFun QLoop Does Q1 QRound QAssign Go.Addr.add
attribute [local irreducible] Utf8.encode
def aV2 (p : Pc) : List Value := [.int .i64 (p.at_ : Int)]
theorem runeR_at {s : List UInt8} {pre post : List Pc} {x : Pc} (h : pieces s = pre ++ x :: post) : runeR s (pre.length : Int) = ((x.at_ : Int), 0) := by
  have hg : (pieces s)[((pre.length : Nat) : Int).toNat]? = some x := by rw [Int.toNat_natCast, h]; simp
  have hl : (pieces s).length = pre.length + post.length + 1 := by rw [h]; simp; omega
  unfold runeR
  rw [if_neg (by omega), hg]
theorem sq_O18_1 {G : Prop} (h : G := by (repeat (first | (refine sp ?_; (repeat intro zzc)) | (refine iF 15 rfl ?_; refine w_callG Try.func15 ?_ (hs := text_any _ _ _ (by assumption))) | (refine iF 19 rfl ?_; refine w_callG Try.func19 ?_ (hs := len_any _ _ _ (by assumption))))); exact WQ.q1 rfl) : G := h
theorem st_O18_1 {G G' : Prop} (next : G') (h : Bx G' → G := by intro zzn; (first | ((refine st ?_; (repeat intro zzc)); (try ((first | (refine iF 15 rfl ?_; refine w_callG Try.func15 ?_ (hs := text_any _ _ _ (by assumption))) | (refine iF 19 rfl ?_; refine w_callG Try.func19 ?_ (hs := len_any _ _ _ (by assumption))) | ((refine iDraw ?_; (first | refine WC.drawAll rfl (by decide +kernel) ?_ | refine WC.draw 1 rfl (by decide +kernel) ?_ | refine WC.draw 2 rfl (by decide +kernel) ?_ | refine WC.draw 3 rfl (by decide +kernel) ?_ | refine WC.draw 4 rfl (by decide +kernel) ?_ | refine WC.draw 5 rfl (by decide +kernel) ?_ | refine WC.draw 6 rfl (by decide +kernel) ?_ | refine WC.draw 7 rfl (by decide +kernel) ?_ | refine WC.draw 8 rfl (by decide +kernel) ?_ | refine WC.draw 9 rfl (by decide +kernel) ?_ | refine WC.draw 10 rfl (by decide +kernel) ?_ | refine WC.draw 11 rfl (by decide +kernel) ?_ | refine WC.draw 12 rfl (by decide +kernel) ?_ | refine WC.draw 13 rfl (by decide +kernel) ?_ | refine WC.draw 14 rfl (by decide +kernel) ?_ | refine WC.draw 15 rfl (by decide +kernel) ?_ | refine WC.draw 16 rfl (by decide +kernel) ?_ | refine WC.draw 17 rfl (by decide +kernel) ?_ | refine WC.draw 18 rfl (by decide +kernel) ?_ | refine WC.draw 19 rfl (by decide +kernel) ?_ | refine WC.draw 20 rfl (by decide +kernel) ?_ | refine WC.draw 21 rfl (by decide +kernel) ?_ | refine WC.draw 22 rfl (by decide +kernel) ?_ | refine WC.draw 23 rfl (by decide +kernel) ?_ | refine WC.draw 24 rfl (by decide +kernel) ?_)); (repeat (refine WD.cons rfl (fun c h => by cases h) sq_O18_1 ?_)); refine WD.nil ?_)); (try (refine st ?_; (repeat intro zzc)))))) | ((first | (refine iF 15 rfl ?_; refine w_callG Try.func15 ?_ (hs := text_any _ _ _ (by assumption))) | (refine iF 19 rfl ?_; refine w_callG Try.func19 ?_ (hs := len_any _ _ _ (by assumption))) | ((refine iDraw ?_; (first | refine WC.drawAll rfl (by decide +kernel) ?_ | refine WC.draw 1 rfl (by decide +kernel) ?_ | refine WC.draw 2 rfl (by decide +kernel) ?_ | refine WC.draw 3 rfl (by decide +kernel) ?_ | refine WC.draw 4 rfl (by decide +kernel) ?_ | refine WC.draw 5 rfl (by decide +kernel) ?_ | refine WC.draw 6 rfl (by decide +kernel) ?_ | refine WC.draw 7 rfl (by decide +kernel) ?_ | refine WC.draw 8 rfl (by decide +kernel) ?_ | refine WC.draw 9 rfl (by decide +kernel) ?_ | refine WC.draw 10 rfl (by decide +kernel) ?_ | refine WC.draw 11 rfl (by decide +kernel) ?_ | refine WC.draw 12 rfl (by decide +kernel) ?_ | refine WC.draw 13 rfl (by decide +kernel) ?_ | refine WC.draw 14 rfl (by decide +kernel) ?_ | refine WC.draw 15 rfl (by decide +kernel) ?_ | refine WC.draw 16 rfl (by decide +kernel) ?_ | refine WC.draw 17 rfl (by decide +kernel) ?_ | refine WC.draw 18 rfl (by decide +kernel) ?_ | refine WC.draw 19 rfl (by decide +kernel) ?_ | refine WC.draw 20 rfl (by decide +kernel) ?_ | refine WC.draw 21 rfl (by decide +kernel) ?_ | refine WC.draw 22 rfl (by decide +kernel) ?_ | refine WC.draw 23 rfl (by decide +kernel) ?_ | refine WC.draw 24 rfl (by decide +kernel) ?_)); (repeat (refine WD.cons rfl (fun c h => by cases h) sq_O18_1 ?_)); refine WD.nil ?_)); (try (refine st ?_; (repeat intro zzc))))); (repeat ((first | (refine iF 15 rfl ?_; refine w_callG Try.func15 ?_ (hs := text_any _ _ _ (by assumption))) | (refine iF 19 rfl ?_; refine w_callG Try.func19 ?_ (hs := len_any _ _ _ (by assumption))) | ((refine iDraw ?_; (first | refine WC.drawAll rfl (by decide +kernel) ?_ | refine WC.draw 1 rfl (by decide +kernel) ?_ | refine WC.draw 2 rfl (by decide +kernel) ?_ | refine WC.draw 3 rfl (by decide +kernel) ?_ | refine WC.draw 4 rfl (by decide +kernel) ?_ | refine WC.draw 5 rfl (by decide +kernel) ?_ | refine WC.draw 6 rfl (by decide +kernel) ?_ | refine WC.draw 7 rfl (by decide +kernel) ?_ | refine WC.draw 8 rfl (by decide +kernel) ?_ | refine WC.draw 9 rfl (by decide +kernel) ?_ | refine WC.draw 10 rfl (by decide +kernel) ?_ | refine WC.draw 11 rfl (by decide +kernel) ?_ | refine WC.draw 12 rfl (by decide +kernel) ?_ | refine WC.draw 13 rfl (by decide +kernel) ?_ | refine WC.draw 14 rfl (by decide +kernel) ?_ | refine WC.draw 15 rfl (by decide +kernel) ?_ | refine WC.draw 16 rfl (by decide +kernel) ?_ | refine WC.draw 17 rfl (by decide +kernel) ?_ | refine WC.draw 18 rfl (by decide +kernel) ?_ | refine WC.draw 19 rfl (by decide +kernel) ?_ | refine WC.draw 20 rfl (by decide +kernel) ?_ | refine WC.draw 21 rfl (by decide +kernel) ?_ | refine WC.draw 22 rfl (by decide +kernel) ?_ | refine WC.draw 23 rfl (by decide +kernel) ?_ | refine WC.draw 24 rfl (by decide +kernel) ?_)); (repeat (refine WD.cons rfl (fun c h => by cases h) sq_O18_1 ?_)); refine WD.nil ?_)); (try (refine st ?_; (repeat intro zzc))))); (repeat revert zzc); exact zzn.out) : G := h ⟨next⟩
theorem ropeGo_any {a : Option Addr} {cap : Nat} {parts : List (List UInt8)} (hc : parts.length ≤ cap) (hl : (parts.map List.length).sum + parts.length ≤ 1048576) (w0 : World) (m : Mem) (H : SHeap) (hr : ∀ Hp, RowR w0 m Hp 1 a (parts.map fun x => [str x])) :
    Does Try.prog 6 #[.slice a parts.length cap] w0 m H (fun v m' _ => v = .bool true ∧ m.le m') := by
  refine Does.of_body (args := [.slice a parts.length cap]) Try.func6 rfl Try.ntmps6 rfl ?_
  have hml : (parts.map fun x => [str x]).length = parts.length := by simp
  (refine st_O18_1 ?_; intros; rename_i b2)
  refine w_callF Try.func11 ?_ (hs := works_any _ _ _)
  rintro v m0 H1 ⟨hle0, rfl, rfl⟩
  (try (refine st_O18_1 ?_; intros))
  refine w_callF Try.func12 ?_ (hs := new_any [] (by simp) _ _ _)
  rintro v m1 H1 ⟨hle1, rfl, hv⟩
  unfold newV at hv
  rw [if_neg (by simp)] at hv
  obtain ⟨x, rfl, hx⟩ := hv
  obtain ⟨xb, rfl⟩ := ropes_ptr hx
  have hm : m.le m1 := hle0.trans hle1
  (refine st_O18_1 ?_; intros; rename_i b3)
  refine WC.loopH [(31, .int .i64 ((0) : Int)), (30, .int .i64 (parts.length : Int)), (29, .slice a parts.length cap), (3, .pointer (some ⟨b3, 0, none⟩)), (2, .pointer (some ⟨b2, 0, none⟩))] ?_ ?_ (fun j r ds m' H' => ∃ (i : Nat) (pb : Nat) (s : List UInt8) (mm : Mem), j = 2 * (parts.length - i) ∧ r = [(31, .int .i64 (i : Int)), (30, .int .i64 (parts.length : Int)), (29, .slice a parts.length cap), (3, .pointer (some ⟨b3, 0, none⟩)), (2, .pointer (some ⟨b2, 0, none⟩))] ∧ ds = [] ∧ mm = m' ∧ H' = .blk b3 (.cells [.pointer (some ⟨pb, 0, none⟩)].toArray 23 (0, 0)) :: .blk b2 (.cells [.bool false].toArray 4 (0, 0)) :: H ∧ (RopeAt mm (.pointer (some ⟨pb, 0, none⟩)) s) ∧ (m.le mm) ∧ (i ≤ parts.length) ∧ (s.length ≤ 262144)) (2 * (parts.length - (0))) ⟨0, xb, [], m1, rfl, rfl, rfl, rfl, rfl, hx, hm, Nat.zero_le _, by simp⟩ ?_
  · (repeat (first | exact Env.Sub.nil | refine Env.Sub.cons rfl ?_))
  · exact zpk
  rintro j r ds m' H' ⟨i, pb, s, mm, rfl, rfl, rfl, rfl, rfl, hp, hle, hi, hs⟩
  by_cases hil : i < parts.length
  · obtain ⟨b, hb, hget, htk, hmem, hdr⟩ := at_idx (f := fun x : List UInt8 => [str x]) hil
    have hbl := sum_mem hmem
    have hr2 : RowR w0 mm H 1 a (parts.map fun x => [str x]) := (hr H).le hle
    refine WC.rSome hr2.more.more (by omega) ?_
    rintro a0 rfl
    have hr3 := hr2.more (i := .blk b2 (.cells [.bool false].toArray 4 (0, 0))) |>.more (i := .blk b3 (.cells [.pointer (some ⟨pb, 0, none⟩)].toArray 23 (0, 0)))
    by_cases hbig : 262144 < s.length + b.length
    · (try (refine st_O18_1 ?_; intros))
      refine w_callF Try.func11 ?_ (hs := works_true hle)
      rintro v m9 H9 ⟨hle9, rfl, rfl⟩
      (try (refine st_O18_1 ?_; intros))
      exact q_fin0 (H0 := H) ⟨rfl, hle9⟩ (hd := zpk)
    (try (refine st_O18_1 ?_; intros))
    refine w_callF Try.func12 ?_ (hs := new_any b (by omega) _ _ _)
    rintro v m2 H1 ⟨hle2, rfl, hv⟩
    unfold newV at hv
    rw [if_neg (by omega)] at hv
    obtain ⟨q, rfl, hq⟩ := hv
    replace hp := hp.le hle2
    (try (refine st_O18_1 ?_; intros))
    refine w_callF Try.func13 ?_ (hs := join_any _ _ _ hp hq)
    rintro v m3 H1 ⟨hle3, rfl, hv⟩
    unfold joinRR at hv
    rw [if_neg (by omega)] at hv
    obtain ⟨u, rfl, hu⟩ := hv
    obtain ⟨ub, rfl⟩ := ropes_ptr hu
    (try (refine st_O18_1 ?_; intros))
    refine WQ.next (2 * (parts.length - (i + 1))) ⟨i + 1, ub, s ++ b, m3, rfl, rfl, rfl, rfl, rfl, ?_, ?_, ?_, ?_⟩ (by omega) zsb zpk
    · exact hu
    · exact hle.trans (hle2.trans hle3)
    · omega
    · simp; omega
  · obtain rfl : i = parts.length := by omega
    clear hil hi hx hm hle0 hle1
    (refine st_O18_1 ?_; intros; rename_i b9 b10 it)
    refine WC.persist (b := b9) (by (repeat (first | exact Out.here | apply Out.there))) ?_
    intro m4 hle4 hb9
    refine WC.persist (b := b3) (by (repeat (first | exact Out.here | apply Out.there))) ?_
    intro m5 hle5 hb3
    replace hb9 := hle5 _ _ hb9
    replace hp := hp.le (hle4.trans hle5)
    replace hle := hle.trans (hle4.trans hle5)
    clear hle4 hle5
    have hpl := pieces_length s
    refine WC.newRow (T := 3) (sz := 1) ?_
    refine WC.loopH [(61, .pointer (some ⟨it, 0, none⟩)), (3, .pointer (some ⟨b3, 0, none⟩)), (2, .pointer (some ⟨b2, 0, none⟩)), (9, .pointer (some ⟨b9, 0, none⟩)), (10, .pointer (some ⟨b10, 0, none⟩))] ?_ ?_ (fun j r ds m' H' => ∃ (k : Nat) (ra : Option Addr) (ca : Nat) (pre : List Pc) (m6 : Mem), j = s.length - k ∧ r = [(61, .pointer (some ⟨it, 0, none⟩)), (3, .pointer (some ⟨b3, 0, none⟩)), (2, .pointer (some ⟨b2, 0, none⟩)), (9, .pointer (some ⟨b9, 0, none⟩)), (10, .pointer (some ⟨b10, 0, none⟩))] ∧ ds = [] ∧ m6 = m' ∧ H' = .row ra ca 3 1 (pre.map aV2) :: .blk it (.stringIter ⟨s.toArray⟩ k) :: .blk b10 (.cells [.slice ra pre.length ca].toArray 38 (0, 0)) :: .blk b2 (.cells [.bool false].toArray 4 (0, 0)) :: H ∧ (pieces s = pre ++ from_ s k) ∧ (m5.le m6)) (s.length - (0)) ⟨0, none, 0, [], m5, rfl, rfl, rfl, rfl, rfl, rfl, Mem.le.refl _⟩ ?_
    · (repeat (first | exact Env.Sub.nil | refine Env.Sub.cons rfl ?_))
    · exact zpk
    rintro j r ds m' H' ⟨k, ra, ca, pre, m6, rfl, rfl, rfl, rfl, rfl, hpp, hle6⟩
    have hpre : pre.length ≤ s.length := by have := congrArg List.length hpp; simp at this; omega
    have hla : (pre.map aV2).length = pre.length := by simp
    have hb96 := hle6 _ _ hb9
    have hb36 := hle6 _ _ hb3
    have hp6 := hp.le hle6
    by_cases hk : k < s.length
    · have hw := readP_w hk
      rw [from_cons hk] at hpp
      have hwe := readP_w_eq s k
      have hre := readP_r_eq s k
      have hat := readP_at s k
      have hmem : readP s k ∈ pieces s := by rw [hpp]; simp
      (refine st_O18_1 ?_; intros; rename_i q1 a9 c9)
      refine w_callF Try.func22 ?_ (hs := piece_any hk _ _ _ hp6)
      rintro v m7 H9 ⟨hle7, rfl, q, hov, rfl⟩
      obtain rfl : q = readP s k := over_start (by rw [hat]; exact hov) hmem
      have e1 : pre.map aV2 ++ [[.int .i64 (k : Int)]] = (pre ++ [readP s k]).map aV2 := by simp [aV2, readP_at]
      have e3 : pre.length + 1 = (pre ++ [readP s k]).length := by simp
      have hat2 : ((readP s k).at_ : Int) = (k : Int) := by omega
      have hre2 : ((readP s k).r : Int) = ((dl (s.drop k)).1 : Int) := by omega
      (try (refine st_O18_1 ?_; intros))
      rw [hla, e1, e3]
      refine WQ.next (s.length - (k + (dl (s.drop k)).2)) ⟨k + (dl (s.drop k)).2, a9, c9, pre ++ [readP s k], m7, rfl, rfl, rfl, rfl, rfl, ?_, ?_⟩ (by omega) zsb zpk
      · rw [hpp, hwe]; simp
      · exact hle6.trans hle7
    · rw [from_nil hk, List.append_nil] at hpp
      subst hpp
      (refine st_O18_1 ?_; intros; rename_i b15)
      refine w_callF Try.func23 ?_ (hs := piecesIt_any _ _ _)
      rintro v0 m6 H0 ⟨bi, rfl, rfl, rfl⟩
      refine WL.persist (b := bi) (by (repeat (first | exact Out.here | apply Out.there))) ?_
      intro m7 hle7 hbi
      replace hle6 := hle6.trans hle7
      replace hb96 := hle7 _ _ hb96
      replace hb36 := hle7 _ _ hb36
      replace hp6 := hp6.le hle7
      obtain ⟨o, hT, ho⟩ := hp6.node
      have hseq := ropePieces_seq (b := bi) (p := .pointer (some ⟨pb, 0, none⟩)) (o := o)
      rw [ho] at hseq
      (try (refine st_O18_1 ?_; intros))
      refine WC.rangeFuncM (Hc := H) (encs := fun p : Pc => [p.v]) (xs := pieces s) (Cap := RopeIn bi (.pointer (some ⟨pb, 0, none⟩)) o) (lb := [.pointer (some ⟨bi, 0, none⟩)]) (ps := [92])
        (J := fun pre _ Hl => Hl = [.blk b15 (.cells [.int .i64 (pre.length : Int)].toArray 3 (0, 0)), .row ra ca 3 1 ((pieces s).map aV2), .blk b10 (.cells [.slice ra (pieces s).length ca].toArray 38 (0, 0)), .blk b2 (.cells [.bool false].toArray 4 (0, 0))]) (Jx := fun _ _ _ _ => False)
        rfl Try.func45 rfl rfl hseq ⟨hbi, hT⟩ (fun _ => rfl) rfl (fun _ _ _ _ h _ => h) (fun _ _ _ _ _ h _ => h) (.cons (.cons (.cons (.cons .nil)))) ?_ ?_ ?_ ?_
      · rfl
      · rintro lp pre x post hxs m8 Hl rfl hm8 Hfr hfr
        have hlen : (pieces s).length = pre.length + post.length + 1 := by rw [hxs]; simp; omega
        have hmem : x ∈ pieces s := by rw [hxs]; simp
        have hmw := mem_w hmem
        have hget : ((pieces s).map aV2)[pre.length]? = some [.int .i64 (x.at_ : Int)] := by rw [hxs]; simp [aV2]
        have hrd := pc_form hmem
        have hok := pc_okr hmem
        have hb98 := hm8 _ _ hb96
        have hb38 := hm8 _ _ hb36
        have hp8 := hp6.le hm8
        have hra1 : (runeR s (pre.length : Int)).1 = (x.at_ : Int) := by rw [runeR_at hxs]
        have hra2 : (runeR s (pre.length : Int)).2 = 0 := by rw [runeR_at hxs]
        simp only [List.cons_append, List.nil_append]
        (refine st_O18_1 ?_; intros; rename_i b16)
        refine WQ.assigned (.cons (.cons (.cons (.cons (.cons .nil))))) (Mem.le.refl _) ?_
        intro Hfr2
        simp only [List.cons_append, List.nil_append]
        refine WC.rowSome (a := ra) zhs (by omega) ?_
        rintro a0 rfl
        cases hb : x.b with
        | true =>
          obtain ⟨k1, k2⟩ := hrd.1 hb
          have hq1 : (!(x.b == dcd ((x.w : Int) = 1))) = false := by rw [hb, dcd_true (by omega)]; rfl
          have hn : (!x.b) = false := by rw [hb]; rfl
          have he : (Utf8.encode (x.r : Int)).data.toList = [239, 191, 189] := by rw [encode_eq, rn_nat hok, k1]; decide
          have hq2 : (!(true == dcd ((x.w : Int) = 1))) = false := by rw [dcd_true (by omega)]; rfl
          (try (refine st_O18_1 ?_; intros))
          refine w_callF Try.func24 ?_ (hs := rune_any _ _ _ hp8)
          rintro v m9 H9 ⟨hle9, rfl, rfl⟩
          rw [hra1, hra2]
          have hb99 := hle9 _ _ hb98
          by_cases he2 : (Utf8.encode (x.r : Int)).data.toList = (s.take (x.at_ + x.w)).drop x.at_
          all_goals
            (try (refine st_O18_1 ?_; intros))
            refine WQ.roundOn (Hl := [.blk b15 _, .row (some a0) ca 3 1 _, .blk b10 _, .blk b2 _]) zpk hle9 ?_
            simp
        | false =>
          obtain ⟨k1, k2, k3⟩ := hrd.2 hb
          have hn : (!x.b) = true := by rw [hb]; rfl
          have htx : (Utf8.encode (x.r : Int)).data.toList = (s.take (x.at_ + x.w)).drop x.at_ := by rw [encode_eq, rn_nat hok, ← k3]; rfl
          by_cases k4 : x.r = 65533
          · have hq2 : (!(false == dcd ((x.w : Int) = 1))) = false := by rw [dcd_false (by omega)]; rfl
            (try (refine st_O18_1 ?_; intros))
            refine w_callF Try.func24 ?_ (hs := rune_any _ _ _ hp8)
            rintro v m9 H9 ⟨hle9, rfl, rfl⟩
            rw [hra1, hra2]
            have hb99 := hle9 _ _ hb98
            (try (refine st_O18_1 ?_; intros))
            refine WQ.roundOn (Hl := [.blk b15 _, .row (some a0) ca 3 1 _, .blk b10 _, .blk b2 _]) zpk hle9 ?_
            simp
          · (try (refine st_O18_1 ?_; intros))
            refine w_callF Try.func24 ?_ (hs := rune_any _ _ _ hp8)
            rintro v m9 H9 ⟨hle9, rfl, rfl⟩
            rw [hra1, hra2]
            have hb99 := hle9 _ _ hb98
            (try (refine st_O18_1 ?_; intros))
            refine WQ.roundOn (Hl := [.blk b15 _, .row (some a0) ca 3 1 _, .blk b10 _, .blk b2 _]) zpk hle9 ?_
            simp
      · rintro D m8 Hl rfl hm8
        simp only [List.cons_append, List.nil_append]
        have hb98 := hm8 _ _ hb96
        have hb38 := hm8 _ _ hb36
        have hp8 := hp6.le hm8
        (try (refine st_O18_1 ?_; intros))
        refine w_callF Try.func25 ?_ (hs := count_any _ _ _ hp8)
        rintro v m9 H9 ⟨hle9, rfl, rfl⟩
        have hb99 := hle9 _ _ hb98
        (try (refine st_O18_1 ?_; intros))
        refine w_callF Try.func11 ?_ (hs := works_true (hle.trans (hle6.trans (hm8.trans hle9))))
        rintro v m10 H9 ⟨hle10, rfl, rfl⟩
        (try (refine st_O18_1 ?_; intros))
        refine WQ.heapX (H' := .blk D (.deferred (some [])) :: .blk b2 (.cells [.bool true].toArray 4 (0, 0)) :: H) zpk ?_
        refine WQ.mark (H1 := .blk b2 (.cells [.bool true].toArray 4 (0, 0)) :: H) (List.Perm.refl _) ?_
        exact q_fin0 (H0 := H) ⟨rfl, hle10⟩ (hd := zpk)
      · rintro D c pre m' Hl _ h _
        exact h.elim
end Go.Proofs.Ytljfncpecpkhhaa

