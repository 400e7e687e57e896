/-
  Parts of a walk, joined: D14 D15 D16 D17 EngMD D18 DT8 D19 EngME EngMF EngMR DT14 D52. No condition.
-/
import Derived.Test.YtgckeelnhafgaaaP4
import Derived.Test.YtgckeelnhafgaaaP6
import Derived.Test.YtgckeelnhafgaaaP5
import Derived.Maps.RangeRun
set_option linter.all false
/-
  The walk of draft.Weave's side. No condition.
-/
namespace Go.Eng
open Go Go.RowKit
theorem Does.gives_memD {P : Program} {w0 : World} {m : Mem} {H : SHeap} {f : FuncId} {args : Array Value} {v : Value} {i : Item} (hm : i ∈ H) (h : ∀ H1, Does P f args w0 m (i :: H1) (Gives v m (i :: H1))) : Does P f args w0 m H (Gives v m H) := by
  intro w hs
  obtain ⟨H1, hp⟩ := hs.at_ hm
  refine (h H1 w (hs.perm hp)).mono ?_
  rintro e w' ⟨v', m', H', he, ⟨rfl, rfl, rfl⟩, hs'⟩
  exact ⟨_, _, _, he, ⟨rfl, rfl, rfl⟩, hs'.perm hp.symm⟩
/-- conflicts' cells -/
def cfs (l : List Cf) : List (List Value) := l.map Cf.cs
theorem cfs_length (l : List Cf) : (cfs l).length = l.length := List.length_map _
end Go.Eng
namespace Go.Proofs.Ytgckeelnhafgaaa
open Go Go.Eng
set_option maxRecDepth 100000
set_option maxHeartbeats 4000000
set_option linter.all false
attribute [local irreducible] WL WC WQ QFun QLoop Does Q1 QRound QAssign Go.Addr.add
theorem bLen_mem {b cap : Nat} {ao a : Option Addr} {t : List UInt8} {w0 : World} {m : Mem} {H : SHeap} (hm : Eng.Item.blk b (.cells [.pointer ao, .slice a t.length cap].toArray 97 (0, 0)) ∈ H) :
    Does Try.prog 34 #[.pointer (some ⟨b, 0, none⟩)] w0 m H (Gives (.int .i64 (t.length : Int)) m H) := Does.gives_memD hm fun H1 => bLen_any w0 m H1
attribute [local irreducible] jn strs bCs cfs
theorem sq_D14_1 {G : Prop} (h : G := by (repeat (first | (refine sp ?_; (repeat intro zzc)) | (refine WL.append1 (by':=64) rfl rfl rfl rfl (by (repeat (first | exact Out.here | apply Out.there))) zhs (by exact rfl) (by exact rfl) (by exact rfl) (by exact rfl) (by exact rfl) (by exact rfl) (by first | exact rfl | omega) (by first | omega | (simp; omega)) (by decide) (by exact rfl) ?_; intro zzc zzc) | (refine WL.indexAddrA rfl rfl (by (first | with_reducible exact natz _ | with_reducible exact natz0 | with_reducible exact natz1 | with_reducible exact natz2 | with_reducible exact natz3 | with_reducible exact natz4 | with_reducible exact natz8 | (apply natz_add; (· first | with_reducible exact natz _ | with_reducible exact natz0 | with_reducible exact natz1 | with_reducible exact natz2 | with_reducible exact natz3 | with_reducible exact natz4 | with_reducible exact natz8); (· first | with_reducible exact natz _ | with_reducible exact natz0 | with_reducible exact natz1 | with_reducible exact natz2 | with_reducible exact natz3 | with_reducible exact natz4 | with_reducible exact natz8)) | (apply natz_sub; (· first | with_reducible exact natz _ | with_reducible exact natz0 | with_reducible exact natz1 | with_reducible exact natz2 | with_reducible exact natz3 | with_reducible exact natz4 | with_reducible exact natz8); (· first | with_reducible exact natz _ | with_reducible exact natz0 | with_reducible exact natz1 | with_reducible exact natz2 | with_reducible exact natz3 | with_reducible exact natz4 | with_reducible exact natz8); (· omega)) | exact (Int.toNat_of_nonneg (by omega)).symm)) rfl rfl (by omega) rfl rfl ?_))); exact WQ.q1 rfl) : G := h
theorem cm_D14_1 {G G' : Prop} (next : G') (h : Bx G' → G := by intro zzn; (try (refine wcal 0 ?_ (hwl := by intro zm zF zle; exact sq_D14_1))); (try (refine wcal 1 ?_ (hwl := by intro zm zF zle; exact sq_D14_1))); (try (refine wcal 2 ?_ (hwl := by intro zm zF zle; exact sq_D14_1))); (try (refine wcal 3 ?_ (hwl := by intro zm zF zle; exact sq_D14_1))); (try (refine wcal 4 ?_ (hwl := by intro zm zF zle; exact sq_D14_1))); (try (refine wcal 5 ?_ (hwl := by intro zm zF zle; exact sq_D14_1))); (try (refine wcal 6 ?_ (hwl := by intro zm zF zle; exact sq_D14_1))); (try (refine wcal 7 ?_ (hwl := by intro zm zF zle; exact sq_D14_1))); (try (refine wcal 8 ?_ (hwl := by intro zm zF zle; exact sq_D14_1))); (try (refine wcal 9 ?_ (hwl := by intro zm zF zle; exact sq_D14_1))); (try (refine wcal 10 ?_ (hwl := by intro zm zF zle; exact sq_D14_1))); (try (refine wcal 11 ?_ (hwl := by intro zm zF zle; exact sq_D14_1))); (try (refine wcal 12 ?_ (hwl := by intro zm zF zle; exact sq_D14_1))); (try (refine wcal 13 ?_ (hwl := by intro zm zF zle; exact sq_D14_1))); (try (refine wcal 14 ?_ (hwl := by intro zm zF zle; exact sq_D14_1))); (try (refine wcal 15 ?_ (hwl := by intro zm zF zle; exact sq_D14_1))); (try (refine wcal 16 ?_ (hwl := by intro zm zF zle; exact sq_D14_1))); (try (refine wcal 17 ?_ (hwl := by intro zm zF zle; exact sq_D14_1))); (try (refine wcal 18 ?_ (hwl := by intro zm zF zle; exact sq_D14_1))); (try (refine wcal 19 ?_ (hwl := by intro zm zF zle; exact sq_D14_1))); (try (refine wcal 20 ?_ (hwl := by intro zm zF zle; exact sq_D14_1))); (try (refine wcal 21 ?_ (hwl := by intro zm zF zle; exact sq_D14_1))); (try (refine wcal 22 ?_ (hwl := by intro zm zF zle; exact sq_D14_1))); (try (refine wcal 23 ?_ (hwl := by intro zm zF zle; exact sq_D14_1))); (try (refine wcal 24 ?_ (hwl := by intro zm zF zle; exact sq_D14_1))); (try (refine wcal 25 ?_ (hwl := by intro zm zF zle; exact sq_D14_1))); (try (refine wcal 26 ?_ (hwl := by intro zm zF zle; exact sq_D14_1))); (try (refine wcal 27 ?_ (hwl := by intro zm zF zle; exact sq_D14_1))); (try (refine wcal 28 ?_ (hwl := by intro zm zF zle; exact sq_D14_1))); (try (refine wcal 29 ?_ (hwl := by intro zm zF zle; exact sq_D14_1))); (try (refine wcal 30 ?_ (hwl := by intro zm zF zle; exact sq_D14_1))); (try (refine wcal 31 ?_ (hwl := by intro zm zF zle; exact sq_D14_1))); (try (refine wcal 32 ?_ (hwl := by intro zm zF zle; exact sq_D14_1))); (try (refine wcal 33 ?_ (hwl := by intro zm zF zle; exact sq_D14_1))); (try (refine wcal 34 ?_ (hwl := by intro zm zF zle; exact sq_D14_1))); (try (refine wcal 35 ?_ (hwl := by intro zm zF zle; exact sq_D14_1))); (try (refine wcal 36 ?_ (hwl := by intro zm zF zle; exact sq_D14_1))); (try (refine wcal 37 ?_ (hwl := by intro zm zF zle; exact sq_D14_1))); (try (refine wcal 38 ?_ (hwl := by intro zm zF zle; exact sq_D14_1))); (try (refine wcal 39 ?_ (hwl := by intro zm zF zle; exact sq_D14_1))); (try (refine wcal 40 ?_ (hwl := by intro zm zF zle; exact sq_D14_1))); (try (refine wcal 41 ?_ (hwl := by intro zm zF zle; exact sq_D14_1))); exact zzn.out) : G := h ⟨next⟩
theorem st_D14_1 {G G' : Prop} (next : G') (h : Bx G' → G := by intro zzn; (first | ((refine st ?_; (repeat intro zzc)); (try ((first | (refine WL.append1 (by':=64) rfl rfl rfl rfl (by (repeat (first | exact Out.here | apply Out.there))) zhs (by exact rfl) (by exact rfl) (by exact rfl) (by exact rfl) (by exact rfl) (by exact rfl) (by first | exact rfl | omega) (by first | omega | (simp; omega)) (by decide) (by exact rfl) ?_; intro zzc zzc) | (refine WL.indexAddrA rfl rfl (by (first | with_reducible exact natz _ | with_reducible exact natz0 | with_reducible exact natz1 | with_reducible exact natz2 | with_reducible exact natz3 | with_reducible exact natz4 | with_reducible exact natz8 | (apply natz_add; (· first | with_reducible exact natz _ | with_reducible exact natz0 | with_reducible exact natz1 | with_reducible exact natz2 | with_reducible exact natz3 | with_reducible exact natz4 | with_reducible exact natz8); (· first | with_reducible exact natz _ | with_reducible exact natz0 | with_reducible exact natz1 | with_reducible exact natz2 | with_reducible exact natz3 | with_reducible exact natz4 | with_reducible exact natz8)) | (apply natz_sub; (· first | with_reducible exact natz _ | with_reducible exact natz0 | with_reducible exact natz1 | with_reducible exact natz2 | with_reducible exact natz3 | with_reducible exact natz4 | with_reducible exact natz8); (· first | with_reducible exact natz _ | with_reducible exact natz0 | with_reducible exact natz1 | with_reducible exact natz2 | with_reducible exact natz3 | with_reducible exact natz4 | with_reducible exact natz8); (· omega)) | exact (Int.toNat_of_nonneg (by omega)).symm)) rfl rfl (by omega) rfl rfl ?_) | ((refine iDraw ?_; (first | refine WC.drawAll rfl (by decide +kernel) ?_ | refine WC.draw 1 rfl (by decide +kernel) ?_ | refine WC.draw 2 rfl (by decide +kernel) ?_ | refine WC.draw 3 rfl (by decide +kernel) ?_ | refine WC.draw 4 rfl (by decide +kernel) ?_ | refine WC.draw 5 rfl (by decide +kernel) ?_ | refine WC.draw 6 rfl (by decide +kernel) ?_ | refine WC.draw 7 rfl (by decide +kernel) ?_ | refine WC.draw 8 rfl (by decide +kernel) ?_ | refine WC.draw 9 rfl (by decide +kernel) ?_ | refine WC.draw 10 rfl (by decide +kernel) ?_ | refine WC.draw 11 rfl (by decide +kernel) ?_ | refine WC.draw 12 rfl (by decide +kernel) ?_ | refine WC.draw 13 rfl (by decide +kernel) ?_ | refine WC.draw 14 rfl (by decide +kernel) ?_ | refine WC.draw 15 rfl (by decide +kernel) ?_ | refine WC.draw 16 rfl (by decide +kernel) ?_ | refine WC.draw 17 rfl (by decide +kernel) ?_ | refine WC.draw 18 rfl (by decide +kernel) ?_ | refine WC.draw 19 rfl (by decide +kernel) ?_ | refine WC.draw 20 rfl (by decide +kernel) ?_ | refine WC.draw 21 rfl (by decide +kernel) ?_ | refine WC.draw 22 rfl (by decide +kernel) ?_ | refine WC.draw 23 rfl (by decide +kernel) ?_ | refine WC.draw 24 rfl (by decide +kernel) ?_)); (repeat (refine WD.cons rfl (fun c h => by cases h) sq_D14_1 ?_)); refine WD.nil ?_)); (try (refine st ?_; (repeat intro zzc)))))) | ((first | (refine WL.append1 (by':=64) rfl rfl rfl rfl (by (repeat (first | exact Out.here | apply Out.there))) zhs (by exact rfl) (by exact rfl) (by exact rfl) (by exact rfl) (by exact rfl) (by exact rfl) (by first | exact rfl | omega) (by first | omega | (simp; omega)) (by decide) (by exact rfl) ?_; intro zzc zzc) | (refine WL.indexAddrA rfl rfl (by (first | with_reducible exact natz _ | with_reducible exact natz0 | with_reducible exact natz1 | with_reducible exact natz2 | with_reducible exact natz3 | with_reducible exact natz4 | with_reducible exact natz8 | (apply natz_add; (· first | with_reducible exact natz _ | with_reducible exact natz0 | with_reducible exact natz1 | with_reducible exact natz2 | with_reducible exact natz3 | with_reducible exact natz4 | with_reducible exact natz8); (· first | with_reducible exact natz _ | with_reducible exact natz0 | with_reducible exact natz1 | with_reducible exact natz2 | with_reducible exact natz3 | with_reducible exact natz4 | with_reducible exact natz8)) | (apply natz_sub; (· first | with_reducible exact natz _ | with_reducible exact natz0 | with_reducible exact natz1 | with_reducible exact natz2 | with_reducible exact natz3 | with_reducible exact natz4 | with_reducible exact natz8); (· first | with_reducible exact natz _ | with_reducible exact natz0 | with_reducible exact natz1 | with_reducible exact natz2 | with_reducible exact natz3 | with_reducible exact natz4 | with_reducible exact natz8); (· omega)) | exact (Int.toNat_of_nonneg (by omega)).symm)) rfl rfl (by omega) rfl rfl ?_) | ((refine iDraw ?_; (first | refine WC.drawAll rfl (by decide +kernel) ?_ | refine WC.draw 1 rfl (by decide +kernel) ?_ | refine WC.draw 2 rfl (by decide +kernel) ?_ | refine WC.draw 3 rfl (by decide +kernel) ?_ | refine WC.draw 4 rfl (by decide +kernel) ?_ | refine WC.draw 5 rfl (by decide +kernel) ?_ | refine WC.draw 6 rfl (by decide +kernel) ?_ | refine WC.draw 7 rfl (by decide +kernel) ?_ | refine WC.draw 8 rfl (by decide +kernel) ?_ | refine WC.draw 9 rfl (by decide +kernel) ?_ | refine WC.draw 10 rfl (by decide +kernel) ?_ | refine WC.draw 11 rfl (by decide +kernel) ?_ | refine WC.draw 12 rfl (by decide +kernel) ?_ | refine WC.draw 13 rfl (by decide +kernel) ?_ | refine WC.draw 14 rfl (by decide +kernel) ?_ | refine WC.draw 15 rfl (by decide +kernel) ?_ | refine WC.draw 16 rfl (by decide +kernel) ?_ | refine WC.draw 17 rfl (by decide +kernel) ?_ | refine WC.draw 18 rfl (by decide +kernel) ?_ | refine WC.draw 19 rfl (by decide +kernel) ?_ | refine WC.draw 20 rfl (by decide +kernel) ?_ | refine WC.draw 21 rfl (by decide +kernel) ?_ | refine WC.draw 22 rfl (by decide +kernel) ?_ | refine WC.draw 23 rfl (by decide +kernel) ?_ | refine WC.draw 24 rfl (by decide +kernel) ?_)); (repeat (refine WD.cons rfl (fun c h => by cases h) sq_D14_1 ?_)); refine WD.nil ?_)); (try (refine st ?_; (repeat intro zzc))))); (repeat ((first | (refine WL.append1 (by':=64) rfl rfl rfl rfl (by (repeat (first | exact Out.here | apply Out.there))) zhs (by exact rfl) (by exact rfl) (by exact rfl) (by exact rfl) (by exact rfl) (by exact rfl) (by first | exact rfl | omega) (by first | omega | (simp; omega)) (by decide) (by exact rfl) ?_; intro zzc zzc) | (refine WL.indexAddrA rfl rfl (by (first | with_reducible exact natz _ | with_reducible exact natz0 | with_reducible exact natz1 | with_reducible exact natz2 | with_reducible exact natz3 | with_reducible exact natz4 | with_reducible exact natz8 | (apply natz_add; (· first | with_reducible exact natz _ | with_reducible exact natz0 | with_reducible exact natz1 | with_reducible exact natz2 | with_reducible exact natz3 | with_reducible exact natz4 | with_reducible exact natz8); (· first | with_reducible exact natz _ | with_reducible exact natz0 | with_reducible exact natz1 | with_reducible exact natz2 | with_reducible exact natz3 | with_reducible exact natz4 | with_reducible exact natz8)) | (apply natz_sub; (· first | with_reducible exact natz _ | with_reducible exact natz0 | with_reducible exact natz1 | with_reducible exact natz2 | with_reducible exact natz3 | with_reducible exact natz4 | with_reducible exact natz8); (· first | with_reducible exact natz _ | with_reducible exact natz0 | with_reducible exact natz1 | with_reducible exact natz2 | with_reducible exact natz3 | with_reducible exact natz4 | with_reducible exact natz8); (· omega)) | exact (Int.toNat_of_nonneg (by omega)).symm)) rfl rfl (by omega) rfl rfl ?_) | ((refine iDraw ?_; (first | refine WC.drawAll rfl (by decide +kernel) ?_ | refine WC.draw 1 rfl (by decide +kernel) ?_ | refine WC.draw 2 rfl (by decide +kernel) ?_ | refine WC.draw 3 rfl (by decide +kernel) ?_ | refine WC.draw 4 rfl (by decide +kernel) ?_ | refine WC.draw 5 rfl (by decide +kernel) ?_ | refine WC.draw 6 rfl (by decide +kernel) ?_ | refine WC.draw 7 rfl (by decide +kernel) ?_ | refine WC.draw 8 rfl (by decide +kernel) ?_ | refine WC.draw 9 rfl (by decide +kernel) ?_ | refine WC.draw 10 rfl (by decide +kernel) ?_ | refine WC.draw 11 rfl (by decide +kernel) ?_ | refine WC.draw 12 rfl (by decide +kernel) ?_ | refine WC.draw 13 rfl (by decide +kernel) ?_ | refine WC.draw 14 rfl (by decide +kernel) ?_ | refine WC.draw 15 rfl (by decide +kernel) ?_ | refine WC.draw 16 rfl (by decide +kernel) ?_ | refine WC.draw 17 rfl (by decide +kernel) ?_ | refine WC.draw 18 rfl (by decide +kernel) ?_ | refine WC.draw 19 rfl (by decide +kernel) ?_ | refine WC.draw 20 rfl (by decide +kernel) ?_ | refine WC.draw 21 rfl (by decide +kernel) ?_ | refine WC.draw 22 rfl (by decide +kernel) ?_ | refine WC.draw 23 rfl (by decide +kernel) ?_ | refine WC.draw 24 rfl (by decide +kernel) ?_)); (repeat (refine WD.cons rfl (fun c h => by cases h) sq_D14_1 ?_)); refine WD.nil ?_)); (try (refine st ?_; (repeat intro zzc))))); (repeat revert zzc); exact zzn.out) : G := h ⟨next⟩
theorem side_any {X Y Z : List Tx} {w : Wv} {bx by_ bz bat bl bb cx cy cz cl cb n k1 k2 : Nat} {ax ay az al ao ab : Option Addr} {w0 : World} {m : Mem} {H : SHeap}
    (hX : X.length ≤ 4194304 ∧ X.flatten.length ≤ 4194304 ∧ X.length ≤ cx) (hY : Y.length ≤ 4194304 ∧ Y.flatten.length ≤ 4194304 ∧ Y.length ≤ cy) (hZ : Z.length ≤ 4194304 ∧ Z.flatten.length ≤ 4194304 ∧ Z.length ≤ cz)
    (hn : w.p ≤ n ∧ n ≤ X.length) (hk1 : w.q ≤ k1 ∧ k1 ≤ Y.length) (hk2 : w.r ≤ k2 ∧ k2 ≤ Z.length) (ho : w.out.length ≤ 1099511627776) (hL : w.l.length ≤ 4194304) (hao : ao = none ∨ ao = some ⟨bb, 0, none⟩) (hab : ab = none ∨ 0 < cb) :
    Does Try.prog 32 #[.int .i64 (n : Int), .int .i64 (k1 : Int), .int .i64 (k2 : Int), .pointer (some ⟨bx, 0, none⟩), .pointer (some ⟨bat, 0, none⟩), .pointer (some ⟨by_, 0, none⟩), .pointer (some ⟨bz, 0, none⟩), .pointer (some ⟨bl, 0, none⟩), .pointer (some ⟨bb, 0, none⟩)] w0 m
      ([.blk bx (.cells [.slice ax X.length cx].toArray 26 (0, 0)), .row ax cx 9 1 (strs X), .blk by_ (.cells [.slice ay Y.length cy].toArray 26 (0, 0)), .row ay cy 9 1 (strs Y), .blk bz (.cells [.slice az Z.length cz].toArray 26 (0, 0)), .row az cz 9 1 (strs Z), .blk bat (.cells [.int .i64 (w.p : Int), .int .i64 (w.q : Int), .int .i64 (w.r : Int)].toArray 98 (0, 0)), .blk bl (.cells [.slice al w.l.length cl].toArray 50 (0, 0)), .row al cl 101 5 (cfs w.l), .blk bb (.cells [.pointer ao, .slice ab w.out.length cb].toArray 97 (0, 0)), .row ab cb 5 1 (bCs w.out)] ++ H)
      (fun _ m' H' => m' = m ∧ ∃ (al2 : Option Addr) (cl2 : Nat) (ao2 ab2 : Option Addr) (cb2 : Nat), (ao2 = none ∨ ao2 = some ⟨bb, 0, none⟩) ∧ (ab2 = none ∨ 0 < cb2) ∧
        H' = [.blk bx (.cells [.slice ax X.length cx].toArray 26 (0, 0)), .row ax cx 9 1 (strs X), .blk by_ (.cells [.slice ay Y.length cy].toArray 26 (0, 0)), .row ay cy 9 1 (strs Y), .blk bz (.cells [.slice az Z.length cz].toArray 26 (0, 0)), .row az cz 9 1 (strs Z), .blk bat (.cells [.int .i64 ((w.side X Y Z n k1 k2).p : Int), .int .i64 ((w.side X Y Z n k1 k2).q : Int), .int .i64 ((w.side X Y Z n k1 k2).r : Int)].toArray 98 (0, 0)), .blk bl (.cells [.slice al2 (w.side X Y Z n k1 k2).l.length cl2].toArray 50 (0, 0)), .row al2 cl2 101 5 (cfs (w.side X Y Z n k1 k2).l),
          .blk bb (.cells [.pointer ao2, .slice ab2 (w.side X Y Z n k1 k2).out.length cb2].toArray 97 (0, 0)), .row ab2 cb2 5 1 (bCs (w.side X Y Z n k1 k2).out)] ++ H) := by
  refine Does.of_body Try.func32 rfl Try.ntmps32 rfl ?_
  simp only [List.cons_append, List.nil_append]
  have hja := jn_le X w.p n
  have hjb := jn_le Y w.q k1
  have hjc := jn_le Z w.r k2
  (try (refine st_D14_1 ?_; intros))
  refine WC.drawE 18 ([.blk bx (.cells [.slice ax X.length cx].toArray 26 (0, 0)), .row ax cx 9 1 (strs X), .blk by_ (.cells [.slice ay Y.length cy].toArray 26 (0, 0)), .row ay cy 9 1 (strs Y), .blk bz (.cells [.slice az Z.length cz].toArray 26 (0, 0)), .row az cz 9 1 (strs Z), .blk bat (.cells [.int .i64 (w.p : Int), .int .i64 (w.q : Int), .int .i64 (w.r : Int)].toArray 98 (0, 0))]) (.blk bl (.cells [.slice al w.l.length cl].toArray 50 (0, 0)) :: .row al cl 101 5 (cfs w.l) :: .blk bb (.cells [.pointer ao, .slice ab w.out.length cb].toArray 97 (0, 0)) :: .row ab cb 5 1 (bCs w.out) :: H) rfl (by decide +kernel) zpk ?_
  (refine cm_D14_1 ?_)
  (refine WE.calm 5 (by decide +kernel) rfl rfl (by decide +kernel) rfl (fun c h => by cases h) (by intro zm zF zle; refine w_callF Try.func33 ?_ (hs := joinSub_any (l := X) zhs hn (by omega) (by omega)); rintro _ _ _ ⟨rfl, rfl, rfl⟩; exact sq_D14_1) ?_)
  (refine WE.calm 11 (by decide +kernel) rfl rfl (by decide +kernel) rfl (fun c h => by cases h) (by intro zm zF zle; refine w_callF Try.func33 ?_ (hs := joinSub_any (l := Y) zhs hk1 (by omega) (by omega)); rintro _ _ _ ⟨rfl, rfl, rfl⟩; exact sq_D14_1) ?_)
  (refine WE.calm 17 (by decide +kernel) rfl rfl (by decide +kernel) rfl (fun c h => by cases h) (by intro zm zF zle; refine w_callF Try.func33 ?_ (hs := joinSub_any (l := Z) zhs hk2 (by omega) (by omega)); rintro _ _ _ ⟨rfl, rfl, rfl⟩; exact sq_D14_1) ?_)
  refine WE.done (by decide +kernel) ?_
  have hn1 : (n : Int) + 1 = ((n + 1 : Nat) : Int) := by omega
  have hk11 : (k1 : Int) + 1 = ((k1 + 1 : Nat) : Int) := by omega
  have hk21 : (k2 : Int) + 1 = ((k2 + 1 : Nat) : Int) := by omega
  have hcf := cfs_length w.l
  have hside : w.side X Y Z n k1 k2 = ⟨w.out ++ sideT (jn X w.p n) (jn Y w.q k1) (jn Z w.r k2), w.l ++ sideC w.out.length (jn X w.p n) (jn Y w.q k1) (jn Z w.r k2), n + 1, k1 + 1, k2 + 1⟩ := rfl
  generalize jn X w.p n = tO at *
  generalize jn Y w.q k1 = tA at *
  generalize jn Z w.r k2 = tC at *
  by_cases h1 : tC = tO
  · have hW : w.side X Y Z n k1 k2 = ⟨w.out ++ tA, w.l, n + 1, k1 + 1, k2 + 1⟩ := by rw [hside, show sideT tO tA tC = tA from if_neg (fun g => g.1 h1), show sideC w.out.length tO tA tC = [] from if_neg (fun g => g.1 h1), List.append_nil]
    (try (refine st_D14_1 ?_; intros))
    refine WL.heap (H' := .blk bb (.cells [.pointer ao, .slice ab w.out.length cb].toArray 97 (0, 0)) :: .row ab cb 5 1 (bCs w.out) :: ([.blk bx (.cells [.slice ax X.length cx].toArray 26 (0, 0)), .row ax cx 9 1 (strs X), .blk by_ (.cells [.slice ay Y.length cy].toArray 26 (0, 0)), .row ay cy 9 1 (strs Y), .blk bz (.cells [.slice az Z.length cz].toArray 26 (0, 0)), .row az cz 9 1 (strs Z), .blk bat (.cells [.int .i64 ((n : Int) + 1), .int .i64 ((k1 : Int) + 1), .int .i64 ((k2 : Int) + 1)].toArray 98 (0, 0)), .blk bl (.cells [.slice al w.l.length cl].toArray 50 (0, 0)), .row al cl 101 5 (cfs w.l)] ++ H)) zpk ?_
    refine w_callF Try.func35 ?_ (hs := writeString_any hao hab (by unfold FitsB; omega) _ _ _)
    rintro v m9 H9 ⟨rfl, rfl, ao2, ab2, cb2, hao2, hab2, rfl⟩
    (try (refine st_D14_1 ?_; intros))
    rw [hW, hn1, hk11, hk21]
    exact q_finNorm0 (H0 := [.blk bx (.cells [.slice ax X.length cx].toArray 26 (0, 0)), .row ax cx 9 1 (strs X), .blk by_ (.cells [.slice ay Y.length cy].toArray 26 (0, 0)), .row ay cy 9 1 (strs Y), .blk bz (.cells [.slice az Z.length cz].toArray 26 (0, 0)), .row az cz 9 1 (strs Z), .blk bat (.cells [.int .i64 ((n + 1 : Nat) : Int), .int .i64 ((k1 + 1 : Nat) : Int), .int .i64 ((k2 + 1 : Nat) : Int)].toArray 98 (0, 0)), .blk bl (.cells [.slice al w.l.length cl].toArray 50 (0, 0)), .row al cl 101 5 (cfs w.l), .blk bb (.cells [.pointer ao2, .slice ab2 (w.out ++ tA).length cb2].toArray 97 (0, 0)), .row ab2 cb2 5 1 (bCs (w.out ++ tA))] ++ H) ⟨rfl, al, cl, ao2, ab2, cb2, hao2, hab2, rfl⟩ (hd := zpk)
  by_cases h2 : tA = tO
  · have hW : w.side X Y Z n k1 k2 = ⟨w.out ++ tC, w.l, n + 1, k1 + 1, k2 + 1⟩ := by rw [hside, show sideT tO tA tC = tC from if_pos ⟨h1, h2⟩, show sideC w.out.length tO tA tC = [] from if_neg (fun g => g.2.1 h2), List.append_nil]
    (try (refine st_D14_1 ?_; intros))
    refine WL.heap (H' := .blk bb (.cells [.pointer ao, .slice ab w.out.length cb].toArray 97 (0, 0)) :: .row ab cb 5 1 (bCs w.out) :: ([.blk bx (.cells [.slice ax X.length cx].toArray 26 (0, 0)), .row ax cx 9 1 (strs X), .blk by_ (.cells [.slice ay Y.length cy].toArray 26 (0, 0)), .row ay cy 9 1 (strs Y), .blk bz (.cells [.slice az Z.length cz].toArray 26 (0, 0)), .row az cz 9 1 (strs Z), .blk bat (.cells [.int .i64 ((n : Int) + 1), .int .i64 ((k1 : Int) + 1), .int .i64 ((k2 : Int) + 1)].toArray 98 (0, 0)), .blk bl (.cells [.slice al w.l.length cl].toArray 50 (0, 0)), .row al cl 101 5 (cfs w.l)] ++ H)) zpk ?_
    refine w_callF Try.func35 ?_ (hs := writeString_any hao hab (by unfold FitsB; omega) _ _ _)
    rintro v m9 H9 ⟨rfl, rfl, ao2, ab2, cb2, hao2, hab2, rfl⟩
    (try (refine st_D14_1 ?_; intros))
    rw [hW, hn1, hk11, hk21]
    exact q_finNorm0 (H0 := [.blk bx (.cells [.slice ax X.length cx].toArray 26 (0, 0)), .row ax cx 9 1 (strs X), .blk by_ (.cells [.slice ay Y.length cy].toArray 26 (0, 0)), .row ay cy 9 1 (strs Y), .blk bz (.cells [.slice az Z.length cz].toArray 26 (0, 0)), .row az cz 9 1 (strs Z), .blk bat (.cells [.int .i64 ((n + 1 : Nat) : Int), .int .i64 ((k1 + 1 : Nat) : Int), .int .i64 ((k2 + 1 : Nat) : Int)].toArray 98 (0, 0)), .blk bl (.cells [.slice al w.l.length cl].toArray 50 (0, 0)), .row al cl 101 5 (cfs w.l), .blk bb (.cells [.pointer ao2, .slice ab2 (w.out ++ tC).length cb2].toArray 97 (0, 0)), .row ab2 cb2 5 1 (bCs (w.out ++ tC))] ++ H) ⟨rfl, al, cl, ao2, ab2, cb2, hao2, hab2, rfl⟩ (hd := zpk)
  by_cases h3 : tA = tC
  · have hW : w.side X Y Z n k1 k2 = ⟨w.out ++ tA, w.l, n + 1, k1 + 1, k2 + 1⟩ := by rw [hside, show sideT tO tA tC = tA from if_neg (fun g => h2 g.2), show sideC w.out.length tO tA tC = [] from if_neg (fun g => g.2.2 h3), List.append_nil]
    (try (refine st_D14_1 ?_; intros))
    refine WL.heap (H' := .blk bb (.cells [.pointer ao, .slice ab w.out.length cb].toArray 97 (0, 0)) :: .row ab cb 5 1 (bCs w.out) :: ([.blk bx (.cells [.slice ax X.length cx].toArray 26 (0, 0)), .row ax cx 9 1 (strs X), .blk by_ (.cells [.slice ay Y.length cy].toArray 26 (0, 0)), .row ay cy 9 1 (strs Y), .blk bz (.cells [.slice az Z.length cz].toArray 26 (0, 0)), .row az cz 9 1 (strs Z), .blk bat (.cells [.int .i64 ((n : Int) + 1), .int .i64 ((k1 : Int) + 1), .int .i64 ((k2 : Int) + 1)].toArray 98 (0, 0)), .blk bl (.cells [.slice al w.l.length cl].toArray 50 (0, 0)), .row al cl 101 5 (cfs w.l)] ++ H)) zpk ?_
    refine w_callF Try.func35 ?_ (hs := writeString_any hao hab (by unfold FitsB; omega) _ _ _)
    rintro v m9 H9 ⟨rfl, rfl, ao2, ab2, cb2, hao2, hab2, rfl⟩
    (try (refine st_D14_1 ?_; intros))
    rw [hW, hn1, hk11, hk21]
    exact q_finNorm0 (H0 := [.blk bx (.cells [.slice ax X.length cx].toArray 26 (0, 0)), .row ax cx 9 1 (strs X), .blk by_ (.cells [.slice ay Y.length cy].toArray 26 (0, 0)), .row ay cy 9 1 (strs Y), .blk bz (.cells [.slice az Z.length cz].toArray 26 (0, 0)), .row az cz 9 1 (strs Z), .blk bat (.cells [.int .i64 ((n + 1 : Nat) : Int), .int .i64 ((k1 + 1 : Nat) : Int), .int .i64 ((k2 + 1 : Nat) : Int)].toArray 98 (0, 0)), .blk bl (.cells [.slice al w.l.length cl].toArray 50 (0, 0)), .row al cl 101 5 (cfs w.l), .blk bb (.cells [.pointer ao2, .slice ab2 (w.out ++ tA).length cb2].toArray 97 (0, 0)), .row ab2 cb2 5 1 (bCs (w.out ++ tA))] ++ H) ⟨rfl, al, cl, ao2, ab2, cb2, hao2, hab2, rfl⟩ (hd := zpk)
  · have hW : w.side X Y Z n k1 k2 = ⟨w.out ++ tA, w.l ++ [⟨w.out.length, w.out.length + tA.length, tO, tA, tC⟩], n + 1, k1 + 1, k2 + 1⟩ := by rw [hside, show sideT tO tA tC = tA from if_neg (fun g => h2 g.2), show sideC w.out.length tO tA tC = [⟨w.out.length, w.out.length + tA.length, tO, tA, tC⟩] from if_pos ⟨h1, h2, h3⟩]
    (try (refine st_D14_1 ?_; intros))
    refine WC.drawE 13 ([.blk bx (.cells [.slice ax X.length cx].toArray 26 (0, 0)), .row ax cx 9 1 (strs X), .blk by_ (.cells [.slice ay Y.length cy].toArray 26 (0, 0)), .row ay cy 9 1 (strs Y), .blk bz (.cells [.slice az Z.length cz].toArray 26 (0, 0)), .row az cz 9 1 (strs Z), .blk bat (.cells [.int .i64 ((n : Int) + 1), .int .i64 ((k1 : Int) + 1), .int .i64 ((k2 : Int) + 1)].toArray 98 (0, 0)), .blk bl (.cells [.slice al w.l.length cl].toArray 50 (0, 0)), .blk bb (.cells [.pointer ao, .slice ab w.out.length cb].toArray 97 (0, 0))]) (.row al cl 101 5 (cfs w.l) :: .row ab cb 5 1 (bCs w.out) :: H) rfl (by decide +kernel) zpk ?_
    (refine cm_D14_1 ?_)
    (refine WE.calm 1 (by decide +kernel) rfl rfl (by decide +kernel) rfl (fun c h => by cases h) (by intro zm zF zle; refine w_callF Try.func34 ?_ (hs := bLen_mem zhs); rintro _ _ _ ⟨rfl, rfl, rfl⟩; exact sq_D14_1) ?_)
    (refine WE.calm 2 (by decide +kernel) rfl rfl (by decide +kernel) rfl (fun c h => by cases h) (by intro zm zF zle; refine w_callF Try.func34 ?_ (hs := bLen_mem zhs); rintro _ _ _ ⟨rfl, rfl, rfl⟩; exact sq_D14_1) ?_)
    (refine cm_D14_1 ?_)
    refine WE.act1 11 (by decide +kernel) rfl rfl (fun c h => by cases h) ?_
    (refine st_D14_1 ?_; intros; rename_i b9)
    refine WQ.acted (B := [.blk b9 (.cells [.int .i64 (w.out.length : Int), .int .i64 ((w.out.length : Int) + (tA.length : Int)), str tO, str tA, str tC].toArray 101 (0, 0))]) (U := .row al cl 101 5 (cfs w.l) :: .row ab cb 5 1 (bCs w.out) :: H) rfl (Mem.le.refl _) zpk ?_
    (refine cm_D14_1 ?_)
    refine WE.act1 12 (by decide +kernel) rfl rfl (fun c h => by cases h) ?_
    (refine st_D14_1 ?_; intros; rename_i al2 cl2)
    rw [hcf]
    refine WQ.acted (B := []) (U := .row al2 cl2 101 5 (cfs w.l ++ [[.int .i64 (w.out.length : Int), .int .i64 ((w.out.length : Int) + (tA.length : Int)), str tO, str tA, str tC]]) :: .row ab cb 5 1 (bCs w.out) :: H) rfl (Mem.le.refl _) zpk ?_
    refine WE.done (by decide +kernel) ?_
    have hll : w.l.length + 1 = (w.l ++ [(⟨w.out.length, w.out.length + tA.length, tO, tA, tC⟩ : Cf)]).length := by simp
    have hlc : cfs w.l ++ [[.int .i64 (w.out.length : Int), .int .i64 ((w.out.length : Int) + (tA.length : Int)), str tO, str tA, str tC]] = cfs (w.l ++ [⟨w.out.length, w.out.length + tA.length, tO, tA, tC⟩]) := by
      unfold cfs
      rw [List.map_append]
      simp [Cf.cs]
    (try (refine st_D14_1 ?_; intros))
    refine WL.heap (H' := .blk bb (.cells [.pointer ao, .slice ab w.out.length cb].toArray 97 (0, 0)) :: .row ab cb 5 1 (bCs w.out) :: ([.blk bx (.cells [.slice ax X.length cx].toArray 26 (0, 0)), .row ax cx 9 1 (strs X), .blk by_ (.cells [.slice ay Y.length cy].toArray 26 (0, 0)), .row ay cy 9 1 (strs Y), .blk bz (.cells [.slice az Z.length cz].toArray 26 (0, 0)), .row az cz 9 1 (strs Z), .blk bat (.cells [.int .i64 ((n : Int) + 1), .int .i64 ((k1 : Int) + 1), .int .i64 ((k2 : Int) + 1)].toArray 98 (0, 0)), .blk bl (.cells [.slice al2 (w.l.length + 1) cl2].toArray 50 (0, 0)), .row al2 cl2 101 5 (cfs w.l ++ [[.int .i64 (w.out.length : Int), .int .i64 ((w.out.length : Int) + (tA.length : Int)), str tO, str tA, str tC]])] ++ H)) zpk ?_
    refine w_callF Try.func35 ?_ (hs := writeString_any hao hab (by unfold FitsB; omega) _ _ _)
    rintro v m9 H9 ⟨rfl, rfl, ao2, ab2, cb2, hao2, hab2, rfl⟩
    (try (refine st_D14_1 ?_; intros))
    rw [hW, hn1, hk11, hk21, hll, hlc]
    exact q_finNorm0 (H0 := [.blk bx (.cells [.slice ax X.length cx].toArray 26 (0, 0)), .row ax cx 9 1 (strs X), .blk by_ (.cells [.slice ay Y.length cy].toArray 26 (0, 0)), .row ay cy 9 1 (strs Y), .blk bz (.cells [.slice az Z.length cz].toArray 26 (0, 0)), .row az cz 9 1 (strs Z), .blk bat (.cells [.int .i64 ((n + 1 : Nat) : Int), .int .i64 ((k1 + 1 : Nat) : Int), .int .i64 ((k2 + 1 : Nat) : Int)].toArray 98 (0, 0)), .blk bl (.cells [.slice al2 (w.l ++ [(⟨w.out.length, w.out.length + tA.length, tO, tA, tC⟩ : Cf)]).length cl2].toArray 50 (0, 0)), .row al2 cl2 101 5 (cfs (w.l ++ [⟨w.out.length, w.out.length + tA.length, tO, tA, tC⟩])), .blk bb (.cells [.pointer ao2, .slice ab2 (w.out ++ tA).length cb2].toArray 97 (0, 0)), .row ab2 cb2 5 1 (bCs (w.out ++ tA))] ++ H) ⟨rfl, al2, cl2, ao2, ab2, cb2, hao2, hab2, rfl⟩ (hd := zpk)
end Go.Proofs.Ytgckeelnhafgaaa

/-
  The walk of draft.Weave: its maps. No condition.
-/
namespace Go.Eng
open Go Go.RowKit
/-- a match as a map's entries -/
def kv (M : List (Nat × Nat)) : List (Int × Value) := M.map fun p => ((p.1 : Int), .int .i64 (p.2 : Int))
theorem kv_lookup (n : Nat) : ∀ M : List (Nat × Nat), (kv M).lookup (n : Int) = (M.lookup n).map fun k => .int .i64 (k : Int)
  | [] => rfl
  | (a, b) :: M => by
    show List.lookup (n : Int) (((a : Int), Value.int .i64 (b : Int)) :: kv M) = _
    rw [List.lookup_cons, List.lookup_cons]
    by_cases h : n = a
    · subst h; simp
    · rw [show ((n : Int) == (a : Int)) = false by simp; omega, show (n == a) = false by simp; exact h]
      exact kv_lookup n M
theorem PrOk.fresh {a b : List Tx} : ∀ {M A B : List (Nat × Nat)} {p : Nat × Nat} {i k n m : Nat}, PrOk a b i k M n m → M = A ++ p :: B → A.lookup p.1 = Option.none
  | M, [], B, p, i, k, n, m, h, e => rfl
  | M, q :: A, B, p, i, k, n, m, h, e => by
    subst e
    obtain ⟨h1, h2, h3, h4, h5, h6⟩ := h
    obtain ⟨q1, q2⟩ := q
    have hlt : ∀ {A B : List (Nat × Nat)} {p : Nat × Nat} {i k : Nat}, PrOk a b i k (A ++ p :: B) n m → i ≤ p.1 := by
      intro A
      induction A with
      | nil => intro B p i k h; exact h.1
      | cons r A ih => intro B p i k h; obtain ⟨g1, _, _, _, _, g6⟩ := h; have := ih g6; omega
    have hl := hlt h6
    simp only at hl
    rw [List.lookup_cons, show (p.1 == q1) = false by simp; omega]
    exact PrOk.fresh h6 rfl
end Go.Eng
namespace Go.Proofs.Ytgckeelnhafgaaa
open Go Go.Eng
set_option maxRecDepth 100000
set_option maxHeartbeats 4000000
set_option linter.all false
attribute [local irreducible] WL WC WQ QFun QLoop Does Q1 QRound QAssign Go.Addr.add
attribute [local irreducible] kv mapO
theorem sq_D15_1 {G : Prop} (h : G := by (repeat (first | (refine sp ?_; (repeat intro zzc)) | (refine WL.indexAddrA rfl rfl (by (first | with_reducible exact natz _ | with_reducible exact natz0 | with_reducible exact natz1 | with_reducible exact natz2 | with_reducible exact natz3 | with_reducible exact natz4 | with_reducible exact natz8 | (apply natz_add; (· first | with_reducible exact natz _ | with_reducible exact natz0 | with_reducible exact natz1 | with_reducible exact natz2 | with_reducible exact natz3 | with_reducible exact natz4 | with_reducible exact natz8); (· first | with_reducible exact natz _ | with_reducible exact natz0 | with_reducible exact natz1 | with_reducible exact natz2 | with_reducible exact natz3 | with_reducible exact natz4 | with_reducible exact natz8)) | (apply natz_sub; (· first | with_reducible exact natz _ | with_reducible exact natz0 | with_reducible exact natz1 | with_reducible exact natz2 | with_reducible exact natz3 | with_reducible exact natz4 | with_reducible exact natz8); (· first | with_reducible exact natz _ | with_reducible exact natz0 | with_reducible exact natz1 | with_reducible exact natz2 | with_reducible exact natz3 | with_reducible exact natz4 | with_reducible exact natz8); (· omega)) | exact (Int.toNat_of_nonneg (by omega)).symm)) rfl rfl (by omega) rfl rfl ?_))); exact WQ.q1 rfl) : G := h
theorem st_D15_1 {G G' : Prop} (next : G') (h : Bx G' → G := by intro zzn; (first | ((refine st ?_; (repeat intro zzc)); (try ((first | (refine WL.indexAddrA rfl rfl (by (first | with_reducible exact natz _ | with_reducible exact natz0 | with_reducible exact natz1 | with_reducible exact natz2 | with_reducible exact natz3 | with_reducible exact natz4 | with_reducible exact natz8 | (apply natz_add; (· first | with_reducible exact natz _ | with_reducible exact natz0 | with_reducible exact natz1 | with_reducible exact natz2 | with_reducible exact natz3 | with_reducible exact natz4 | with_reducible exact natz8); (· first | with_reducible exact natz _ | with_reducible exact natz0 | with_reducible exact natz1 | with_reducible exact natz2 | with_reducible exact natz3 | with_reducible exact natz4 | with_reducible exact natz8)) | (apply natz_sub; (· first | with_reducible exact natz _ | with_reducible exact natz0 | with_reducible exact natz1 | with_reducible exact natz2 | with_reducible exact natz3 | with_reducible exact natz4 | with_reducible exact natz8); (· first | with_reducible exact natz _ | with_reducible exact natz0 | with_reducible exact natz1 | with_reducible exact natz2 | with_reducible exact natz3 | with_reducible exact natz4 | with_reducible exact natz8); (· omega)) | exact (Int.toNat_of_nonneg (by omega)).symm)) rfl rfl (by omega) rfl rfl ?_) | ((refine iDraw ?_; (first | refine WC.drawAll rfl (by decide +kernel) ?_ | refine WC.draw 1 rfl (by decide +kernel) ?_ | refine WC.draw 2 rfl (by decide +kernel) ?_ | refine WC.draw 3 rfl (by decide +kernel) ?_ | refine WC.draw 4 rfl (by decide +kernel) ?_ | refine WC.draw 5 rfl (by decide +kernel) ?_ | refine WC.draw 6 rfl (by decide +kernel) ?_ | refine WC.draw 7 rfl (by decide +kernel) ?_ | refine WC.draw 8 rfl (by decide +kernel) ?_ | refine WC.draw 9 rfl (by decide +kernel) ?_ | refine WC.draw 10 rfl (by decide +kernel) ?_ | refine WC.draw 11 rfl (by decide +kernel) ?_ | refine WC.draw 12 rfl (by decide +kernel) ?_ | refine WC.draw 13 rfl (by decide +kernel) ?_ | refine WC.draw 14 rfl (by decide +kernel) ?_ | refine WC.draw 15 rfl (by decide +kernel) ?_ | refine WC.draw 16 rfl (by decide +kernel) ?_ | refine WC.draw 17 rfl (by decide +kernel) ?_ | refine WC.draw 18 rfl (by decide +kernel) ?_ | refine WC.draw 19 rfl (by decide +kernel) ?_ | refine WC.draw 20 rfl (by decide +kernel) ?_ | refine WC.draw 21 rfl (by decide +kernel) ?_ | refine WC.draw 22 rfl (by decide +kernel) ?_ | refine WC.draw 23 rfl (by decide +kernel) ?_ | refine WC.draw 24 rfl (by decide +kernel) ?_)); (repeat (refine WD.cons rfl (fun c h => by cases h) sq_D15_1 ?_)); refine WD.nil ?_)); (try (refine st ?_; (repeat intro zzc)))))) | ((first | (refine WL.indexAddrA rfl rfl (by (first | with_reducible exact natz _ | with_reducible exact natz0 | with_reducible exact natz1 | with_reducible exact natz2 | with_reducible exact natz3 | with_reducible exact natz4 | with_reducible exact natz8 | (apply natz_add; (· first | with_reducible exact natz _ | with_reducible exact natz0 | with_reducible exact natz1 | with_reducible exact natz2 | with_reducible exact natz3 | with_reducible exact natz4 | with_reducible exact natz8); (· first | with_reducible exact natz _ | with_reducible exact natz0 | with_reducible exact natz1 | with_reducible exact natz2 | with_reducible exact natz3 | with_reducible exact natz4 | with_reducible exact natz8)) | (apply natz_sub; (· first | with_reducible exact natz _ | with_reducible exact natz0 | with_reducible exact natz1 | with_reducible exact natz2 | with_reducible exact natz3 | with_reducible exact natz4 | with_reducible exact natz8); (· first | with_reducible exact natz _ | with_reducible exact natz0 | with_reducible exact natz1 | with_reducible exact natz2 | with_reducible exact natz3 | with_reducible exact natz4 | with_reducible exact natz8); (· omega)) | exact (Int.toNat_of_nonneg (by omega)).symm)) rfl rfl (by omega) rfl rfl ?_) | ((refine iDraw ?_; (first | refine WC.drawAll rfl (by decide +kernel) ?_ | refine WC.draw 1 rfl (by decide +kernel) ?_ | refine WC.draw 2 rfl (by decide +kernel) ?_ | refine WC.draw 3 rfl (by decide +kernel) ?_ | refine WC.draw 4 rfl (by decide +kernel) ?_ | refine WC.draw 5 rfl (by decide +kernel) ?_ | refine WC.draw 6 rfl (by decide +kernel) ?_ | refine WC.draw 7 rfl (by decide +kernel) ?_ | refine WC.draw 8 rfl (by decide +kernel) ?_ | refine WC.draw 9 rfl (by decide +kernel) ?_ | refine WC.draw 10 rfl (by decide +kernel) ?_ | refine WC.draw 11 rfl (by decide +kernel) ?_ | refine WC.draw 12 rfl (by decide +kernel) ?_ | refine WC.draw 13 rfl (by decide +kernel) ?_ | refine WC.draw 14 rfl (by decide +kernel) ?_ | refine WC.draw 15 rfl (by decide +kernel) ?_ | refine WC.draw 16 rfl (by decide +kernel) ?_ | refine WC.draw 17 rfl (by decide +kernel) ?_ | refine WC.draw 18 rfl (by decide +kernel) ?_ | refine WC.draw 19 rfl (by decide +kernel) ?_ | refine WC.draw 20 rfl (by decide +kernel) ?_ | refine WC.draw 21 rfl (by decide +kernel) ?_ | refine WC.draw 22 rfl (by decide +kernel) ?_ | refine WC.draw 23 rfl (by decide +kernel) ?_ | refine WC.draw 24 rfl (by decide +kernel) ?_)); (repeat (refine WD.cons rfl (fun c h => by cases h) sq_D15_1 ?_)); refine WD.nil ?_)); (try (refine st ?_; (repeat intro zzc))))); (repeat ((first | (refine WL.indexAddrA rfl rfl (by (first | with_reducible exact natz _ | with_reducible exact natz0 | with_reducible exact natz1 | with_reducible exact natz2 | with_reducible exact natz3 | with_reducible exact natz4 | with_reducible exact natz8 | (apply natz_add; (· first | with_reducible exact natz _ | with_reducible exact natz0 | with_reducible exact natz1 | with_reducible exact natz2 | with_reducible exact natz3 | with_reducible exact natz4 | with_reducible exact natz8); (· first | with_reducible exact natz _ | with_reducible exact natz0 | with_reducible exact natz1 | with_reducible exact natz2 | with_reducible exact natz3 | with_reducible exact natz4 | with_reducible exact natz8)) | (apply natz_sub; (· first | with_reducible exact natz _ | with_reducible exact natz0 | with_reducible exact natz1 | with_reducible exact natz2 | with_reducible exact natz3 | with_reducible exact natz4 | with_reducible exact natz8); (· first | with_reducible exact natz _ | with_reducible exact natz0 | with_reducible exact natz1 | with_reducible exact natz2 | with_reducible exact natz3 | with_reducible exact natz4 | with_reducible exact natz8); (· omega)) | exact (Int.toNat_of_nonneg (by omega)).symm)) rfl rfl (by omega) rfl rfl ?_) | ((refine iDraw ?_; (first | refine WC.drawAll rfl (by decide +kernel) ?_ | refine WC.draw 1 rfl (by decide +kernel) ?_ | refine WC.draw 2 rfl (by decide +kernel) ?_ | refine WC.draw 3 rfl (by decide +kernel) ?_ | refine WC.draw 4 rfl (by decide +kernel) ?_ | refine WC.draw 5 rfl (by decide +kernel) ?_ | refine WC.draw 6 rfl (by decide +kernel) ?_ | refine WC.draw 7 rfl (by decide +kernel) ?_ | refine WC.draw 8 rfl (by decide +kernel) ?_ | refine WC.draw 9 rfl (by decide +kernel) ?_ | refine WC.draw 10 rfl (by decide +kernel) ?_ | refine WC.draw 11 rfl (by decide +kernel) ?_ | refine WC.draw 12 rfl (by decide +kernel) ?_ | refine WC.draw 13 rfl (by decide +kernel) ?_ | refine WC.draw 14 rfl (by decide +kernel) ?_ | refine WC.draw 15 rfl (by decide +kernel) ?_ | refine WC.draw 16 rfl (by decide +kernel) ?_ | refine WC.draw 17 rfl (by decide +kernel) ?_ | refine WC.draw 18 rfl (by decide +kernel) ?_ | refine WC.draw 19 rfl (by decide +kernel) ?_ | refine WC.draw 20 rfl (by decide +kernel) ?_ | refine WC.draw 21 rfl (by decide +kernel) ?_ | refine WC.draw 22 rfl (by decide +kernel) ?_ | refine WC.draw 23 rfl (by decide +kernel) ?_ | refine WC.draw 24 rfl (by decide +kernel) ?_)); (repeat (refine WD.cons rfl (fun c h => by cases h) sq_D15_1 ?_)); refine WD.nil ?_)); (try (refine st ?_; (repeat intro zzc))))); (repeat revert zzc); exact zzn.out) : G := h ⟨next⟩
theorem fill_own {X Y : List Tx} {M : List (Nat × Nat)} {a : Option Addr} {cp bm bm2 bx by_ bz : Nat} {w0 : World} {m : Mem} {H : SHeap} {Q : Exit → Act → World → Prop} (hM : PrOk X Y 0 0 M X.length Y.length) (hl : M.length ≤ 4194304) (hX : X.length ≤ 4194304 ∧ Y.length ≤ 4194304)
    (hK : WQ 116 w0 Q (.exit 0) [(12, .map (some bm)), (9, .pointer (some ⟨bx, 0, none⟩)), (10, .pointer (some ⟨by_, 0, none⟩)), (11, .pointer (some ⟨bz, 0, none⟩)), (13, .map (some bm2))] [] m (.blk bm (mapO .i64 (kv M)) :: H)) :
    WC Try.prog none 116 w0 ((loopsIn (Try.f13.body.getD .skip)).getD 0 .skip) Q [(45, .int .i64 0), (44, .int .i64 (M.length : Int)), (43, .slice a M.length cp), (12, .map (some bm)), (9, .pointer (some ⟨bx, 0, none⟩)), (10, .pointer (some ⟨by_, 0, none⟩)), (11, .pointer (some ⟨bz, 0, none⟩)), (13, .map (some bm2))] [] m
      (.blk bm (mapO .i64 []) :: .row a cp 93 2 (M.map prE) :: H) := by
  have hml : (M.map prE).length = M.length := List.length_map _
  rw [show ([] : List (Int × Value)) = kv (M.take 0) from by unfold kv; rfl]
  refine WC.loopH [(45, .int .i64 ((0) : Int)), (44, .int .i64 (M.length : Int)), (43, .slice a M.length cp), (12, .map (some bm)), (9, .pointer (some ⟨bx, 0, none⟩)), (10, .pointer (some ⟨by_, 0, none⟩)), (11, .pointer (some ⟨bz, 0, none⟩)), (13, .map (some bm2))] ?_ ?_ (fun j r ds m' H' => ∃ i, j = M.length - i ∧ r = [(45, .int .i64 (i : Int)), (44, .int .i64 (M.length : Int)), (43, .slice a M.length cp), (12, .map (some bm)), (9, .pointer (some ⟨bx, 0, none⟩)), (10, .pointer (some ⟨by_, 0, none⟩)), (11, .pointer (some ⟨bz, 0, none⟩)), (13, .map (some bm2))] ∧ ds = [] ∧ m = m' ∧ H' = .blk bm (mapO .i64 (kv (M.take i))) :: .row a cp 93 2 (M.map prE) :: H ∧ (i ≤ M.length)) (M.length - (0)) ⟨0, rfl, rfl, rfl, rfl, rfl, by omega⟩ ?_
  · (repeat (first | exact Env.Sub.nil | refine Env.Sub.cons rfl ?_))
  · exact zpk
  rintro j r ds m' H' ⟨i, rfl, rfl, rfl, rfl, rfl, hi⟩
  by_cases hlt : i < M.length
  · obtain ⟨p, hp⟩ : ∃ p, M[i]? = some p := ⟨_, List.getElem?_eq_getElem hlt⟩
    have hgp : (M.map prE)[i]? = some [.int .i64 (p.1 : Int), .int .i64 (p.2 : Int)] := by rw [List.getElem?_map, hp]; rfl
    have hnew : (kv (M.take i)).lookup (p.1 : Int) = none := by
      rw [kv_lookup, hM.fresh (A := M.take i) (p := p) (B := M.drop (i + 1)) (by
        obtain ⟨h1, h2⟩ := List.getElem?_eq_some_iff.1 hp
        conv => lhs; rw [← List.take_append_drop i M, List.drop_eq_getElem_cons h1, h2])]
      rfl
    have hsnoc : kv (M.take i) ++ [((p.1 : Int), Value.int .i64 (p.2 : Int))] = kv (M.take (i + 1)) := by
      unfold kv
      rw [List.take_succ, hp]; simp
    generalize M.map prE = ME at *
    generalize kv (M.take i) = K at *
    refine WC.rowSome zhs (by omega) ?_
    rintro a0 rfl
    (refine st_D15_1 ?_; intros; rename_i bp)
    refine WL.mapNew (q := .i64) (q' := .i64) rfl rfl rfl rfl rfl (by repeat (first | exact Repl.here | apply Repl.there)) hnew ?_
    rw [hsnoc]
    (try (refine st_D15_1 ?_; intros))
    refine WQ.next (M.length - (i + 1)) ⟨i + 1, rfl, rfl, rfl, rfl, rfl, ?_⟩ (by omega) zsb zpk
    · omega
  · rw [List.take_of_length_le (by omega)]
    (try (refine st_D15_1 ?_; intros))
    exact WQ.weak zsb zpk hK
theorem fill_other {X Y : List Tx} {M : List (Nat × Nat)} {a : Option Addr} {cp bm bm2 bx by_ bz : Nat} {w0 : World} {m : Mem} {H : SHeap} {Q : Exit → Act → World → Prop} (hM : PrOk X Y 0 0 M X.length Y.length) (hl : M.length ≤ 4194304) (hX : X.length ≤ 4194304 ∧ Y.length ≤ 4194304)
    (hK : WQ 116 w0 Q (.exit 2) [(13, .map (some bm)), (9, .pointer (some ⟨bx, 0, none⟩)), (10, .pointer (some ⟨by_, 0, none⟩)), (11, .pointer (some ⟨bz, 0, none⟩)), (12, .map (some bm2))] [] m (.blk bm (mapO .i64 (kv M)) :: H)) :
    WC Try.prog none 116 w0 ((loopsIn (Try.f13.body.getD .skip)).getD 1 .skip) Q [(59, .int .i64 0), (58, .int .i64 (M.length : Int)), (57, .slice a M.length cp), (13, .map (some bm)), (9, .pointer (some ⟨bx, 0, none⟩)), (10, .pointer (some ⟨by_, 0, none⟩)), (11, .pointer (some ⟨bz, 0, none⟩)), (12, .map (some bm2))] [] m
      (.blk bm (mapO .i64 []) :: .row a cp 93 2 (M.map prE) :: H) := by
  have hml : (M.map prE).length = M.length := List.length_map _
  rw [show ([] : List (Int × Value)) = kv (M.take 0) from by unfold kv; rfl]
  refine WC.loopH [(59, .int .i64 ((0) : Int)), (58, .int .i64 (M.length : Int)), (57, .slice a M.length cp), (13, .map (some bm)), (9, .pointer (some ⟨bx, 0, none⟩)), (10, .pointer (some ⟨by_, 0, none⟩)), (11, .pointer (some ⟨bz, 0, none⟩)), (12, .map (some bm2))] ?_ ?_ (fun j r ds m' H' => ∃ i, j = M.length - i ∧ r = [(59, .int .i64 (i : Int)), (58, .int .i64 (M.length : Int)), (57, .slice a M.length cp), (13, .map (some bm)), (9, .pointer (some ⟨bx, 0, none⟩)), (10, .pointer (some ⟨by_, 0, none⟩)), (11, .pointer (some ⟨bz, 0, none⟩)), (12, .map (some bm2))] ∧ ds = [] ∧ m = m' ∧ H' = .blk bm (mapO .i64 (kv (M.take i))) :: .row a cp 93 2 (M.map prE) :: H ∧ (i ≤ M.length)) (M.length - (0)) ⟨0, rfl, rfl, rfl, rfl, rfl, by omega⟩ ?_
  · (repeat (first | exact Env.Sub.nil | refine Env.Sub.cons rfl ?_))
  · exact zpk
  rintro j r ds m' H' ⟨i, rfl, rfl, rfl, rfl, rfl, hi⟩
  by_cases hlt : i < M.length
  · obtain ⟨p, hp⟩ : ∃ p, M[i]? = some p := ⟨_, List.getElem?_eq_getElem hlt⟩
    have hgp : (M.map prE)[i]? = some [.int .i64 (p.1 : Int), .int .i64 (p.2 : Int)] := by rw [List.getElem?_map, hp]; rfl
    have hnew : (kv (M.take i)).lookup (p.1 : Int) = none := by
      rw [kv_lookup, hM.fresh (A := M.take i) (p := p) (B := M.drop (i + 1)) (by
        obtain ⟨h1, h2⟩ := List.getElem?_eq_some_iff.1 hp
        conv => lhs; rw [← List.take_append_drop i M, List.drop_eq_getElem_cons h1, h2])]
      rfl
    have hsnoc : kv (M.take i) ++ [((p.1 : Int), Value.int .i64 (p.2 : Int))] = kv (M.take (i + 1)) := by
      unfold kv
      rw [List.take_succ, hp]; simp
    generalize M.map prE = ME at *
    generalize kv (M.take i) = K at *
    refine WC.rowSome zhs (by omega) ?_
    rintro a0 rfl
    (refine st_D15_1 ?_; intros; rename_i bp)
    refine WL.mapNew (q := .i64) (q' := .i64) rfl rfl rfl rfl rfl (by repeat (first | exact Repl.here | apply Repl.there)) hnew ?_
    rw [hsnoc]
    (try (refine st_D15_1 ?_; intros))
    refine WQ.next (M.length - (i + 1)) ⟨i + 1, rfl, rfl, rfl, rfl, rfl, ?_⟩ (by omega) zsb zpk
    · omega
  · rw [List.take_of_length_le (by omega)]
    (try (refine st_D15_1 ?_; intros))
    exact WQ.weak zsb zpk hK
end Go.Proofs.Ytgckeelnhafgaaa

/-
  The walk of draft.Weave: its loop over the tokens. No condition.
-/
namespace Go.Eng
open Go Go.RowKit
/-- where a match stands at a place -/
def MSt (X Y : List Tx) (M : List (Nat × Nat)) (i k : Nat) : Prop := ∃ l2, PrOk X Y i k l2 X.length Y.length ∧ ∀ j, i ≤ j → M.lookup j = l2.lookup j
theorem MSt.start {X Y : List Tx} : MSt X Y (matchL X Y) 0 0 := ⟨_, match_ok X Y, fun _ _ => rfl⟩
theorem MSt.le {X Y : List Tx} {M : List (Nat × Nat)} {i k : Nat} (h : MSt X Y M i k) : k ≤ Y.length := by
  obtain ⟨l2, h1, _⟩ := h
  exact h1.le.2
theorem MSt.next {X Y : List Tx} {M : List (Nat × Nat)} {i k : Nat} (h : MSt X Y M i k) (hi : i < X.length) :
    MSt X Y M (i + 1) k ∧ (M.lookup i = none ∨ ∃ p, M.lookup i = some p ∧ k ≤ p ∧ p < Y.length ∧ (∃ x, X[i]? = some x ∧ Y[p]? = some x) ∧ MSt X Y M (i + 1) (p + 1)) := by
  obtain ⟨l2, h1, h2⟩ := h
  rcases h1.next hi with ⟨g1, g2⟩ | ⟨p, l3, g1, g2, g3, g4, g5, g6⟩
  · exact ⟨⟨l2, g2, fun j hj => h2 j (by omega)⟩, .inl (by rw [h2 i (Nat.le_refl _)]; exact g1)⟩
  · have e : ∀ j, i + 1 ≤ j → M.lookup j = l3.lookup j := fun j hj => by rw [h2 j (by omega)]; exact g6 j (by omega)
    exact ⟨⟨l3, g5.low (Nat.le_refl _) (by omega), e⟩, .inr ⟨p, by rw [h2 i (Nat.le_refl _)]; exact g1, g2, g3, g4, l3, g5, e⟩⟩
theorem sideT_le (o a c : Tx) : (sideT o a c).length ≤ max a.length c.length := by
  unfold sideT
  split
  · omega
  · omega
theorem sideC_le (n : Nat) (o a c : Tx) : (sideC n o a c).length ≤ 1 := by
  unfold sideC
  split <;> simp
theorem mem_le_flat {l : List Tx} {x : Tx} (h : x ∈ l) : x.length ≤ l.flatten.length := by
  induction l with
  | nil => cases h
  | cons y l ih =>
    rw [List.flatten_cons, List.length_append]
    rcases List.mem_cons.1 h with rfl | h
    · omega
    · have := ih h; omega
theorem wvGo_skip {x y z : List Tx} {M N : List (Nat × Nat)} {t : Tx} {ts : List Tx} {n : Nat} {w : Wv} (h : M.lookup n = none ∨ N.lookup n = none) : wvGo x y z M N (t :: ts) n w = wvGo x y z M N ts (n + 1) w := by
  rw [wvGo]
  rcases h with h | h
  · rw [h]
  · rw [h]
    cases M.lookup n <;> rfl
theorem wvGo_both {x y z : List Tx} {M N : List (Nat × Nat)} {t : Tx} {ts : List Tx} {n p q : Nat} {w : Wv} (h1 : M.lookup n = some p) (h2 : N.lookup n = some q) : wvGo x y z M N (t :: ts) n w = wvGo x y z M N ts (n + 1) ((w.side x y z n p q).add t) := by
  rw [wvGo, h1, h2]
end Go.Eng
namespace Go.Proofs.Ytgckeelnhafgaaa
open Go Go.Eng
set_option maxRecDepth 100000
set_option maxHeartbeats 4000000
set_option linter.all false
attribute [local irreducible] WL WC WQ QFun QLoop Does Q1 QRound QAssign Go.Addr.add
attribute [local irreducible] kv mapO jn strs bCs cfs sideT sideC
theorem weave_loop {X Y Z : List Tx} {M N : List (Nat × Nat)} {bx by_ bz bat bl bb bm bm2 cx cy cz : Nat} {ax ay az : Option Addr} {w0 : World} {m : Mem} {H : SHeap} {Q : Exit → Act → World → Prop} {F : Wv}
    (hX : X.length ≤ 65536 ∧ X.flatten.length ≤ 65536 ∧ X.length ≤ cx) (hY : Y.length ≤ 65536 ∧ Y.flatten.length ≤ 65536 ∧ Y.length ≤ cy) (hZ : Z.length ≤ 65536 ∧ Z.flatten.length ≤ 65536 ∧ Z.length ≤ cz) (hM : MSt X Y M 0 0) (hN : MSt X Z N 0 0) (hF : wvGo X Y Z M N X 0 ⟨[], [], 0, 0, 0⟩ = F)
    (hK : ∀ (w : Wv) (al : Option Addr) (cl : Nat) (ao ab : Option Addr) (cb : Nat), w.side X Y Z X.length Y.length Z.length = F → w.p ≤ X.length → w.q ≤ Y.length → w.r ≤ Z.length → w.out.length ≤ 8589934592 → w.l.length ≤ 65536 → (ao = none ∨ ao = some ⟨bb, 0, none⟩) → (ab = none ∨ 0 < cb) →
      WQ 116 w0 Q (.exit 4) [(9, .pointer (some ⟨bx, 0, none⟩)), (10, .pointer (some ⟨by_, 0, none⟩)), (11, .pointer (some ⟨bz, 0, none⟩)), (18, .pointer (some ⟨bb, 0, none⟩)), (19, .pointer (some ⟨bl, 0, none⟩)), (21, .func (.func 32) #[] [.pointer (some ⟨bx, 0, none⟩), .pointer (some ⟨bat, 0, none⟩), .pointer (some ⟨by_, 0, none⟩), .pointer (some ⟨bz, 0, none⟩), .pointer (some ⟨bl, 0, none⟩), .pointer (some ⟨bb, 0, none⟩)].toArray)] [] m (.blk bx (.cells [.slice ax X.length cx].toArray 26 (0, 0)) :: .row ax cx 9 1 (strs X) :: .blk by_ (.cells [.slice ay Y.length cy].toArray 26 (0, 0)) :: .row ay cy 9 1 (strs Y) :: .blk bz (.cells [.slice az Z.length cz].toArray 26 (0, 0)) :: .row az cz 9 1 (strs Z) :: .blk bat (.cells [.int .i64 (w.p : Int), .int .i64 (w.q : Int), .int .i64 (w.r : Int)].toArray 98 (0, 0)) :: .blk bl (.cells [.slice al w.l.length cl].toArray 50 (0, 0)) :: .row al cl 101 5 (cfs w.l) :: .blk bb (.cells [.pointer ao, .slice ab w.out.length cb].toArray 97 (0, 0)) :: .row ab cb 5 1 (bCs w.out) :: H)) :
    WC Try.prog none 116 w0 ((loopsIn (Try.f13.body.getD .skip)).getD 2 .skip) Q [(72, .int .i64 0), (71, .int .i64 (X.length : Int)), (70, .slice ax X.length cx), (12, .map (some bm)), (13, .map (some bm2)), (9, .pointer (some ⟨bx, 0, none⟩)), (10, .pointer (some ⟨by_, 0, none⟩)), (11, .pointer (some ⟨bz, 0, none⟩)), (18, .pointer (some ⟨bb, 0, none⟩)), (19, .pointer (some ⟨bl, 0, none⟩)), (21, .func (.func 32) #[] [.pointer (some ⟨bx, 0, none⟩), .pointer (some ⟨bat, 0, none⟩), .pointer (some ⟨by_, 0, none⟩), .pointer (some ⟨bz, 0, none⟩), .pointer (some ⟨bl, 0, none⟩), .pointer (some ⟨bb, 0, none⟩)].toArray)] [] m
      (.blk bx (.cells [.slice ax X.length cx].toArray 26 (0, 0)) :: .row ax cx 9 1 (strs X) :: .blk by_ (.cells [.slice ay Y.length cy].toArray 26 (0, 0)) :: .row ay cy 9 1 (strs Y) :: .blk bz (.cells [.slice az Z.length cz].toArray 26 (0, 0)) :: .row az cz 9 1 (strs Z) :: .blk bat (.cells [.int .i64 0, .int .i64 0, .int .i64 0].toArray 98 (0, 0)) :: .blk bl (.cells [.slice none 0 0].toArray 50 (0, 0)) :: .row none 0 101 5 (cfs []) :: .blk bb (.cells [.pointer none, .slice none 0 0].toArray 97 (0, 0)) :: .row none 0 5 1 (bCs []) :: .blk bm (mapO .i64 (kv M)) :: .blk bm2 (mapO .i64 (kv N)) :: H) := by
  have hXs : (strs X).length = X.length := by simp [strs]
  refine WC.loopH [(72, .int .i64 ((0) : Int)), (71, .int .i64 (X.length : Int)), (70, .slice ax X.length cx), (12, .map (some bm)), (13, .map (some bm2)), (9, .pointer (some ⟨bx, 0, none⟩)), (10, .pointer (some ⟨by_, 0, none⟩)), (11, .pointer (some ⟨bz, 0, none⟩)), (18, .pointer (some ⟨bb, 0, none⟩)), (19, .pointer (some ⟨bl, 0, none⟩)), (21, .func (.func 32) #[] [.pointer (some ⟨bx, 0, none⟩), .pointer (some ⟨bat, 0, none⟩), .pointer (some ⟨by_, 0, none⟩), .pointer (some ⟨bz, 0, none⟩), .pointer (some ⟨bl, 0, none⟩), .pointer (some ⟨bb, 0, none⟩)].toArray)] ?_ ?_ (fun j r ds m' H' => ∃ (i : Nat) (w : Wv) (al : Option Addr) (cl : Nat) (ao : Option Addr) (ab : Option Addr) (cb : Nat), j = X.length - i ∧ r = [(72, .int .i64 (i : Int)), (71, .int .i64 (X.length : Int)), (70, .slice ax X.length cx), (12, .map (some bm)), (13, .map (some bm2)), (9, .pointer (some ⟨bx, 0, none⟩)), (10, .pointer (some ⟨by_, 0, none⟩)), (11, .pointer (some ⟨bz, 0, none⟩)), (18, .pointer (some ⟨bb, 0, none⟩)), (19, .pointer (some ⟨bl, 0, none⟩)), (21, .func (.func 32) #[] [.pointer (some ⟨bx, 0, none⟩), .pointer (some ⟨bat, 0, none⟩), .pointer (some ⟨by_, 0, none⟩), .pointer (some ⟨bz, 0, none⟩), .pointer (some ⟨bl, 0, none⟩), .pointer (some ⟨bb, 0, none⟩)].toArray)] ∧ ds = [] ∧ m = m' ∧ H' = .blk bx (.cells [.slice ax X.length cx].toArray 26 (0, 0)) :: .row ax cx 9 1 (strs X) :: .blk by_ (.cells [.slice ay Y.length cy].toArray 26 (0, 0)) :: .row ay cy 9 1 (strs Y) :: .blk bz (.cells [.slice az Z.length cz].toArray 26 (0, 0)) :: .row az cz 9 1 (strs Z) :: .blk bat (.cells [.int .i64 (w.p : Int), .int .i64 (w.q : Int), .int .i64 (w.r : Int)].toArray 98 (0, 0)) :: .blk bl (.cells [.slice al w.l.length cl].toArray 50 (0, 0)) :: .row al cl 101 5 (cfs w.l) :: .blk bb (.cells [.pointer ao, .slice ab w.out.length cb].toArray 97 (0, 0)) :: .row ab cb 5 1 (bCs w.out) :: .blk bm (mapO .i64 (kv M)) :: .blk bm2 (mapO .i64 (kv N)) :: H ∧ (i ≤ X.length) ∧ (wvGo X Y Z M N (X.drop i) i w = F) ∧ (MSt X Y M i w.q) ∧ (MSt X Z N i w.r) ∧ (w.p ≤ i) ∧ (w.out.length ≤ i * 131072) ∧ (w.l.length ≤ i) ∧ (ao = none ∨ ao = some ⟨bb, 0, none⟩) ∧ (ab = none ∨ 0 < cb)) (X.length - (0)) ⟨0, ⟨[], [], 0, 0, 0⟩, none, 0, none, none, 0, rfl, rfl, rfl, rfl, rfl, by omega, hF, hM, hN, Nat.le_refl _, Nat.zero_le _, Nat.zero_le _, .inl rfl, .inl rfl⟩ ?_
  · (repeat (first | exact Env.Sub.nil | refine Env.Sub.cons rfl ?_))
  · exact zpk
  rintro j r ds m' H' ⟨i, w, al, cl, ao, ab, cb, rfl, rfl, rfl, rfl, rfl, hi, hgo, hM, hN, hp, hout, hL, hao, hab⟩
  by_cases hlt : i < X.length
  · obtain ⟨t, ht⟩ : ∃ t, X[i]? = some t := ⟨_, List.getElem?_eq_getElem hlt⟩
    have hgt := strs_get ht
    have htl : t.length ≤ 65536 := by have := mem_le_flat (List.mem_of_getElem? ht); omega
    rw [drop_get ht] at hgo
    obtain ⟨hM1, hM2⟩ := hM.next hlt
    obtain ⟨hN1, hN2⟩ := hN.next hlt
    have hkM := kv_lookup i M
    have hkN := kv_lookup i N
    generalize hKM : kv M = KM at *
    generalize hKN : kv N = KN at *
    generalize hSX : strs X = SX at *
    refine WC.rowSome (a := ax) (es := SX) zhs (by omega) ?_
    rintro a0 rfl
    rcases hM2 with hM2 | ⟨p, hM2, hqp, hpY, ⟨x, hx1, hx2⟩, hM3⟩
    · rw [hM2] at hkM
      rw [wvGo_skip (.inl hM2)] at hgo
      rcases hN2 with hN2 | ⟨q, hN2, _⟩
      all_goals
        rw [hN2] at hkN
        (try (refine st ?_; intros))
        refine WL.lookOk (q := .i64) (q' := .i64) (z := .int .i64 0) rfl rfl zhs rfl rfl (run_zero rfl) rfl ?_
        rw [hkM]
        simp only [Option.map_none, Option.map_some, Option.getD_none, Option.getD_some, Option.isSome_none, Option.isSome_some]
        (try (refine st ?_; intros))
        refine WL.lookOk (q := .i64) (q' := .i64) (z := .int .i64 0) rfl rfl zhs rfl rfl (run_zero rfl) rfl ?_
        rw [hkN]
        simp only [Option.map_none, Option.map_some, Option.getD_none, Option.getD_some, Option.isSome_none, Option.isSome_some]
        (try (refine st ?_; intros))
        subst hKM hKN hSX
        refine WQ.next (X.length - (i + 1)) ⟨i + 1, w, al, cl, ao, ab, cb, rfl, rfl, rfl, rfl, rfl, ?_, ?_, ?_, ?_, ?_, ?_, ?_, ?_, ?_⟩ (by omega) zsb zpk
        · omega
        · exact hgo
        · exact hM1
        · exact hN1
        · omega
        · exact Nat.le_trans hout (Nat.mul_le_mul_right _ (Nat.le_succ i))
        · omega
        · exact hao
        · exact hab
    · rw [hM2] at hkM
      rcases hN2 with hN2 | ⟨q, hN2, hrq, hqZ, ⟨y, hy1, hy2⟩, hN3⟩
      · rw [wvGo_skip (.inr hN2)] at hgo
        rw [hN2] at hkN
        (try (refine st ?_; intros))
        refine WL.lookOk (q := .i64) (q' := .i64) (z := .int .i64 0) rfl rfl zhs rfl rfl (run_zero rfl) rfl ?_
        rw [hkM]
        simp only [Option.map_none, Option.map_some, Option.getD_none, Option.getD_some, Option.isSome_none, Option.isSome_some]
        (try (refine st ?_; intros))
        refine WL.lookOk (q := .i64) (q' := .i64) (z := .int .i64 0) rfl rfl zhs rfl rfl (run_zero rfl) rfl ?_
        rw [hkN]
        simp only [Option.map_none, Option.map_some, Option.getD_none, Option.getD_some, Option.isSome_none, Option.isSome_some]
        (try (refine st ?_; intros))
        subst hKM hKN hSX
        refine WQ.next (X.length - (i + 1)) ⟨i + 1, w, al, cl, ao, ab, cb, rfl, rfl, rfl, rfl, rfl, ?_, ?_, ?_, ?_, ?_, ?_, ?_, ?_, ?_⟩ (by omega) zsb zpk
        · omega
        · exact hgo
        · exact hM1
        · exact hN1
        · omega
        · exact Nat.le_trans hout (Nat.mul_le_mul_right _ (Nat.le_succ i))
        · omega
        · exact hao
        · exact hab
      · rw [wvGo_both hM2 hN2] at hgo
        rw [hN2] at hkN
        (try (refine st ?_; intros))
        refine WL.lookOk (q := .i64) (q' := .i64) (z := .int .i64 0) rfl rfl zhs rfl rfl (run_zero rfl) rfl ?_
        rw [hkM]
        simp only [Option.map_none, Option.map_some, Option.getD_none, Option.getD_some, Option.isSome_none, Option.isSome_some]
        (try (refine st ?_; intros))
        refine WL.lookOk (q := .i64) (q' := .i64) (z := .int .i64 0) rfl rfl zhs rfl rfl (run_zero rfl) rfl ?_
        rw [hkN]
        simp only [Option.map_none, Option.map_some, Option.getD_none, Option.getD_some, Option.isSome_none, Option.isSome_some]
        (try (refine st ?_; intros))
        have hout2 : w.out.length ≤ 8589934592 := Nat.le_trans hout (Nat.le_trans (Nat.mul_le_mul_right _ (Nat.le_of_lt (Nat.lt_of_lt_of_le hlt hX.1))) (by decide))
        have hsl : (w.side X Y Z i p q).out.length ≤ w.out.length + 65536 := by
          show (w.out ++ sideT (jn X w.p i) (jn Y w.q p) (jn Z w.r q)).length ≤ _
          have h1 := sideT_le (jn X w.p i) (jn Y w.q p) (jn Z w.r q)
          have h2 := jn_le Y w.q p
          have h3 := jn_le Z w.r q
          rw [List.length_append]; omega
        have hcl : (w.side X Y Z i p q).l.length ≤ w.l.length + 1 := by
          show (w.l ++ sideC w.out.length (jn X w.p i) (jn Y w.q p) (jn Z w.r q)).length ≤ _
          have h1 := sideC_le w.out.length (jn X w.p i) (jn Y w.q p) (jn Z w.r q)
          rw [List.length_append]; omega
        have hsp : (w.side X Y Z i p q).p = i + 1 ∧ (w.side X Y Z i p q).q = p + 1 ∧ (w.side X Y Z i p q).r = q + 1 := ⟨rfl, rfl, rfl⟩
        subst hKM hKN hSX
        refine WL.heap (H' := [.blk bx (.cells [.slice (some a0) X.length cx].toArray 26 (0, 0)), .row (some a0) cx 9 1 (strs X), .blk by_ (.cells [.slice ay Y.length cy].toArray 26 (0, 0)), .row ay cy 9 1 (strs Y), .blk bz (.cells [.slice az Z.length cz].toArray 26 (0, 0)), .row az cz 9 1 (strs Z), .blk bat (.cells [.int .i64 (w.p : Int), .int .i64 (w.q : Int), .int .i64 (w.r : Int)].toArray 98 (0, 0)), .blk bl (.cells [.slice al w.l.length cl].toArray 50 (0, 0)), .row al cl 101 5 (cfs w.l), .blk bb (.cells [.pointer ao, .slice ab w.out.length cb].toArray 97 (0, 0)), .row ab cb 5 1 (bCs w.out)] ++ (.blk bm (mapO .i64 (kv M)) :: .blk bm2 (mapO .i64 (kv N)) :: H)) zpk ?_
        refine WL.callV rfl Try.func32 rfl rfl (by exact rfl) (by exact rfl) (side_any (X := X) (Y := Y) (Z := Z) (w := w) (n := i) (k1 := p) (k2 := q) ⟨by omega, by omega, hX.2.2⟩ ⟨by omega, by omega, hY.2.2⟩ ⟨by omega, by omega, hZ.2.2⟩ ⟨hp, by omega⟩ ⟨hqp, by omega⟩ ⟨hrq, by omega⟩ (by omega) (by omega) hao hab) ?_
        rintro v m9 H9 ⟨rfl, al2, cl2, ao2, ab2, cb2, hao2, hab2, rfl⟩
        obtain ⟨h1, h2, h3⟩ := hsp
        obtain ⟨w2, hw2⟩ : ∃ w2, w2 = w.side X Y Z i p q := ⟨_, rfl⟩
        rw [← hw2] at hsl hcl h1 h2 h3 hgo ⊢
        clear hw2
        simp only [List.cons_append, List.nil_append]
        (try (refine st ?_; intros))
        refine WL.heap (H' := .blk bb (.cells [.pointer ao2, .slice ab2 w2.out.length cb2].toArray 97 (0, 0)) :: .row ab2 cb2 5 1 (bCs w2.out) :: (.blk bx (.cells [.slice (some a0) X.length cx].toArray 26 (0, 0)) :: .row (some a0) cx 9 1 (strs X) :: .blk by_ (.cells [.slice ay Y.length cy].toArray 26 (0, 0)) :: .row ay cy 9 1 (strs Y) :: .blk bz (.cells [.slice az Z.length cz].toArray 26 (0, 0)) :: .row az cz 9 1 (strs Z) :: .blk bat (.cells [.int .i64 (w2.p : Int), .int .i64 (w2.q : Int), .int .i64 (w2.r : Int)].toArray 98 (0, 0)) :: .blk bl (.cells [.slice al2 w2.l.length cl2].toArray 50 (0, 0)) :: .row al2 cl2 101 5 (cfs w2.l) :: .blk bm (mapO .i64 (kv M)) :: .blk bm2 (mapO .i64 (kv N)) :: H)) zpk ?_
        refine w_callF Try.func35 ?_ (hs := writeString_any hao2 hab2 (by unfold FitsB; omega) _ _ _)
        rintro v m9 H9 ⟨rfl, rfl, ao3, ab3, cb3, hao3, hab3, rfl⟩
        obtain ⟨w3, hw3⟩ : ∃ w3, w3 = w2.add t := ⟨_, rfl⟩
        have e1 : w3.out = w2.out ++ t := by rw [hw3]; rfl
        have e2 : w3.l = w2.l := by rw [hw3]; rfl
        have e3 : w3.p = w2.p := by rw [hw3]; rfl
        have e4 : w3.q = w2.q := by rw [hw3]; rfl
        have e5 : w3.r = w2.r := by rw [hw3]; rfl
        have e6 : w3.out.length = w2.out.length + t.length := by rw [e1, List.length_append]
        rw [← hw3] at hgo
        rw [← e1, ← e2, ← e3, ← e4, ← e5]
        (try (refine st ?_; intros))
        refine WQ.next (X.length - (i + 1)) ⟨i + 1, w3, al2, cl2, ao3, ab3, cb3, rfl, rfl, rfl, rfl, rfl, ?_, ?_, ?_, ?_, ?_, ?_, ?_, ?_, ?_⟩ (by omega) zsb zpk
        · omega
        · exact hgo
        · rw [e4, h2]; exact hM3
        · rw [e5, h3]; exact hN3
        · omega
        · rw [Nat.succ_mul]
          generalize i * 131072 = I at *
          omega
        · rw [e2]; omega
        · exact hao3
        · exact hab3
  · rw [List.drop_of_length_le (by omega)] at hgo
    have hfin := hK w al cl ao ab cb hgo (by omega) hM.le hN.le (Nat.le_trans hout (Nat.le_trans (Nat.mul_le_mul_right _ (by omega : i ≤ 65536)) (by decide))) (by omega) hao hab
    (try (refine st ?_; intros))
    exact WQ.weak zsb zpk hfin
end Go.Proofs.Ytgckeelnhafgaaa

/-
  The walk of draft.Weave. No condition.
-/
namespace Go.Eng
open Go
theorem PrOk.len {a b : List Tx} : ∀ {l : List (Nat × Nat)} {i k n m : Nat}, PrOk a b i k l n m → l.length ≤ n - i
  | [], _, _, _, _, _ => Nat.zero_le _
  | p :: l, i, k, n, m, ⟨h1, h2, h3, h4, _, h6⟩ => by
    have := PrOk.len h6
    rw [List.length_cons]; omega
end Go.Eng
namespace Go.Proofs.Ytgckeelnhafgaaa
open Go Go.Eng
set_option maxRecDepth 100000
set_option maxHeartbeats 4000000
set_option linter.all false
attribute [local irreducible] WL WC WQ QFun QLoop Does Q1 QRound QAssign Go.Addr.add
/-- what draft.Weave answers -/
def wres (s t u : Tx) : Tx × List Cf × Nat := if Long [s, t, u] then ([], [], 3) else if 65536 < (weaveL s t u).out.length then ([], [], 3) else ((weaveL s t u).out, (weaveL s t u).l, 0)
theorem wres_long {s t u : Tx} (h : Long [s, t, u] ∨ 65536 < (weaveL s t u).out.length) : wres s t u = ([], [], 3) := by
  unfold wres
  rcases h with h | h
  · rw [if_pos h]
  · rw [if_pos h]; exact ite_self _
theorem wres_ok {s t u : Tx} (h1 : ¬ Long [s, t, u]) (h2 : ¬ 65536 < (weaveL s t u).out.length) : wres s t u = ((weaveL s t u).out, (weaveL s t u).l, 0) := by
  unfold wres
  rw [if_neg h1, if_neg h2]
def WeaveP (s t u : Tx) (m : Mem) (H : SHeap) (v : Value) (m' : Mem) (H' : SHeap) : Prop :=
  m.le m' ∧ ∃ al cl, v = .tuple #[str (wres s t u).1, .slice al (wres s t u).2.1.length cl, .int .i64 ((wres s t u).2.2 : Int)] ∧ H' = .row al cl 101 5 (cfs (wres s t u).2.1) :: H
attribute [local irreducible] kv mapO jn strs sideT sideC weaveL wvGo matchL toks
theorem sq_D17_1 {G : Prop} (h : G := by (repeat (first | (refine sp ?_; (repeat intro zzc)) | (refine WL.makeMap .i64 rfl ?_; intro zzc))); exact WQ.q1 rfl) : G := h
theorem cm_D17_1 {G G' : Prop} (next : G') (h : Bx G' → G := by intro zzn; (try (refine wcal 0 ?_ (hwl := by intro zm zF zle; exact sq_D17_1))); (try (refine wcal 1 ?_ (hwl := by intro zm zF zle; exact sq_D17_1))); (try (refine wcal 2 ?_ (hwl := by intro zm zF zle; exact sq_D17_1))); (try (refine wcal 3 ?_ (hwl := by intro zm zF zle; exact sq_D17_1))); (try (refine wcal 4 ?_ (hwl := by intro zm zF zle; exact sq_D17_1))); (try (refine wcal 5 ?_ (hwl := by intro zm zF zle; exact sq_D17_1))); (try (refine wcal 6 ?_ (hwl := by intro zm zF zle; exact sq_D17_1))); (try (refine wcal 7 ?_ (hwl := by intro zm zF zle; exact sq_D17_1))); (try (refine wcal 8 ?_ (hwl := by intro zm zF zle; exact sq_D17_1))); (try (refine wcal 9 ?_ (hwl := by intro zm zF zle; exact sq_D17_1))); (try (refine wcal 10 ?_ (hwl := by intro zm zF zle; exact sq_D17_1))); (try (refine wcal 11 ?_ (hwl := by intro zm zF zle; exact sq_D17_1))); (try (refine wcal 12 ?_ (hwl := by intro zm zF zle; exact sq_D17_1))); (try (refine wcal 13 ?_ (hwl := by intro zm zF zle; exact sq_D17_1))); (try (refine wcal 14 ?_ (hwl := by intro zm zF zle; exact sq_D17_1))); (try (refine wcal 15 ?_ (hwl := by intro zm zF zle; exact sq_D17_1))); (try (refine wcal 16 ?_ (hwl := by intro zm zF zle; exact sq_D17_1))); (try (refine wcal 17 ?_ (hwl := by intro zm zF zle; exact sq_D17_1))); (try (refine wcal 18 ?_ (hwl := by intro zm zF zle; exact sq_D17_1))); (try (refine wcal 19 ?_ (hwl := by intro zm zF zle; exact sq_D17_1))); (try (refine wcal 20 ?_ (hwl := by intro zm zF zle; exact sq_D17_1))); (try (refine wcal 21 ?_ (hwl := by intro zm zF zle; exact sq_D17_1))); (try (refine wcal 22 ?_ (hwl := by intro zm zF zle; exact sq_D17_1))); (try (refine wcal 23 ?_ (hwl := by intro zm zF zle; exact sq_D17_1))); (try (refine wcal 24 ?_ (hwl := by intro zm zF zle; exact sq_D17_1))); (try (refine wcal 25 ?_ (hwl := by intro zm zF zle; exact sq_D17_1))); (try (refine wcal 26 ?_ (hwl := by intro zm zF zle; exact sq_D17_1))); (try (refine wcal 27 ?_ (hwl := by intro zm zF zle; exact sq_D17_1))); (try (refine wcal 28 ?_ (hwl := by intro zm zF zle; exact sq_D17_1))); (try (refine wcal 29 ?_ (hwl := by intro zm zF zle; exact sq_D17_1))); (try (refine wcal 30 ?_ (hwl := by intro zm zF zle; exact sq_D17_1))); (try (refine wcal 31 ?_ (hwl := by intro zm zF zle; exact sq_D17_1))); (try (refine wcal 32 ?_ (hwl := by intro zm zF zle; exact sq_D17_1))); (try (refine wcal 33 ?_ (hwl := by intro zm zF zle; exact sq_D17_1))); (try (refine wcal 34 ?_ (hwl := by intro zm zF zle; exact sq_D17_1))); (try (refine wcal 35 ?_ (hwl := by intro zm zF zle; exact sq_D17_1))); (try (refine wcal 36 ?_ (hwl := by intro zm zF zle; exact sq_D17_1))); (try (refine wcal 37 ?_ (hwl := by intro zm zF zle; exact sq_D17_1))); (try (refine wcal 38 ?_ (hwl := by intro zm zF zle; exact sq_D17_1))); (try (refine wcal 39 ?_ (hwl := by intro zm zF zle; exact sq_D17_1))); (try (refine wcal 40 ?_ (hwl := by intro zm zF zle; exact sq_D17_1))); (try (refine wcal 41 ?_ (hwl := by intro zm zF zle; exact sq_D17_1))); exact zzn.out) : G := h ⟨next⟩
theorem st_D17_1 {G G' : Prop} (next : G') (h : Bx G' → G := by intro zzn; (first | ((refine st ?_; (repeat intro zzc)); (try ((first | (refine WL.makeMap .i64 rfl ?_; intro zzc) | ((refine iDraw ?_; (first | refine WC.drawAll rfl (by decide +kernel) ?_ | refine WC.draw 1 rfl (by decide +kernel) ?_ | refine WC.draw 2 rfl (by decide +kernel) ?_ | refine WC.draw 3 rfl (by decide +kernel) ?_ | refine WC.draw 4 rfl (by decide +kernel) ?_ | refine WC.draw 5 rfl (by decide +kernel) ?_ | refine WC.draw 6 rfl (by decide +kernel) ?_ | refine WC.draw 7 rfl (by decide +kernel) ?_ | refine WC.draw 8 rfl (by decide +kernel) ?_ | refine WC.draw 9 rfl (by decide +kernel) ?_ | refine WC.draw 10 rfl (by decide +kernel) ?_ | refine WC.draw 11 rfl (by decide +kernel) ?_ | refine WC.draw 12 rfl (by decide +kernel) ?_ | refine WC.draw 13 rfl (by decide +kernel) ?_ | refine WC.draw 14 rfl (by decide +kernel) ?_ | refine WC.draw 15 rfl (by decide +kernel) ?_ | refine WC.draw 16 rfl (by decide +kernel) ?_ | refine WC.draw 17 rfl (by decide +kernel) ?_ | refine WC.draw 18 rfl (by decide +kernel) ?_ | refine WC.draw 19 rfl (by decide +kernel) ?_ | refine WC.draw 20 rfl (by decide +kernel) ?_ | refine WC.draw 21 rfl (by decide +kernel) ?_ | refine WC.draw 22 rfl (by decide +kernel) ?_ | refine WC.draw 23 rfl (by decide +kernel) ?_ | refine WC.draw 24 rfl (by decide +kernel) ?_)); (repeat (refine WD.cons rfl (fun c h => by cases h) sq_D17_1 ?_)); refine WD.nil ?_)); (try (refine st ?_; (repeat intro zzc)))))) | ((first | (refine WL.makeMap .i64 rfl ?_; intro zzc) | ((refine iDraw ?_; (first | refine WC.drawAll rfl (by decide +kernel) ?_ | refine WC.draw 1 rfl (by decide +kernel) ?_ | refine WC.draw 2 rfl (by decide +kernel) ?_ | refine WC.draw 3 rfl (by decide +kernel) ?_ | refine WC.draw 4 rfl (by decide +kernel) ?_ | refine WC.draw 5 rfl (by decide +kernel) ?_ | refine WC.draw 6 rfl (by decide +kernel) ?_ | refine WC.draw 7 rfl (by decide +kernel) ?_ | refine WC.draw 8 rfl (by decide +kernel) ?_ | refine WC.draw 9 rfl (by decide +kernel) ?_ | refine WC.draw 10 rfl (by decide +kernel) ?_ | refine WC.draw 11 rfl (by decide +kernel) ?_ | refine WC.draw 12 rfl (by decide +kernel) ?_ | refine WC.draw 13 rfl (by decide +kernel) ?_ | refine WC.draw 14 rfl (by decide +kernel) ?_ | refine WC.draw 15 rfl (by decide +kernel) ?_ | refine WC.draw 16 rfl (by decide +kernel) ?_ | refine WC.draw 17 rfl (by decide +kernel) ?_ | refine WC.draw 18 rfl (by decide +kernel) ?_ | refine WC.draw 19 rfl (by decide +kernel) ?_ | refine WC.draw 20 rfl (by decide +kernel) ?_ | refine WC.draw 21 rfl (by decide +kernel) ?_ | refine WC.draw 22 rfl (by decide +kernel) ?_ | refine WC.draw 23 rfl (by decide +kernel) ?_ | refine WC.draw 24 rfl (by decide +kernel) ?_)); (repeat (refine WD.cons rfl (fun c h => by cases h) sq_D17_1 ?_)); refine WD.nil ?_)); (try (refine st ?_; (repeat intro zzc))))); (repeat ((first | (refine WL.makeMap .i64 rfl ?_; intro zzc) | ((refine iDraw ?_; (first | refine WC.drawAll rfl (by decide +kernel) ?_ | refine WC.draw 1 rfl (by decide +kernel) ?_ | refine WC.draw 2 rfl (by decide +kernel) ?_ | refine WC.draw 3 rfl (by decide +kernel) ?_ | refine WC.draw 4 rfl (by decide +kernel) ?_ | refine WC.draw 5 rfl (by decide +kernel) ?_ | refine WC.draw 6 rfl (by decide +kernel) ?_ | refine WC.draw 7 rfl (by decide +kernel) ?_ | refine WC.draw 8 rfl (by decide +kernel) ?_ | refine WC.draw 9 rfl (by decide +kernel) ?_ | refine WC.draw 10 rfl (by decide +kernel) ?_ | refine WC.draw 11 rfl (by decide +kernel) ?_ | refine WC.draw 12 rfl (by decide +kernel) ?_ | refine WC.draw 13 rfl (by decide +kernel) ?_ | refine WC.draw 14 rfl (by decide +kernel) ?_ | refine WC.draw 15 rfl (by decide +kernel) ?_ | refine WC.draw 16 rfl (by decide +kernel) ?_ | refine WC.draw 17 rfl (by decide +kernel) ?_ | refine WC.draw 18 rfl (by decide +kernel) ?_ | refine WC.draw 19 rfl (by decide +kernel) ?_ | refine WC.draw 20 rfl (by decide +kernel) ?_ | refine WC.draw 21 rfl (by decide +kernel) ?_ | refine WC.draw 22 rfl (by decide +kernel) ?_ | refine WC.draw 23 rfl (by decide +kernel) ?_ | refine WC.draw 24 rfl (by decide +kernel) ?_)); (repeat (refine WD.cons rfl (fun c h => by cases h) sq_D17_1 ?_)); refine WD.nil ?_)); (try (refine st ?_; (repeat intro zzc))))); (repeat revert zzc); exact zzn.out) : G := h ⟨next⟩
theorem weave_any (s t u : Tx) (w0 : World) (m : Mem) (H : SHeap) : Does Try.prog 13 #[str s, str t, str u] w0 m H (WeaveP s t u m H) := by
  refine Does.of_body (args := [str s, str t, str u]) Try.func13 rfl Try.ntmps13 rfl ?_
  by_cases hlong : Long [s, t, u]
  · have hw := wres_long (.inl hlong)
    refine WC.newRow (T := 101) (sz := 5) ?_
    (refine st_D17_1 ?_; intros; rename_i b3)
    refine w_callF Try.func29 ?_ (hs := long_any (L := [s, t, u]) (by simp) (rowR_blk (T := 9) (fz := (0, 0)) (L := [str s, str t, str u]) zhs (by unfold strs; rfl) (by simp [strs])))
    rintro v m H9 ⟨rfl, rfl, rfl⟩
    rw [dcd_true hlong]
    (try (refine st_D17_1 ?_; intros))
    exact q_fin0 (H0 := .row none 0 101 5 [] :: H) ⟨Mem.le.refl _, none, 0, by rw [hw], by rw [hw]; rfl⟩ (hd := zpk)
  · have hls : s.length ≤ 65536 := Nat.le_of_not_lt fun h => hlong ⟨s, by simp, h⟩
    have hlt : t.length ≤ 65536 := Nat.le_of_not_lt fun h => hlong ⟨t, by simp, h⟩
    have hlu : u.length ≤ 65536 := Nat.le_of_not_lt fun h => hlong ⟨u, by simp, h⟩
    (refine st_D17_1 ?_; intros; rename_i b3)
    refine w_callF Try.func29 ?_ (hs := long_any (L := [s, t, u]) (by simp) (rowR_blk (T := 9) (fz := (0, 0)) (L := [str s, str t, str u]) zhs (by unfold strs; rfl) (by simp [strs])))
    rintro v m H9 ⟨rfl, rfl, rfl⟩
    rw [dcd_false hlong]
    (try (refine st_D17_1 ?_; intros))
    refine w_callF Try.func21 ?_ (hs := toks_any s (by omega) _ _ _)
    rintro v m1 H1 ⟨hle1, ax, cx, rfl, rfl⟩
    (try (refine st_D17_1 ?_; intros))
    refine w_callF Try.func21 ?_ (hs := toks_any t (by omega) _ _ _)
    rintro v m2 H1 ⟨hle2, ay, cy, rfl, rfl⟩
    (try (refine st_D17_1 ?_; intros))
    refine w_callF Try.func21 ?_ (hs := toks_any u (by omega) _ _ _)
    rintro v m3 H1 ⟨hle3, az, cz, rfl, rfl⟩
    have hXl := toks_length s
    have hYl := toks_length t
    have hZl := toks_length u
    have hXf := congrArg List.length (toks_join s)
    have hYf := congrArg List.length (toks_join t)
    have hZf := congrArg List.length (toks_join u)
    have hW : wvGo (toks s) (toks t) (toks u) (matchL (toks s) (toks t)) (matchL (toks s) (toks u)) (toks s) 0 ⟨[], [], 0, 0, 0⟩ = weaveL s t u := by unfold weaveL; rfl
    generalize toks s = X at *
    generalize toks t = Y at *
    generalize toks u = Z at *
    refine WL.rowCap (a := ax) (cap := cx) (T := 9) (sz := 1) (es := strs X) zhs ?_
    intro hcx
    refine WL.rowCap (a := ay) (cap := cy) (T := 9) (sz := 1) (es := strs Y) zhs ?_
    intro hcy
    refine WL.rowCap (a := az) (cap := cz) (T := 9) (sz := 1) (es := strs Z) zhs ?_
    intro hcz
    rw [strs_length] at hcx hcy hcz
    (refine st_D17_1 ?_; intros; rename_i bx by_ bz bm bm2)
    refine w_callF Try.func31 ?_ (hs := match_any (A := X) (B := Y) (by omega) (by omega) hcx hcy (RowR.row (T := 9) (cap := cx) zhs) (RowR.row (T := 9) (cap := cy) zhs))
    rintro v m9 H9 ⟨rfl, a1, c1, rfl, rfl⟩
    have hM := match_ok X Y
    have hMl := hM.len
    (try (refine st_D17_1 ?_; intros))
    refine WC.weak zsb zpk (fill_own (bm := bm) (bm2 := bm2) (bx := bx) (by_ := by_) (bz := bz) (H := .blk bx (.cells [.slice ax X.length cx].toArray 26 (0, 0)) :: .row ax cx 9 1 (strs X) :: .blk by_ (.cells [.slice ay Y.length cy].toArray 26 (0, 0)) :: .row ay cy 9 1 (strs Y) :: .blk bz (.cells [.slice az Z.length cz].toArray 26 (0, 0)) :: .row az cz 9 1 (strs Z) :: .blk bm2 (mapO .i64 []) :: H) hM (by omega) ⟨by omega, by omega⟩ ?_)
    (try (refine st_D17_1 ?_; intros))
    refine w_callF Try.func31 ?_ (hs := match_any (A := X) (B := Z) (by omega) (by omega) hcx hcz (RowR.row (T := 9) (cap := cx) zhs) (RowR.row (T := 9) (cap := cz) zhs))
    rintro v m9 H9 ⟨rfl, a2, c2, rfl, rfl⟩
    have hN := match_ok X Z
    have hNl := hN.len
    (try (refine st_D17_1 ?_; intros))
    refine WC.weak zsb zpk (fill_other (bm := bm2) (bm2 := bm) (bx := bx) (by_ := by_) (bz := bz) (H := .blk bx (.cells [.slice ax X.length cx].toArray 26 (0, 0)) :: .row ax cx 9 1 (strs X) :: .blk by_ (.cells [.slice ay Y.length cy].toArray 26 (0, 0)) :: .row ay cy 9 1 (strs Y) :: .blk bz (.cells [.slice az Z.length cz].toArray 26 (0, 0)) :: .row az cz 9 1 (strs Z) :: .blk bm (mapO .i64 (kv (matchL X Y))) :: H) hN (by omega) ⟨by omega, by omega⟩ ?_)
    (refine st_D17_1 ?_; intros; rename_i bb bl bat)
    refine WC.newRow (T := 101) (sz := 5) ?_
    refine WC.newRow (T := 5) (sz := 1) ?_
    refine WC.weak zsb zpk (weave_loop (X := X) (Y := Y) (Z := Z) (M := matchL X Y) (N := matchL X Z) (F := weaveL s t u) (bx := bx) (by_ := by_) (bz := bz) (bat := bat) (bl := bl) (bb := bb) (bm := bm) (bm2 := bm2) (H := H) ⟨by omega, by omega, hcx⟩ ⟨by omega, by omega, hcy⟩ ⟨by omega, by omega, hcz⟩ MSt.start MSt.start hW ?_)
    intro w al cl ao ab cb hF hp hq hr hout hL hao hab
    have hFl : (w.side X Y Z X.length Y.length Z.length).out.length ≤ w.out.length + 65536 := by
      show (w.out ++ sideT (jn X w.p X.length) (jn Y w.q Y.length) (jn Z w.r Z.length)).length ≤ _
      have h1 := sideT_le (jn X w.p X.length) (jn Y w.q Y.length) (jn Z w.r Z.length)
      have h2 := jn_le Y w.q Y.length
      have h3 := jn_le Z w.r Z.length
      rw [List.length_append]; omega
    rw [hF] at hFl
    (try (refine st_D17_1 ?_; intros))
    refine WL.heap (H' := [.blk bx (.cells [.slice ax X.length cx].toArray 26 (0, 0)), .row ax cx 9 1 (strs X), .blk by_ (.cells [.slice ay Y.length cy].toArray 26 (0, 0)), .row ay cy 9 1 (strs Y), .blk bz (.cells [.slice az Z.length cz].toArray 26 (0, 0)), .row az cz 9 1 (strs Z), .blk bat (.cells [.int .i64 (w.p : Int), .int .i64 (w.q : Int), .int .i64 (w.r : Int)].toArray 98 (0, 0)), .blk bl (.cells [.slice al w.l.length cl].toArray 50 (0, 0)), .row al cl 101 5 (cfs w.l), .blk bb (.cells [.pointer ao, .slice ab w.out.length cb].toArray 97 (0, 0)), .row ab cb 5 1 (bCs w.out)] ++ H) zpk ?_
    refine WL.callV rfl Try.func32 rfl rfl (by exact rfl) (by exact rfl) (side_any (X := X) (Y := Y) (Z := Z) (w := w) (n := X.length) (k1 := Y.length) (k2 := Z.length) ⟨by omega, by omega, hcx⟩ ⟨by omega, by omega, hcy⟩ ⟨by omega, by omega, hcz⟩ ⟨hp, by omega⟩ ⟨hq, by omega⟩ ⟨hr, by omega⟩ (by omega) (by omega) hao hab) ?_
    rintro v m4 H9 ⟨rfl, al2, cl2, ao2, ab2, cb2, hao2, hab2, rfl⟩
    rw [hF]
    simp only [List.cons_append, List.nil_append]
    generalize hG : weaveL s t u = G at *
    (try (refine st_D17_1 ?_; intros))
    refine WL.heap (H' := .blk bb (.cells [.pointer ao2, .slice ab2 G.out.length cb2].toArray 97 (0, 0)) :: .row ab2 cb2 5 1 (bCs G.out) :: .blk bl (.cells [.slice al2 G.l.length cl2].toArray 50 (0, 0)) :: .row al2 cl2 101 5 (cfs G.l) :: H) zpk ?_
    refine w_callF Try.func36 ?_ (hs := bStr1_any hab2 (by omega) _ _ _)
    rintro v m5 H9 ⟨rfl, rfl, it, hk, rfl⟩
    (refine st_D17_1 ?_; intros; rename_i b8)
    refine w_callF Try.func29 ?_ (hs := long_any (L := [G.out]) (by simp) (rowR_blk (T := 9) (fz := (0, 0)) (L := [str G.out]) zhs (by unfold strs; rfl) (by simp [strs])))
    rintro v m6 H9 ⟨rfl, rfl, rfl⟩
    by_cases hbig : 65536 < G.out.length
    · have hw := wres_long (s := s) (t := t) (u := u) (.inr (by rw [hG]; exact hbig))
      rw [dcd_true (show Long [G.out] from ⟨G.out, by simp, hbig⟩)]
      refine WL.newRow (T := 101) (sz := 5) ?_
      (try (refine st_D17_1 ?_; intros))
      exact q_fin0 (H0 := .row none 0 101 5 [] :: H) ⟨hle1.trans (hle2.trans hle3), none, 0, by rw [hw], by rw [hw]; rfl⟩ (hd := zpk)
    · have hw := wres_ok (s := s) (t := t) (u := u) hlong (by rw [hG]; exact hbig)
      rw [hG] at hw
      rw [dcd_false (show ¬ Long [G.out] from by rintro ⟨x, hx, hx2⟩; rw [List.mem_singleton] at hx; subst hx; exact hbig hx2)]
      (try (refine st_D17_1 ?_; intros))
      refine WC.drawE 3 ([.blk bl (.cells [.slice al2 G.l.length cl2].toArray 50 (0, 0))]) (.blk bb (.cells [.pointer ao2, .slice ab2 G.out.length cb2].toArray 97 (0, 0)) :: it :: .row al2 cl2 101 5 (cfs G.l) :: H) rfl (by decide +kernel) zpk ?_
      (refine cm_D17_1 ?_)
      refine WE.act1 0 (by decide +kernel) rfl rfl (fun c h => by cases h) ?_
      refine WL.heap (H' := .blk bb (.cells [.pointer ao2, .slice ab2 G.out.length cb2].toArray 97 (0, 0)) :: it :: .blk bl (.cells [.slice al2 G.l.length cl2].toArray 50 (0, 0)) :: .row al2 cl2 101 5 (cfs G.l) :: H) zpk ?_
      refine w_callF Try.func36 ?_ (hs := bStr2_any hab2 (by omega) hk _ _ _)
      rintro v m7 H9 ⟨rfl, rfl, it2, hk2, rfl⟩
      (try (refine st_D17_1 ?_; intros))
      refine WQ.acted (B := []) (U := .row al2 cl2 101 5 (cfs G.l) :: H) rfl (Mem.le.refl _) zpk ?_
      (refine cm_D17_1 ?_)
      refine WE.done (by decide +kernel) ?_
      (try (refine st_D17_1 ?_; intros))
      exact q_fin0 (H0 := .row al2 cl2 101 5 (cfs G.l) :: H) ⟨hle1.trans (hle2.trans hle3), al2, cl2, by rw [hw], by rw [hw]⟩ (hd := zpk)
end Go.Proofs.Ytgckeelnhafgaaa

/-
  A walk's engine: the first entry of a map whose keys are texts. No condition.
-/
set_option linter.all false
namespace Go.Eng
open Go Go.RowKit
section
variable {P : Program} {ro : Option Nat} {n : Nat} {w0 : World} {Q : Exit → Act → World → Prop} {r : Env} {ds : List Dfr} {m : Mem} {H : SHeap}
  {ops : Array Oper} {l : List Oper} {d : Nat} {ty : TypeId} {pos : String} {after : Array Edge} {t : TypeId} {x y : Operand}
theorem run_checkKeyS {kt : TypeId} {k : ByteArray} {e : Bool} {w : World} (hk : P.underlying kt = some .string) : (Instr.checkKey e 10000 kt (.string k)).run P w = .ok () w := by
  have key : ∀ j, (Instr.checkKey e (j + 1) kt (.string k)).run P w = .ok () w := by
    intro j
    rw [Instr.checkKey]
    simp [run_underlying hk]
  exact key 9999
theorem WL.mapFirst {kt et : TypeId} {b : Nat} {k : ByteArray} {v : Value} {u : Operand} {H' : SHeap} (hx : r.ev x = some (.map (some b))) (hy : r.ev y = some (.string k)) (hv : r.ev u = some v)
    (hu : P.underlying t = some (.map kt et)) (hk : P.underlying kt = some .string) (hr : Repl (.blk b (.map #[] 0)) (.blk b (.map #[⟨.string k, v, 0⟩] 1)) H H')
    (h : WL P ro n w0 ops Q l r ds m H') :
    WL P ro n w0 ops Q (⟨none, .insert t x y u, ty, pos, after, none⟩ :: l) r ds m H :=
  .act (fun m' H'' => m' = m ∧ H'' = H') rfl (fun _ h => by cases h)
    (fun tmps w ho hs => ⟨m, H', w.putObj b (.map #[⟨.string k, v, 0⟩] 1), by
      have hb : w.heap[b]? = some (.map #[] 0) := hs.own _ hr.mem
      have h1 : (getObj b).run P w = .ok (.map #[] 0) w := by simp [getObj, Sem.run, hb]
      have h3 : ∀ o, (setObj b o).run P w = .ok () (w.putObj b o) := fun o => by simp [setObj, Sem.run, hb, World.putObj]
      have h2 : (Instr.mapUpdate t (.map (some b)) (.string k) v).run P w = .ok () (w.putObj b (.map #[⟨.string k, v, 0⟩] 1)) := by
        simp only [Instr.mapUpdate, Sem.run_bind, run_underlying hu, Result.andThen_ok, h1]
        simp only [Sem.run_bind, Sem.run_pure, Result.andThen_ok, run_checkKeyS hk, Instr.findKey, run_underlying hk]
        rw [show Instr.findNow .string (.string k) (#[] : Array MapEntry).toList 0 = some none from rfl]
        simp only [Sem.run_pure, Result.andThen_ok]
        rw [h3]; rfl
      simp only [execOp, ho.ev hx, ho.ev hy, ho.ev hv, h2, Sem.run_bind, Result.andThen_ok]
      try rfl, hs.replObj hr, rfl, rfl⟩)
    (by rintro _ _ ⟨rfl, rfl⟩; exact h)
end
end Go.Eng

/-
  The walks of draft.New and Len. No condition.
-/
namespace Go.Proofs.Ytgckeelnhafgaaa
open Go Go.Eng
set_option maxRecDepth 100000
set_option maxHeartbeats 4000000
set_option linter.all false
attribute [local irreducible] WL WC WQ QFun QLoop Does Q1 QRound QAssign Go.Addr.add
theorem sq_D18_1 {G : Prop} (h : G := by (repeat (first | (refine sp ?_; (repeat intro zzc)) | (refine WL.makeMap .i64 rfl ?_; intro zzc))); exact WQ.q1 rfl) : G := h
theorem st_D18_1 {G G' : Prop} (next : G') (h : Bx G' → G := by intro zzn; (first | ((refine st ?_; (repeat intro zzc)); (try ((first | (refine WL.makeMap .i64 rfl ?_; intro zzc) | ((refine iDraw ?_; (first | refine WC.drawAll rfl (by decide +kernel) ?_ | refine WC.draw 1 rfl (by decide +kernel) ?_ | refine WC.draw 2 rfl (by decide +kernel) ?_ | refine WC.draw 3 rfl (by decide +kernel) ?_ | refine WC.draw 4 rfl (by decide +kernel) ?_ | refine WC.draw 5 rfl (by decide +kernel) ?_ | refine WC.draw 6 rfl (by decide +kernel) ?_ | refine WC.draw 7 rfl (by decide +kernel) ?_ | refine WC.draw 8 rfl (by decide +kernel) ?_ | refine WC.draw 9 rfl (by decide +kernel) ?_ | refine WC.draw 10 rfl (by decide +kernel) ?_ | refine WC.draw 11 rfl (by decide +kernel) ?_ | refine WC.draw 12 rfl (by decide +kernel) ?_ | refine WC.draw 13 rfl (by decide +kernel) ?_ | refine WC.draw 14 rfl (by decide +kernel) ?_ | refine WC.draw 15 rfl (by decide +kernel) ?_ | refine WC.draw 16 rfl (by decide +kernel) ?_ | refine WC.draw 17 rfl (by decide +kernel) ?_ | refine WC.draw 18 rfl (by decide +kernel) ?_ | refine WC.draw 19 rfl (by decide +kernel) ?_ | refine WC.draw 20 rfl (by decide +kernel) ?_ | refine WC.draw 21 rfl (by decide +kernel) ?_ | refine WC.draw 22 rfl (by decide +kernel) ?_ | refine WC.draw 23 rfl (by decide +kernel) ?_ | refine WC.draw 24 rfl (by decide +kernel) ?_)); (repeat (refine WD.cons rfl (fun c h => by cases h) sq_D18_1 ?_)); refine WD.nil ?_)); (try (refine st ?_; (repeat intro zzc)))))) | ((first | (refine WL.makeMap .i64 rfl ?_; intro zzc) | ((refine iDraw ?_; (first | refine WC.drawAll rfl (by decide +kernel) ?_ | refine WC.draw 1 rfl (by decide +kernel) ?_ | refine WC.draw 2 rfl (by decide +kernel) ?_ | refine WC.draw 3 rfl (by decide +kernel) ?_ | refine WC.draw 4 rfl (by decide +kernel) ?_ | refine WC.draw 5 rfl (by decide +kernel) ?_ | refine WC.draw 6 rfl (by decide +kernel) ?_ | refine WC.draw 7 rfl (by decide +kernel) ?_ | refine WC.draw 8 rfl (by decide +kernel) ?_ | refine WC.draw 9 rfl (by decide +kernel) ?_ | refine WC.draw 10 rfl (by decide +kernel) ?_ | refine WC.draw 11 rfl (by decide +kernel) ?_ | refine WC.draw 12 rfl (by decide +kernel) ?_ | refine WC.draw 13 rfl (by decide +kernel) ?_ | refine WC.draw 14 rfl (by decide +kernel) ?_ | refine WC.draw 15 rfl (by decide +kernel) ?_ | refine WC.draw 16 rfl (by decide +kernel) ?_ | refine WC.draw 17 rfl (by decide +kernel) ?_ | refine WC.draw 18 rfl (by decide +kernel) ?_ | refine WC.draw 19 rfl (by decide +kernel) ?_ | refine WC.draw 20 rfl (by decide +kernel) ?_ | refine WC.draw 21 rfl (by decide +kernel) ?_ | refine WC.draw 22 rfl (by decide +kernel) ?_ | refine WC.draw 23 rfl (by decide +kernel) ?_ | refine WC.draw 24 rfl (by decide +kernel) ?_)); (repeat (refine WD.cons rfl (fun c h => by cases h) sq_D18_1 ?_)); refine WD.nil ?_)); (try (refine st ?_; (repeat intro zzc))))); (repeat ((first | (refine WL.makeMap .i64 rfl ?_; intro zzc) | ((refine iDraw ?_; (first | refine WC.drawAll rfl (by decide +kernel) ?_ | refine WC.draw 1 rfl (by decide +kernel) ?_ | refine WC.draw 2 rfl (by decide +kernel) ?_ | refine WC.draw 3 rfl (by decide +kernel) ?_ | refine WC.draw 4 rfl (by decide +kernel) ?_ | refine WC.draw 5 rfl (by decide +kernel) ?_ | refine WC.draw 6 rfl (by decide +kernel) ?_ | refine WC.draw 7 rfl (by decide +kernel) ?_ | refine WC.draw 8 rfl (by decide +kernel) ?_ | refine WC.draw 9 rfl (by decide +kernel) ?_ | refine WC.draw 10 rfl (by decide +kernel) ?_ | refine WC.draw 11 rfl (by decide +kernel) ?_ | refine WC.draw 12 rfl (by decide +kernel) ?_ | refine WC.draw 13 rfl (by decide +kernel) ?_ | refine WC.draw 14 rfl (by decide +kernel) ?_ | refine WC.draw 15 rfl (by decide +kernel) ?_ | refine WC.draw 16 rfl (by decide +kernel) ?_ | refine WC.draw 17 rfl (by decide +kernel) ?_ | refine WC.draw 18 rfl (by decide +kernel) ?_ | refine WC.draw 19 rfl (by decide +kernel) ?_ | refine WC.draw 20 rfl (by decide +kernel) ?_ | refine WC.draw 21 rfl (by decide +kernel) ?_ | refine WC.draw 22 rfl (by decide +kernel) ?_ | refine WC.draw 23 rfl (by decide +kernel) ?_ | refine WC.draw 24 rfl (by decide +kernel) ?_)); (repeat (refine WD.cons rfl (fun c h => by cases h) sq_D18_1 ?_)); refine WD.nil ?_)); (try (refine st ?_; (repeat intro zzc))))); (repeat revert zzc); exact zzn.out) : G := h ⟨next⟩
theorem new_any (s : Tx) (hs : s.length ≤ 65536) (w0 : World) (m : Mem) (H : SHeap) : Does Try.prog 14 #[str s] w0 m H (fun v m' H' => m' = m ∧ ∃ (b bm : Nat) (a : Option Addr) (c : Nat), v = .tuple #[.pointer (some ⟨b, 0, none⟩), .int .i64 0] ∧ H' = .blk b (.cells [.slice a 1 c, .map (some bm)].toArray 66 (0, 0)) :: H) := by
  refine Does.of_body (args := [str s]) Try.func14 rfl Try.ntmps14 rfl ?_
  (refine st_D18_1 ?_; intros; rename_i b3)
  refine w_callF Try.func29 ?_ (hs := long_any (L := [s]) (by simp) (rowR_blk (T := 9) (fz := (0, 0)) (L := [str s]) zhs rfl (by simp [strs])))
  rintro v m H9 ⟨rfl, rfl, rfl⟩
  rw [dcd_false (show ¬ Long [s] from by rintro ⟨x, hx, hx2⟩; rw [List.mem_singleton] at hx; subst hx; omega)]
  (refine st_D18_1 ?_; intros; rename_i bd bm)
  refine WL.mapFirst rfl rfl rfl rfl rfl (by repeat (first | exact Repl.here | apply Repl.there)) ?_
  (refine st_D18_1 ?_; intros; rename_i bh)
  exact q_fin0 (H0 := .blk bh (.cells [.slice (some ⟨bd, 0, none⟩) 1 1, .map (some bm)].toArray 66 (0, 0)) :: H) ⟨rfl, bh, bm, some ⟨bd, 0, none⟩, 1, rfl, rfl⟩ (hd := zpk)
theorem len_any {b n c : Nat} {a : Option Addr} {mp : Value} (w0 : World) (m : Mem) (H : SHeap) : Does Try.prog 6 #[.pointer (some ⟨b, 0, none⟩)] w0 m (.blk b (.cells [.slice a n c, mp].toArray 66 (0, 0)) :: H) (Gives (.int .i64 (n : Int)) m (.blk b (.cells [.slice a n c, mp].toArray 66 (0, 0)) :: H)) := by
  refine Does.of_body (args := [.pointer (some ⟨b, 0, none⟩)]) Try.func6 rfl Try.ntmps6 rfl ?_
  (try (refine st_D18_1 ?_; intros))
  exact q_fin0 (H0 := .blk b (.cells [.slice a n c, mp].toArray 66 (0, 0)) :: H) (Gives.mk rfl) (hd := zpk)
end Go.Proofs.Ytgckeelnhafgaaa

/-
  The law's own example. No condition.
-/
namespace Go.Eng
open Go
theorem toks_abc : toks [97, 32, 98, 32, 99] = [[97], [32], [98], [32], [99]] := by decide +kernel
theorem toks_axc : toks [97, 32, 120, 32, 99] = [[97], [32], [120], [32], [99]] := by decide +kernel
theorem toks_abd : toks [97, 32, 98, 32, 100] = [[97], [32], [98], [32], [100]] := by decide +kernel
theorem match_axc : matchL [[97], [32], [98], [32], [99]] [[97], [32], [120], [32], [99]] = [(0, 0), (1, 1), (3, 3), (4, 4)] := by
  have h1 : headN [[97], [32], [98], [32], [99]] [[97], [32], [120], [32], [99]] = 2 := by decide +kernel
  have h2 : tailN [[97], [32], [98], [32], [99]] [[97], [32], [120], [32], [99]] = 2 := by decide +kernel
  have h3 : midA [[97], [32], [98], [32], [99]] [[97], [32], [120], [32], [99]] = [[98]] := by decide +kernel
  have h4 : midB [[97], [32], [98], [32], [99]] [[97], [32], [120], [32], [99]] = [[120]] := by decide +kernel
  unfold matchL
  rw [h1, h2, h3, h4]
  simp [midL, firstJ]
  decide
theorem match_abd : matchL [[97], [32], [98], [32], [99]] [[97], [32], [98], [32], [100]] = [(0, 0), (1, 1), (2, 2), (3, 3)] := by
  have h1 : headN [[97], [32], [98], [32], [99]] [[97], [32], [98], [32], [100]] = 4 := by decide +kernel
  have h2 : tailN [[97], [32], [98], [32], [99]] [[97], [32], [98], [32], [100]] = 0 := by decide +kernel
  have h3 : midA [[97], [32], [98], [32], [99]] [[97], [32], [98], [32], [100]] = [[99]] := by decide +kernel
  have h4 : midB [[97], [32], [98], [32], [99]] [[97], [32], [98], [32], [100]] = [[100]] := by decide +kernel
  unfold matchL
  rw [h1, h2, h3, h4]
  simp [midL, firstJ]
  decide
theorem weave_wakes : (weaveL [97, 32, 98, 32, 99] [97, 32, 120, 32, 99] [97, 32, 98, 32, 100]).out = [97, 32, 120, 32, 100] ∧ (weaveL [97, 32, 98, 32, 99] [97, 32, 120, 32, 99] [97, 32, 98, 32, 100]).l = [] := by
  unfold weaveL
  rw [toks_abc, toks_axc, toks_abd, match_axc, match_abd]
  decide +kernel
end Go.Eng

/-
  The walk of the laws' wakes. No condition.
-/
namespace Go.Proofs.Ytgckeelnhafgaaa
open Go Go.Eng
set_option maxRecDepth 100000
set_option maxHeartbeats 4000000
set_option linter.all false
attribute [local irreducible] WL WC WQ QFun QLoop Does Q1 QRound QAssign Go.Addr.add
/-- a call that hands back a value; memory may have grown -/
def Tells (v : Value) (m : Mem) (H : SHeap) : Value → Mem → SHeap → Prop := fun u m' H' => m.le m' ∧ u = v ∧ H' = H
theorem Tells.mk {v u : Value} {m m' : Mem} {H : SHeap} (hm : m.le m') (h : u = v) : Tells v m H u m' H := ⟨hm, h, rfl⟩
theorem wres_wakes : wres [97, 32, 98, 32, 99] [97, 32, 120, 32, 99] [97, 32, 98, 32, 100] = ([97, 32, 120, 32, 100], [], 0) := by
  obtain ⟨h1, h2⟩ := weave_wakes
  rw [wres_ok (by rintro ⟨x, hx, hx2⟩; simp only [List.mem_cons, List.not_mem_nil, or_false] at hx; rcases hx with rfl | rfl | rfl <;> simp at hx2) (by rw [h1]; decide), h1, h2]
attribute [local irreducible] wres
theorem wakes_any (w0 : World) (m : Mem) (H : SHeap) : Does Try.prog 4 #[] w0 m H (Tells (.bool true) m H) := by
  refine Does.of_body (args := []) Try.func4 rfl Try.ntmps4 rfl ?_
  (try (refine st ?_; intros))
  refine w_callF Try.func13 ?_ (hs := weave_any [97, 32, 98, 32, 99] [97, 32, 120, 32, 99] [97, 32, 98, 32, 100] _ _ _)
  rintro v m1 H1 ⟨hle, al, cl, rfl, rfl⟩
  rw [show (wres [97, 32, 98, 32, 99] [97, 32, 120, 32, 99] [97, 32, 98, 32, 100]).1 = [97, 32, 120, 32, 100] by rw [wres_wakes], show (wres [97, 32, 98, 32, 99] [97, 32, 120, 32, 99] [97, 32, 98, 32, 100]).2.1 = [] by rw [wres_wakes], show (((wres [97, 32, 98, 32, 99] [97, 32, 120, 32, 99] [97, 32, 98, 32, 100]).2.2 : Nat) : Int) = 0 by rw [wres_wakes]; rfl, List.length_nil]
  (try (refine st ?_; intros))
  refine w_callF Try.func14 ?_ (hs := new_any [97] (by decide) _ _ _)
  rintro v m2 H2 ⟨rfl, b, bm, a, c, rfl, rfl⟩
  (try (refine st ?_; intros))
  refine w_callF Try.func6 ?_ (hs := len_any _ _ _)
  rintro v m3 H3 ⟨rfl, rfl, rfl⟩
  (try (refine st ?_; intros))
  exact q_fin0 (H0 := H) (Tells.mk hle (congrArg Value.bool (show dcd (((1 : Nat) : Int) = 1) = true from dcd_true rfl))) (hd := zpk)
end Go.Proofs.Ytgckeelnhafgaaa

/-
  A walk's engine: maps whose keys are texts: what is found, what is written, what is taken away. No condition.
-/
set_option linter.all false
namespace Go.Eng
open Go Go.RowKit
abbrev EntT := Nat × List UInt8 × Value
def mapTE (es : List EntT) : List MapEntry := es.map fun e => ⟨.string ⟨e.2.1.toArray⟩, e.2.2, e.1⟩
def mapT (es : List EntT) (c : Nat) : Obj := .map (mapTE es).toArray c
def getT : List EntT → List UInt8 → Option Value
  | [], _ => none
  | e :: es, k => if k = e.2.1 then some e.2.2 else getT es k
/-- a value is written at its key, where there is one -/
def setT : List EntT → List UInt8 → Value → List EntT
  | [], _, _ => []
  | e :: es, k, v => if k = e.2.1 then (e.1, e.2.1, v) :: es else e :: setT es k v
def eraseT : List EntT → List UInt8 → List EntT
  | [], _ => []
  | e :: es, k => if k = e.2.1 then es else e :: eraseT es k
theorem mapTE_length (es : List EntT) : (mapTE es).length = es.length := List.length_map _
theorem bytes_same (x : ByteArray) : (x == x) = true := by
  obtain ⟨d⟩ := x
  show (d == d) = true
  simp
theorem bytes_eq (a b : List UInt8) : ((⟨a.toArray⟩ : ByteArray) == ⟨b.toArray⟩) = decide (a = b) := by
  by_cases h : a = b
  · subst h; rw [bytes_same, decide_eq_true rfl]
  · rw [decide_eq_false h]
    show (a.toArray == b.toArray) = false
    simp [h]
theorem find_noneT {k : List UInt8} : ∀ (es : List EntT) (i : Nat), getT es k = none → Instr.findNow .string (.string ⟨k.toArray⟩) (mapTE es) i = some none
  | [], i, _ => rfl
  | e :: es, i, h => by
    rw [getT] at h
    split at h
    · cases h
    · next hk =>
      have hs : Instr.sameNow .string (.string ⟨k.toArray⟩) (.string ⟨e.2.1.toArray⟩) = some false := by
        show some _ = _
        rw [bytes_eq, decide_eq_false hk]
      show (match Instr.sameNow .string (.string ⟨k.toArray⟩) (.string ⟨e.2.1.toArray⟩) with
        | some true => some (some (i, e.2.2)) | some false => Instr.findNow .string (.string ⟨k.toArray⟩) (mapTE es) (i + 1) | none => none) = _
      rw [hs]
      exact find_noneT es (i + 1) h
theorem erase_map {α β : Type} (f : α → β) : ∀ (l : List α) (j : Nat), (l.map f).eraseIdx j = (l.eraseIdx j).map f
  | [], j => by cases j <;> rfl
  | a :: l, 0 => rfl
  | a :: l, j + 1 => by
    show f a :: (l.map f).eraseIdx j = f a :: (l.eraseIdx j).map f
    rw [erase_map f l j]
theorem erase_noneT {k : List UInt8} : ∀ (es : List EntT), getT es k = none → eraseT es k = es
  | [], _ => rfl
  | e :: es, h => by
    rw [getT] at h
    split at h
    · cases h
    · next hk => rw [eraseT, if_neg hk, erase_noneT es h]
theorem find_someT {k : List UInt8} {z : Value} : ∀ (es : List EntT) (i : Nat), getT es k = some z → ∃ j, Instr.findNow .string (.string ⟨k.toArray⟩) (mapTE es) i = some (some (i + j, z)) ∧ (∃ e, es[j]? = some e ∧ e.2.1 = k) ∧
    (∀ v, setT es k v = es.modify j fun e => (e.1, e.2.1, v)) ∧ eraseT es k = es.eraseIdx j
  | [], i, h => by cases h
  | e :: es, i, h => by
    rw [getT] at h
    split at h
    · next hk =>
      cases h
      refine ⟨0, ?_, ⟨e, rfl, hk.symm⟩, fun v => ?_, ?_⟩
      · show (match Instr.sameNow .string (.string ⟨k.toArray⟩) (.string ⟨e.2.1.toArray⟩) with
          | some true => some (some (i, e.2.2)) | some false => Instr.findNow .string (.string ⟨k.toArray⟩) (mapTE es) (i + 1) | none => none) = _
        rw [show Instr.sameNow .string (.string ⟨k.toArray⟩) (.string ⟨e.2.1.toArray⟩) = some true by show some _ = _; rw [bytes_eq, decide_eq_true hk]]
        rfl
      · rw [setT, if_pos hk]; rfl
      · rw [eraseT, if_pos hk]; rfl
    · next hk =>
      obtain ⟨j, h1, ⟨x, h2, h3⟩, h4, h5⟩ := find_someT es (i + 1) h
      refine ⟨j + 1, ?_, ⟨x, by simpa using h2, h3⟩, fun v => ?_, ?_⟩
      · show (match Instr.sameNow .string (.string ⟨k.toArray⟩) (.string ⟨e.2.1.toArray⟩) with
          | some true => some (some (i, e.2.2)) | some false => Instr.findNow .string (.string ⟨k.toArray⟩) (mapTE es) (i + 1) | none => none) = _
        rw [show Instr.sameNow .string (.string ⟨k.toArray⟩) (.string ⟨e.2.1.toArray⟩) = some false by show some _ = _; rw [bytes_eq, decide_eq_false hk]]
        rw [show i + (j + 1) = i + 1 + j by omega]
        exact h1
      · rw [setT, if_neg hk, h4]; simp
      · rw [eraseT, if_neg hk, h5]; simp
section
variable {P : Program} {ro : Option Nat} {n : Nat} {w0 : World} {Q : Exit → Act → World → Prop} {r : Env} {ds : List Dfr} {m : Mem} {H : SHeap}
  {ops : Array Oper} {l : List Oper} {d : Nat} {ty : TypeId} {pos : String} {after : Array Edge} {t : TypeId} {x y : Operand}
theorem WL.makeMapT (hd : Nat.blt d n = true) (h : ∀ b, WL P ro n w0 ops Q l ((d, .map (some b)) :: r) ds m (.blk b (mapT [] 0) :: H)) :
    WL P ro n w0 ops Q (⟨some d, .makeMap t none, ty, pos, after, none⟩ :: l) r ds m H :=
  .gen (fun v m' H' => ∃ b, v = .map (some b) ∧ m' = m ∧ H' = .blk b (mapT [] 0) :: H) hd (fun _ h => by cases h)
    (fun tmps w ho hs => ⟨_, m, _, w.alloc (mapT [] 0), by
      simp only [execOp, Instr.makeMap, Option.map_none, Sem.run_bind, Sem.run_pure, run_newObj_alloc, Result.andThen_ok]
      rfl, hs.alloc _, w.heap.size, rfl, rfl, rfl⟩)
    (by rintro _ _ _ ⟨b, rfl, rfl, rfl⟩; exact h b)
theorem run_lookT {kt et : TypeId} {b : Nat} {k : List UInt8} {z : Value} {es : List EntT} {c : Nat} {ok : Bool} {w : World} (hb : w.heap[b]? = some (mapT es c))
    (hu : P.underlying t = some (.map kt et)) (hk : P.underlying kt = some .string) (hz : ∀ w, (zeroValue et).run P w = .ok z w) :
    (Instr.lookup t (.map (some b)) (.string ⟨k.toArray⟩) ok).run P w = .ok (if ok then .tuple #[(getT es k).getD z, .bool (getT es k).isSome] else (getT es k).getD z) w := by
  have h1 : (getObj b).run P w = .ok (mapT es c) w := by simp [getObj, Sem.run, hb, mapT]
  simp only [Instr.lookup, Sem.run_bind, run_underlying hu, Result.andThen_ok, h1]
  simp only [mapT, Sem.run_bind, Sem.run_pure, Result.andThen_ok, run_checkKeyS hk, Instr.findKey, run_underlying hk]
  cases hl : getT es k with
  | none =>
    rw [find_noneT es 0 hl]
    cases ok <;> simp [hz, Result.andThen]
  | some v =>
    obtain ⟨j, hj, _⟩ := find_someT es 0 hl
    rw [hj]
    cases ok <;> simp [Result.andThen]
theorem WL.lookT {kt et : TypeId} {b c : Nat} {k : List UInt8} {z : Value} {es : List EntT} (hx : r.ev x = some (.map (some b))) (hy : r.ev y = some (str k)) (hm : Item.blk b (mapT es c) ∈ H)
    (hu : P.underlying t = some (.map kt et)) (hk : P.underlying kt = some .string) (hz : ∀ w, (zeroValue et).run P w = .ok z w) (hd : Nat.blt d n = true)
    (h : WL P ro n w0 ops Q l ((d, .tuple #[(getT es k).getD z, .bool (getT es k).isSome]) :: r) ds m H) :
    WL P ro n w0 ops Q (⟨some d, .lookup t x y true, ty, pos, after, none⟩ :: l) r ds m H :=
  .gen (fun v m' H' => v = .tuple #[(getT es k).getD z, .bool (getT es k).isSome] ∧ m' = m ∧ H' = H) hd (fun _ h => by cases h)
    (fun tmps w ho hs => ⟨_, m, H, w, by
      have h2 := run_lookT (P := P) (t := t) (k := k) (ok := true) (hs.own _ hm) hu hk hz
      simp only [if_true] at h2
      simp only [execOp, ho.ev hx, ho.ev hy, Sem.run_bind, h2, Result.andThen_ok, Sem.run_pure], hs, rfl, rfl, rfl⟩)
    (by rintro _ _ _ ⟨rfl, rfl, rfl⟩; exact h)
theorem WL.lookT1 {kt et : TypeId} {b c : Nat} {k : List UInt8} {z : Value} {es : List EntT} (hx : r.ev x = some (.map (some b))) (hy : r.ev y = some (str k)) (hm : Item.blk b (mapT es c) ∈ H)
    (hu : P.underlying t = some (.map kt et)) (hk : P.underlying kt = some .string) (hz : ∀ w, (zeroValue et).run P w = .ok z w) (hd : Nat.blt d n = true)
    (h : WL P ro n w0 ops Q l ((d, (getT es k).getD z) :: r) ds m H) :
    WL P ro n w0 ops Q (⟨some d, .lookup t x y false, ty, pos, after, none⟩ :: l) r ds m H :=
  .gen (fun v m' H' => v = (getT es k).getD z ∧ m' = m ∧ H' = H) hd (fun _ h => by cases h)
    (fun tmps w ho hs => ⟨_, m, H, w, by
      have h2 := run_lookT (P := P) (t := t) (k := k) (ok := false) (hs.own _ hm) hu hk hz
      simp only [Bool.false_eq_true, if_false] at h2
      simp only [execOp, ho.ev hx, ho.ev hy, Sem.run_bind, h2, Result.andThen_ok, Sem.run_pure], hs, rfl, rfl, rfl⟩)
    (by rintro _ _ _ ⟨rfl, rfl, rfl⟩; exact h)
/-- what a map holds when a value is written at a key -/
def putM (es : List EntT) (c : Nat) (k : List UInt8) (v : Value) : List EntT := if (getT es k).isSome then setT es k v else es ++ [(c, k, v)]
def putC (es : List EntT) (c : Nat) (k : List UInt8) : Nat := if (getT es k).isSome then c else c + 1
theorem run_putT {kt et : TypeId} {b c : Nat} {k : List UInt8} {v : Value} {es : List EntT} {w : World} (hb : w.heap[b]? = some (mapT es c)) (hu : P.underlying t = some (.map kt et)) (hk : P.underlying kt = some .string) :
    (Instr.mapUpdate t (.map (some b)) (.string ⟨k.toArray⟩) v).run P w = .ok () (w.putObj b (mapT (putM es c k v) (putC es c k))) := by
  have h1 : (getObj b).run P w = .ok (mapT es c) w := by simp [getObj, Sem.run, hb, mapT]
  have h3 : ∀ o, (setObj b o).run P w = .ok () (w.putObj b o) := fun o => by simp [setObj, Sem.run, hb, World.putObj, mapT]
  simp only [Instr.mapUpdate, Sem.run_bind, run_underlying hu, Result.andThen_ok, h1]
  simp only [mapT, Sem.run_bind, Sem.run_pure, Result.andThen_ok, run_checkKeyS hk, Instr.findKey, run_underlying hk]
  cases hl : getT es k with
  | none =>
    rw [find_noneT es 0 hl]
    simp only [Sem.run_pure, Result.andThen_ok]
    rw [h3, show putM es c k v = es ++ [(c, k, v)] by unfold putM; rw [hl]; rfl, show putC es c k = c + 1 by unfold putC; rw [hl]; rfl]
    congr 2
    simp [mapTE]
  | some z =>
    obtain ⟨j, hj, ⟨e, he, hek⟩, hset, _⟩ := find_someT es 0 hl
    rw [hj]
    have hkey : (((mapTE es).toArray[0 + j]?).map (·.key)).getD (Value.string ⟨k.toArray⟩) = .string ⟨k.toArray⟩ := by
      rw [Nat.zero_add]
      simp [mapTE, he, hek]
    have hbits : ∀ q : ByteArray, Instr.sameBits 10000 (.string q) (.string q) = true := fun q => bytes_same q
    simp only [Sem.run_pure, Result.andThen_ok, Sem.run_bind, hkey, Instr.keyThatStays, hbits, if_true]
    rw [h3, show putM es c k v = setT es k v by unfold putM; rw [hl]; rfl, show putC es c k = c by unfold putC; rw [hl]; rfl, hset v]
    congr 2
    show Obj.map _ c = Obj.map _ c
    congr 1
    rw [Nat.zero_add]
    apply Array.ext'
    rw [Array.toList_modify]
    show (mapTE es).modify j _ = mapTE _
    apply List.ext_getElem?
    intro q
    rw [List.getElem?_modify]
    unfold mapTE
    rw [List.getElem?_map, List.getElem?_map, List.getElem?_modify]
    by_cases hq : j = q
    · subst hq
      rw [he]
      simp [hek]
    · simp [hq]
theorem WL.putT {kt et : TypeId} {b c : Nat} {k : List UInt8} {v : Value} {es : List EntT} {u : Operand} {H' : SHeap} (hx : r.ev x = some (.map (some b))) (hy : r.ev y = some (str k)) (hv : r.ev u = some v)
    (hu : P.underlying t = some (.map kt et)) (hk : P.underlying kt = some .string) (hr : Repl (.blk b (mapT es c)) (.blk b (mapT (putM es c k v) (putC es c k))) H H') (h : WL P ro n w0 ops Q l r ds m H') :
    WL P ro n w0 ops Q (⟨none, .insert t x y u, ty, pos, after, none⟩ :: l) r ds m H :=
  .act (fun m' H'' => m' = m ∧ H'' = H') rfl (fun _ h => by cases h)
    (fun tmps w ho hs => ⟨m, H', w.putObj b (mapT (putM es c k v) (putC es c k)), by
      have h2 := run_putT (P := P) (t := t) (k := k) (v := v) (hs.own _ hr.mem) hu hk
      simp only [execOp, ho.ev hx, ho.ev hy, ho.ev hv, h2, Sem.run_bind, Result.andThen_ok]
      try rfl, hs.replObj hr, rfl, rfl⟩)
    (by rintro _ _ ⟨rfl, rfl⟩; exact h)
/-- how many entries there are -/
theorem WL.lenMapT {kt et : TypeId} {b c : Nat} {es : List EntT} (hx : r.ev x = some (.map (some b))) (hm : Item.blk b (mapT es c) ∈ H) (hu : P.underlying t = some (.map kt et)) (hd : Nat.blt d n = true)
    (h : WL P ro n w0 ops Q l ((d, .int .i64 (es.length : Int)) :: r) ds m H) :
    WL P ro n w0 ops Q (⟨some d, .call ⟨.builtin .len, #[x], #[t]⟩, ty, pos, after, none⟩ :: l) r ds m H :=
  .gen (fun v m' H' => v = .int .i64 (es.length : Int) ∧ m' = m ∧ H' = H) hd (fun _ h => by cases h)
    (fun tmps w ho hs => ⟨_, m, H, w, by
      have hb : w.heap[b]? = some (mapT es c) := hs.own _ hm
      have h1 : (getObj b).run P w = .ok (mapT es c) w := by simp [getObj, Sem.run, hb, mapT]
      simp only [execOp, resolve, invoke, builtin, Builtin.len_, Sem.run_bind, Sem.run_pure, Result.andThen_ok, List.map_toArray, List.map_cons, List.map_nil, ho.ev hx]
      show (Sem.run P ((underlying t).bind _) w).andThen _ = _
      rw [Sem.run_bind', run_underlying hu, Result.andThen_ok]
      show (Sem.run P ((getObj b).bind _) w).andThen _ = _
      rw [Sem.run_bind', h1, Result.andThen_ok]
      show Result.ok (Next.value (goInt (mapTE es).toArray.size)) w = _
      rw [List.size_toArray, mapTE_length]; rfl, hs, rfl, rfl, rfl⟩)
    (by rintro _ _ _ ⟨rfl, rfl, rfl⟩; exact h)
theorem WL.actV {dst : Option Nat} {op : Op} (K : Mem → SHeap → Prop) (hdst : dst = none) (hnd : ∀ c, op ≠ .defer c)
    (hrun : ∀ tmps w, r.ok n tmps → Sat w0 m H w → ∃ v m' H' w', (execOp (Act.mk tmps (marks ds)).eval ⟨dst, op, ty, pos, after, none⟩).run P w = .ok (.value v) w' ∧ Sat w0 m' H' w' ∧ K m' H')
    (h : ∀ m' H', K m' H' → WL P ro n w0 ops Q l r ds m' H') : WL P ro n w0 ops Q (⟨dst, op, ty, pos, after, none⟩ :: l) r ds m H := by
  subst hdst
  intro tmps w ho hs
  obtain ⟨v, m', H', w', hr, hs', hK⟩ := hrun tmps w ho hs
  unfold wpListIn
  simp only [Region.wanted, if_true]
  refine ⟨fun f _ => FW_fn ro f, ?_⟩
  rw [semAt_exec (FW ro).round _ _ hnd, hr]
  exact h m' H' hK _ w' ho hs'
/-- an entry is taken away, if it is there -/
theorem WL.deleteT {kt et kt2 : TypeId} {b c : Nat} {k : List UInt8} {es : List EntT} {H' : SHeap} (hx : r.ev x = some (.map (some b))) (hy : r.ev y = some (str k)) (hu : P.underlying t = some (.map kt et)) (hk : P.underlying kt = some .string)
    (hr : Repl (.blk b (mapT es c)) (.blk b (mapT (eraseT es k) c)) H H') (h : WL P ro n w0 ops Q l r ds m H') :
    WL P ro n w0 ops Q (⟨none, .call ⟨.builtin .delete, #[x, y], #[t, kt2]⟩, ty, pos, after, none⟩ :: l) r ds m H :=
  .actV (fun m' H'' => m' = m ∧ H'' = H') rfl (fun _ h => by cases h)
    (fun tmps w ho hs => ⟨.tuple #[], m, H', w.putObj b (mapT (eraseT es k) c), by
      have hb : w.heap[b]? = some (mapT es c) := hs.own _ hr.mem
      have h1 : (getObj b).run P w = .ok (mapT es c) w := by simp [getObj, Sem.run, hb, mapT]
      have h3 : ∀ o, (setObj b o).run P w = .ok () (w.putObj b o) := fun o => by simp [setObj, Sem.run, hb, World.putObj, mapT]
      have h2 : ∀ q, (Builtin.delete_ #[t, kt2] q #[.map (some b), .string ⟨k.toArray⟩]).run P w = .ok (.tuple #[]) (w.putObj b (mapT (eraseT es k) c)) := fun q => by
        simp only [Builtin.delete_, List.getElem?_toArray, List.getElem?_cons_zero, List.getElem?_cons_succ, Sem.run_bind, run_underlying hu, Result.andThen_ok, h1]
        simp only [mapT, Sem.run_bind, Sem.run_pure, Result.andThen_ok, run_checkKeyS hk, Instr.findKey, run_underlying hk]
        cases hl : getT es k with
        | none =>
          rw [find_noneT es 0 hl]
          simp only [Sem.run_bind, h3, Sem.run_pure, Result.andThen_ok]
          rw [erase_noneT es hl]
        | some z =>
          obtain ⟨j, hj, ⟨e, he, hek⟩, _, hera⟩ := find_someT es 0 hl
          rw [hj]
          simp only [Sem.run_bind, h3, Sem.run_pure, Result.andThen_ok]
          rw [hera]
          simp only [Nat.zero_add]
          congr 2
          show Obj.map _ c = Obj.map _ c
          congr 1
          apply Array.ext'
          rw [Array.toList_eraseIdxIfInBounds]
          exact erase_map _ es j
      simp only [execOp, resolve, invoke, builtin, Sem.run_bind, Sem.run_pure, Result.andThen_ok, List.map_toArray, List.map_cons, List.map_nil, ho.ev hx, ho.ev hy]
      first
        | (rw [h2]; rfl)
        | (simp only [h2, Result.andThen_ok]; try rfl), hs.replObj hr, rfl, rfl⟩)
    (by rintro _ _ ⟨rfl, rfl⟩; exact h)
end
end Go.Eng

/-
  A walk's engine: maps with number keys once more (what is looked up without a sign, what is set again), a text's entry set anew; a range over a map with texts as keys. No condition.
-/
set_option linter.all false
namespace Go.Eng
open Go Go.RowKit
theorem Repl.same {i : Item} : ∀ {H : SHeap}, i ∈ H → Repl i i H H
  | j :: H, h => by
    rcases List.mem_cons.1 h with h | h
    · subst h; exact Repl.here
    · exact Repl.there (Repl.same h)
section
variable {P : Program} {ro : Option Nat} {n : Nat} {w0 : World} {Q : Exit → Act → World → Prop} {r : Env} {ds : List Dfr} {m : Mem} {H : SHeap}
  {ops : Array Oper} {l : List Oper} {d : Nat} {ty : TypeId} {pos : String} {after : Array Edge} {t : TypeId} {x y : Operand}
theorem WL.look1 {q q' : IntKind} {kt et : TypeId} {b : Nat} {k : Int} {z : Value} {kvs : List (Int × Value)} (hx : r.ev x = some (.map (some b))) (hy : r.ev y = some (.int q k)) (hm : Item.blk b (mapO q kvs) ∈ H)
    (hu : P.underlying t = some (.map kt et)) (hk : P.underlying kt = some (.int q')) (hz : ∀ w, (zeroValue et).run P w = .ok z w) (hd : Nat.blt d n = true)
    (h : WL P ro n w0 ops Q l ((d, (kvs.lookup k).getD z) :: r) ds m H) :
    WL P ro n w0 ops Q (⟨some d, .lookup t x y false, ty, pos, after, none⟩ :: l) r ds m H :=
  .gen (fun v m' H' => v = (kvs.lookup k).getD z ∧ m' = m ∧ H' = H) hd (fun _ h => by cases h)
    (fun tmps w ho hs => ⟨_, m, H, w, by
      have hb : w.heap[b]? = some (mapO q kvs) := hs.own _ hm
      have h1 : (getObj b).run P w = .ok (mapO q kvs) w := by simp [getObj, Sem.run, hb, mapO]
      have h2 : (Instr.lookup t (.map (some b)) (.int q k) false).run P w = .ok ((kvs.lookup k).getD z) w := by
        simp only [Instr.lookup, Sem.run_bind, run_underlying hu, Result.andThen_ok, h1]
        simp only [mapO, Sem.run_bind, Sem.run_pure, Result.andThen_ok, run_checkKey hk, Instr.findKey, run_underlying hk]
        cases hl : kvs.lookup k with
        | none =>
          rw [find_none q q' k kvs 0 0 hl]
          simp [hz, Result.andThen]
        | some v =>
          obtain ⟨j, hj⟩ := find_some q q' k v kvs 0 0 hl
          rw [hj]
          simp [Result.andThen]
      simp only [execOp, ho.ev hx, ho.ev hy, Sem.run_bind, h2, Result.andThen_ok, Sem.run_pure], hs, rfl, rfl, rfl⟩)
    (by rintro _ _ _ ⟨rfl, rfl, rfl⟩; exact h)
theorem find_at (q q' : IntKind) (k : Int) (z : Value) : ∀ (l : List (Int × Value)) (i n : Nat), l.lookup k = some z → ∃ j, Instr.findNow (.int q') (.int q k) (mapE q n l) i = some (some (i + j, z)) ∧ (mapE q n l)[j]? = some ⟨.int q k, z, n + j⟩
  | [], i, n, h => by cases h
  | (a, v) :: l, i, n, h => by
    rw [List.lookup_cons] at h
    cases hb : k == a with
    | true =>
      rw [hb] at h
      cases h
      have e : k = a := by simpa using hb
      subst e
      exact ⟨0, by simp only [mapE, Instr.findNow, Instr.sameNow, if_true, hb]; rfl, rfl⟩
    | false =>
      rw [hb] at h
      obtain ⟨j, hj, hj2⟩ := find_at q q' k z l (i + 1) (n + 1) h
      refine ⟨j + 1, ?_, ?_⟩
      · simp only [mapE, Instr.findNow, Instr.sameNow, if_true, hb]
        rw [show i + (j + 1) = i + 1 + j by omega]
        exact hj
      · rw [show n + (j + 1) = n + 1 + j by omega]
        simpa [mapE] using hj2
theorem run_mapSame {q q' : IntKind} {kt et : TypeId} {b : Nat} {k : Int} {v : Value} {kvs : List (Int × Value)} {w : World} (hb : w.heap[b]? = some (mapO q kvs)) (hu : P.underlying t = some (.map kt et)) (hk : P.underlying kt = some (.int q'))
    (hl : kvs.lookup k = some v) : (Instr.mapUpdate t (.map (some b)) (.int q k) v).run P w = .ok () (w.putObj b (mapO q kvs)) := by
  have h1 : (getObj b).run P w = .ok (mapO q kvs) w := by simp [getObj, Sem.run, hb, mapO]
  have h3 : ∀ o, (setObj b o).run P w = .ok () (w.putObj b o) := fun o => by simp [setObj, Sem.run, hb, mapO, World.putObj]
  obtain ⟨j, hj, hj2⟩ := find_at q q' k v kvs 0 0 hl
  simp only [Instr.mapUpdate, Sem.run_bind, run_underlying hu, Result.andThen_ok, h1]
  simp only [mapO, Sem.run_bind, Sem.run_pure, Result.andThen_ok, run_checkKey hk, Instr.findKey, run_underlying hk]
  rw [hj]
  have hkey : (((mapE q 0 kvs).toArray[0 + j]?).map (·.key)).getD (Value.int q k) = .int q k := by
    rw [Nat.zero_add]
    simp [hj2]
  have hbits : Instr.sameBits 10000 (Value.int q k) (Value.int q k) = true := by
    rw [Instr.sameBits]
    simp
  simp only [Sem.run_pure, Result.andThen_ok, Sem.run_bind, hkey, Instr.keyThatStays, hbits, if_true, h3]
  congr 2
  show Obj.map _ _ = Obj.map _ _
  congr 1
  rw [Nat.zero_add]
  apply Array.ext'
  rw [Array.toList_modify]
  show (mapE q 0 kvs).modify j _ = mapE q 0 kvs
  apply List.ext_getElem?
  intro p
  rw [List.getElem?_modify]
  by_cases hp : j = p
  · subst hp
    rw [hj2]
    simp
  · simp [hp]
/-- a key that is there, with what it has -/
theorem WL.mapSame {q q' : IntKind} {kt et : TypeId} {b : Nat} {k : Int} {v : Value} {u : Operand} {kvs : List (Int × Value)} (hx : r.ev x = some (.map (some b))) (hy : r.ev y = some (.int q k)) (hv : r.ev u = some v)
    (hm : Item.blk b (mapO q kvs) ∈ H) (hu : P.underlying t = some (.map kt et)) (hk : P.underlying kt = some (.int q')) (hl : kvs.lookup k = some v)
    (h : WL P ro n w0 ops Q l r ds m H) :
    WL P ro n w0 ops Q (⟨none, .mapUpdate t x y u, ty, pos, after, none⟩ :: l) r ds m H :=
  .act (fun m' H'' => m' = m ∧ H'' = H) rfl (fun _ h => by cases h)
    (fun tmps w ho hs => ⟨m, H, w.putObj b (mapO q kvs), by
      have h2 := run_mapSame (P := P) (t := t) (hs.own _ hm) hu hk hl
      simp only [execOp, ho.ev hx, ho.ev hy, ho.ev hv, h2, Sem.run_bind, Result.andThen_ok]
      try rfl, by
      exact hs.replObj (Repl.same hm), rfl, rfl⟩)
    (by rintro _ _ ⟨rfl, rfl⟩; exact h)
/-- the first key of a map -/
theorem WL.mapOne {q q' : IntKind} {kt et : TypeId} {b : Nat} {k : Int} {v : Value} {u : Operand} {kvs : List (Int × Value)} {H' : SHeap} (hx : r.ev x = some (.map (some b))) (hy : r.ev y = some (.int q k)) (hv : r.ev u = some v)
    (hu : P.underlying t = some (.map kt et)) (hk : P.underlying kt = some (.int q')) (hr : Repl (.blk b (mapO q kvs)) (.blk b (mapO q (kvs ++ [(k, v)]))) H H') (hl : kvs.lookup k = none)
    (h : WL P ro n w0 ops Q l r ds m H') :
    WL P ro n w0 ops Q (⟨none, .insert t x y u, ty, pos, after, none⟩ :: l) r ds m H :=
  .act (fun m' H'' => m' = m ∧ H'' = H') rfl (fun _ h => by cases h)
    (fun tmps w ho hs => ⟨m, H', w.putObj b (mapO q (kvs ++ [(k, v)])), by
      have hb : w.heap[b]? = some (mapO q kvs) := hs.own _ hr.mem
      have h1 : (getObj b).run P w = .ok (mapO q kvs) w := by simp [getObj, Sem.run, hb, mapO]
      have h3 : ∀ o, (setObj b o).run P w = .ok () (w.putObj b o) := fun o => by simp [setObj, Sem.run, hb, mapO, World.putObj]
      have e1 : Obj.map ((mapE q 0 kvs).toArray.push ⟨.int q k, v, kvs.length⟩) (kvs.length + 1) = mapO q (kvs ++ [(k, v)]) := by
        unfold mapO
        rw [mapE_snoc, Nat.zero_add]
        simp
      have h2 : (Instr.mapUpdate t (.map (some b)) (.int q k) v).run P w = .ok () (w.putObj b (mapO q (kvs ++ [(k, v)]))) := by
        simp only [Instr.mapUpdate, Sem.run_bind, run_underlying hu, Result.andThen_ok, h1]
        simp only [mapO, Sem.run_bind, Sem.run_pure, Result.andThen_ok, run_checkKey hk, Instr.findKey, run_underlying hk]
        rw [find_none q q' k kvs 0 0 hl]
        simp only [Sem.run_pure, Result.andThen_ok]
        rw [e1, h3]; rfl
      simp only [execOp, ho.ev hx, ho.ev hy, ho.ev hv, h2, Sem.run_bind, Result.andThen_ok]
      try rfl, hs.replObj hr, rfl, rfl⟩)
    (by rintro _ _ ⟨rfl, rfl⟩; exact h)
/-- a value is written at a text -/
theorem WL.putU {kt et : TypeId} {b c : Nat} {k : List UInt8} {v : Value} {es : List EntT} {u : Operand} {H' : SHeap} (hx : r.ev x = some (.map (some b))) (hy : r.ev y = some (str k)) (hv : r.ev u = some v)
    (hu : P.underlying t = some (.map kt et)) (hk : P.underlying kt = some .string) (hr : Repl (.blk b (mapT es c)) (.blk b (mapT (putM es c k v) (putC es c k))) H H') (h : WL P ro n w0 ops Q l r ds m H') :
    WL P ro n w0 ops Q (⟨none, .mapUpdate t x y u, ty, pos, after, none⟩ :: l) r ds m H :=
  .act (fun m' H'' => m' = m ∧ H'' = H') rfl (fun _ h => by cases h)
    (fun tmps w ho hs => ⟨m, H', w.putObj b (mapT (putM es c k v) (putC es c k)), by
      have h2 := run_putT (P := P) (t := t) (k := k) (v := v) (hs.own _ hr.mem) hu hk
      simp only [execOp, ho.ev hx, ho.ev hy, ho.ev hv, h2, Sem.run_bind, Result.andThen_ok]
      try rfl, hs.replObj hr, rfl, rfl⟩)
    (by rintro _ _ ⟨rfl, rfl⟩; exact h)
end
end Go.Eng

/-
  A walk's engine: a range over a map with texts as keys: its order is drawn. No condition.
-/
set_option linter.all false
namespace Go.Eng
open Go Go.RowKit
theorem Repl.exists {i j : Item} : ∀ {H : SHeap}, i ∈ H → ∃ H', Repl i j H H'
  | k :: H, h => by
    rcases List.mem_cons.1 h with h | h
    · subst h; exact ⟨_, Repl.here⟩
    · obtain ⟨H', h'⟩ := Repl.exists h
      exact ⟨_, Repl.there h'⟩
theorem mapTE_mem {es : List EntT} {e : MapEntry} (h : e ∈ mapTE es) : ∃ x ∈ es, e = ⟨.string ⟨x.2.1.toArray⟩, x.2.2, x.1⟩ := by
  obtain ⟨x, hx, rfl⟩ := List.mem_map.1 h
  exact ⟨x, hx, rfl⟩
section
variable {P : Program} {ro : Option Nat} {n : Nat} {w0 : World} {Q : Exit → Act → World → Prop} {r : Env} {ds : List Dfr} {m : Mem} {H : SHeap}
  {ops : Array Oper} {l : List Oper} {d : Nat} {ty : TypeId} {pos : String} {after : Array Edge} {t : TypeId} {x y : Operand}
theorem WL.rangeT {kt et : TypeId} {b c : Nat} {es : List EntT} (hx : r.ev x = some (.map (some b))) (hm : Item.blk b (mapT es c) ∈ H) (hu : P.underlying t = some (.map kt et)) (hd : Nat.blt d n = true)
    (h : ∀ bi, WL P ro n w0 ops Q l ((d, .pointer (some ⟨bi, 0, none⟩)) :: r) ds m (.blk bi (.mapIter (some b) c #[] c) :: H)) :
    WL P ro n w0 ops Q (⟨some d, .range t x, ty, pos, after, none⟩ :: l) r ds m H :=
  .gen (fun v m' H' => ∃ bi, v = .pointer (some ⟨bi, 0, none⟩) ∧ m' = m ∧ H' = .blk bi (.mapIter (some b) c #[] c) :: H) hd (fun _ h => by cases h)
    (fun tmps w ho hs => ⟨_, m, _, w.alloc (.mapIter (some b) c #[] c), by
      have hb : w.heap[b]? = some (mapT es c) := hs.own _ hm
      have h1 : (getObj b).run P w = .ok (mapT es c) w := by simp [getObj, Sem.run, hb, mapT]
      simp only [execOp, Instr.range, ho.ev hx, Sem.run_bind, run_underlying hu, Result.andThen_ok, h1]
      simp only [mapT, Sem.run_bind, Sem.run_pure, run_newObj_alloc, Result.andThen_ok], hs.alloc _, w.heap.size, rfl, rfl, rfl⟩)
    (by rintro _ _ _ ⟨b, rfl, rfl, rfl⟩; exact h b)
/-- a step: nothing is left, or some entry that was not told yet -/
theorem WL.nextT {b br since c c0 : Nat} {seen : Array Nat} {es : List EntT} (hx : r.ev x = some (.pointer (some ⟨br, 0, none⟩))) (hi : Item.blk br (.mapIter (some b) since seen c0) ∈ H) (hm : Item.blk b (mapT es c) ∈ H)
    (hold : ∀ e ∈ es, e.1 < since) (hsc : since ≤ c0) (hd : Nat.blt d n = true)
    (h0 : (∀ e ∈ es, e.1 ∈ seen.toList) → WL P ro n w0 ops Q l ((d, .tuple #[.bool false]) :: r) ds m H)
    (h1 : ∀ e ∈ es, e.1 ∉ seen.toList → ∀ H', Repl (.blk br (.mapIter (some b) since seen c0)) (.blk br (.mapIter (some b) since (seen.push e.1) c)) H H' →
      WL P ro n w0 ops Q l ((d, .tuple #[.bool true, str e.2.1, e.2.2]) :: r) ds m H') :
    WL P ro n w0 ops Q (⟨some d, .next x false, ty, pos, after, none⟩ :: l) r ds m H := by
  refine .gen (fun v m' H' => m' = m ∧ ((v = .tuple #[.bool false] ∧ H' = H ∧ ∀ e ∈ es, e.1 ∈ seen.toList) ∨
    ∃ e ∈ es, e.1 ∉ seen.toList ∧ v = .tuple #[.bool true, str e.2.1, e.2.2] ∧ Repl (.blk br (.mapIter (some b) since seen c0)) (.blk br (.mapIter (some b) since (seen.push e.1) c)) H H')) hd (fun _ h => by cases h) ?_ ?_
  · intro tmps w ho hs
    have hr : w.heap[br]? = some (.mapIter (some b) since seen c0) := hs.own _ hi
    have hb : w.heap[b]? = some (.map (mapTE es).toArray c) := hs.own _ hm
    have hrun := run_next_at (P := P) w ty br b since c0 seen (mapTE es).toArray c hr hb (fun e he => by
      obtain ⟨x, hx, rfl⟩ := mapTE_mem (by simpa using he)
      exact hold x hx) hsc
    have hex : (execOp (Act.mk tmps (marks ds)).eval ⟨some d, .next x false, ty, pos, after, none⟩).run P w = ((Instr.next (.pointer (some ⟨br, 0, none⟩)) false ty).run P w).andThen fun v w => .ok (.value v) w := by
      simp only [execOp, ho.ev hx, Sem.run_bind]
      rfl
    rcases hrun with ⟨hz, hrun⟩ | ⟨e, he, w1, hw1, hrun⟩
    · refine ⟨_, m, H, w, ?_, hs, rfl, .inl ⟨rfl, rfl, fun e he => ?_⟩⟩
      · rw [hex, hrun]; rfl
      · have hz' : leftOf (mapTE es).toArray seen = #[] := Array.eq_empty_of_size_eq_zero hz
        unfold leftOf at hz'
        rw [Array.filter_eq_empty_iff] at hz'
        have := hz' (⟨.string ⟨e.2.1.toArray⟩, e.2.2, e.1⟩ : MapEntry) (by
          rw [List.mem_toArray]
          exact List.mem_map.2 ⟨e, he, rfl⟩)
        simpa using this
    · unfold leftOf at he
      have he' : e ∈ (mapTE es).toArray ∧ seen.contains e.born = false := by simpa using he
      obtain ⟨x, hx, rfl⟩ := mapTE_mem (by simpa using he'.1)
      obtain ⟨H', hR⟩ := Repl.exists (j := .blk br (.mapIter (some b) since (seen.push x.1) c)) hi
      have hs1 : Sat w0 m H w1 := by
        rcases hw1 with rfl | rfl
        · exact hs
        · exact hs.drew
      refine ⟨_, m, H', w1.putObj br (.mapIter (some b) since (seen.push x.1) c), ?_, hs1.replObj hR, rfl, .inr ⟨x, hx, ?_, rfl, hR⟩⟩
      · rw [hex, hrun]; rfl
      · have := he'.2
        simpa using this
  · rintro v m' H' ⟨rfl, ⟨rfl, rfl, hall⟩ | ⟨e, he, hne, rfl, hR⟩⟩
    · exact h0 hall
    · exact h1 e he hne H' hR
theorem WL.entryT {b br since c c0 : Nat} {seen : Array Nat} {es : List EntT} {e : EntT} (hx : r.ev x = some (.pointer (some ⟨br, 0, none⟩))) (hi : Item.blk br (.mapIter (some b) since (seen.push e.1) c) ∈ H) (hm : Item.blk b (mapT es c) ∈ H)
    (he : e ∈ es) (hn : (es.map (·.1)).Nodup) (hd : Nat.blt d n = true)
    (h : WL P ro n w0 ops Q l ((d, .tuple #[str e.2.1, e.2.2]) :: r) ds m H) :
    WL P ro n w0 ops Q (⟨some d, .entry x, ty, pos, after, none⟩ :: l) r ds m H :=
  .gen (fun v m' H' => v = .tuple #[str e.2.1, e.2.2] ∧ m' = m ∧ H' = H) hd (fun _ h => by cases h)
    (fun tmps w ho hs => ⟨_, m, H, w, by
      have hr : w.heap[br]? = some (.mapIter (some b) since (seen.push e.1) c) := hs.own _ hi
      have hb : w.heap[b]? = some (.map (mapTE es).toArray c) := hs.own _ hm
      have h2 := run_entry_at (P := P) w br b since seen (mapTE es).toArray c ⟨.string ⟨e.2.1.toArray⟩, e.2.2, e.1⟩ hr hb (by
        show _ ∈ mapTE es
        exact List.mem_map.2 ⟨e, he, rfl⟩) (by
        show ((mapTE es).map (·.born)).Nodup
        rw [show (mapTE es).map (·.born) = es.map (·.1) by simp [mapTE]]
        exact hn)
      simp only [execOp, ho.ev hx, Sem.run_bind, h2, Result.andThen_ok, Sem.run_pure]
      try rfl, hs, rfl, rfl, rfl⟩)
    (by rintro _ _ _ ⟨rfl, rfl, rfl⟩; exact h)
end
end Go.Eng

/-
  Histories in plain: drafts, branches; what branching, dropping and writing make of them; how they lie in memory. No condition.
-/
namespace Go.Eng
open Go
/-- a draft: its hand, its parents (and the slice that they are in), its text -/
structure Dr where
  h : Nat
  ps : List Nat
  v : Value
  t : List UInt8
def drE (d : Dr) : List Value := [.int .i64 (d.h : Int), d.v, str d.t]
def drs (L : List Dr) : List (List Value) := L.map drE
theorem drs_length (L : List Dr) : (drs L).length = L.length := List.length_map _
theorem drs_get {L : List Dr} {i : Nat} {d : Dr} (h : L[i]? = some d) : (drs L)[i]? = some (drE d) := by unfold drs; rw [List.getElem?_map, h]; rfl
theorem drs_snoc (L : List Dr) (d : Dr) : drs (L ++ [d]) = drs L ++ [drE d] := by unfold drs; simp
def nums (l : List Nat) : List (List Value) := l.map fun (p : Nat) => [.int .i64 (p : Int)]
theorem nums_length (l : List Nat) : (nums l).length = l.length := List.length_map _
theorem nums_get {l : List Nat} {i p : Nat} (h : l[i]? = some p) : (nums l)[i]? = some [.int .i64 (p : Int)] := by unfold nums; rw [List.getElem?_map, h]; rfl
/-- a draft's parents lie in memory that stays -/
def PsAt (m : Mem) (d : Dr) : Prop := ∃ a cap, d.v = .slice a d.ps.length cap ∧ ∀ w0 H, RowR w0 m H 1 a (nums d.ps)
theorem PsAt.le {m m' : Mem} {d : Dr} (h : PsAt m d) (hm : m.le m') : PsAt m' d := by
  obtain ⟨a, cap, h1, h2⟩ := h
  exact ⟨a, cap, h1, fun w0 H => (h2 w0 H).le hm⟩
theorem PsAt.nil {m : Mem} {h : Nat} {t : List UInt8} : PsAt m ⟨h, [], .slice none 0 0, t⟩ :=
  ⟨none, 0, rfl, fun _ _ _ _ => ⟨fun e he => by simp [nums] at he, by simp [nums]⟩⟩
/-- a literal slice of parents, let stand for good -/
theorem PsAt.mem {m : Mem} {b h : Nat} {ps : List Nat} {cs : List Value} {T : TypeId} {n cap : Nat} {t : List UInt8} (hb : m b = some (.cells cs.toArray T (0, 0))) (hc : cs = ps.map (fun (p : Nat) => .int .i64 (p : Int))) (hn : n = ps.length := by rfl) : PsAt m ⟨h, ps, .slice (some ⟨b, 0, none⟩) n cap, t⟩ := by
  subst hc
  subst hn
  refine ⟨some ⟨b, 0, none⟩, cap, rfl, fun w0 H w hs => ⟨fun e he => ?_, fun j v hj => ?_⟩⟩
  · obtain ⟨p, _, rfl⟩ := List.mem_map.1 he
    rfl
  · have hw : w.heap[b]? = some (.cells (ps.map (fun (p : Nat) => Value.int .i64 (p : Int))).toArray T (0, 0)) := hs.pers _ _ hb
    have hf : ∀ qs : List Nat, (nums qs).flatten = qs.map (fun (p : Nat) => Value.int .i64 (p : Int)) := by
      intro qs
      induction qs with
      | nil => rfl
      | cons p qs ih =>
        show [Value.int .i64 (p : Int)] ++ (nums qs).flatten = _
        rw [ih]; rfl
    rw [hf] at hj
    rw [add_eq rfl]
    simp only [Nat.zero_add, World.cell?, hw]
    simpa using hj
abbrev Br := List (Nat × List UInt8 × Nat)
def headB : Br → List UInt8 → Option Nat
  | [], _ => none
  | e :: B, s => if s = e.2.1 then some e.2.2 else headB B s
def setB : Br → List UInt8 → Nat → Br
  | [], _, _ => []
  | e :: B, s, k => if s = e.2.1 then (e.1, e.2.1, k) :: B else e :: setB B s k
def eraseB : Br → List UInt8 → Br
  | [], _ => []
  | e :: B, s => if s = e.2.1 then B else e :: eraseB B s
def putB (B : Br) (c : Nat) (s : List UInt8) (k : Nat) : Br := if (headB B s).isSome then setB B s k else B ++ [(c, s, k)]
def clkB (B : Br) (c : Nat) (s : List UInt8) : Nat := if (headB B s).isSome then c else c + 1
def brE (B : Br) : List EntT := B.map fun e => (e.1, e.2.1, .int .i64 (e.2.2 : Int))
theorem brE_length (B : Br) : (brE B).length = B.length := List.length_map _
theorem getT_br (s : List UInt8) : ∀ (B : Br), getT (brE B) s = (headB B s).map fun k => .int .i64 (k : Int)
  | [] => rfl
  | e :: B => by
    show (if s = e.2.1 then some _ else getT (brE B) s) = _
    rw [headB]
    split
    · rfl
    · exact getT_br s B
theorem setT_br (s : List UInt8) (k : Nat) : ∀ (B : Br), setT (brE B) s (.int .i64 (k : Int)) = brE (setB B s k)
  | [] => rfl
  | e :: B => by
    show (if s = e.2.1 then _ else _ :: setT (brE B) s _) = _
    rw [setB]
    split
    · rfl
    · rw [setT_br s k B]; rfl
theorem eraseT_br (s : List UInt8) : ∀ (B : Br), eraseT (brE B) s = brE (eraseB B s)
  | [] => rfl
  | e :: B => by
    show (if s = e.2.1 then _ else _ :: eraseT (brE B) s) = _
    rw [eraseB]
    split
    · rfl
    · rw [eraseT_br s B]; rfl
theorem isSome_br (B : Br) (s : List UInt8) : (getT (brE B) s).isSome = (headB B s).isSome := by rw [getT_br]; cases headB B s <;> rfl
theorem putM_br (B : Br) (c : Nat) (s : List UInt8) (k : Nat) : putM (brE B) c s (.int .i64 (k : Int)) = brE (putB B c s k) := by
  unfold putM putB
  rw [isSome_br]
  split
  · exact setT_br s k B
  · unfold brE; simp
theorem putC_br (B : Br) (c : Nat) (s : List UInt8) : putC (brE B) c s = clkB B c s := by unfold putC clkB; rw [isSome_br]
theorem headB_mem {s : List UInt8} {k : Nat} : ∀ {B : Br}, headB B s = some k → ∃ e ∈ B, e.2.1 = s ∧ e.2.2 = k
  | e :: B, h => by
    rw [headB] at h
    split at h
    · next hs => exact ⟨e, List.mem_cons_self, hs.symm, by simpa using h⟩
    · obtain ⟨x, hx, h2⟩ := headB_mem h
      exact ⟨x, List.mem_cons_of_mem _ hx, h2⟩
theorem headB_none {s : List UInt8} : ∀ {B : Br}, headB B s = none → ∀ e ∈ B, e.2.1 ≠ s
  | e :: B, h, x, hx => by
    rw [headB] at h
    split at h
    · cases h
    · next hs =>
      rcases List.mem_cons.1 hx with h2 | h2
      · subst h2; exact fun e => hs e.symm
      · exact headB_none h x h2
theorem setB_mem {s : List UInt8} {k : Nat} : ∀ {B : Br} {e : Nat × List UInt8 × Nat}, e ∈ setB B s k → e ∈ B ∨ (e.2.1 = s ∧ e.2.2 = k ∧ ∃ x ∈ B, x.1 = e.1 ∧ x.2.1 = s)
  | x :: B, e, h => by
    rw [setB] at h
    split at h
    · next hs =>
      rcases List.mem_cons.1 h with h | h
      · subst h; exact .inr ⟨hs.symm, rfl, x, List.mem_cons_self, rfl, hs.symm⟩
      · exact .inl (List.mem_cons_of_mem _ h)
    · rcases List.mem_cons.1 h with h | h
      · subst h; exact .inl List.mem_cons_self
      · rcases setB_mem h with h | ⟨h1, h2, y, hy, h3⟩
        · exact .inl (List.mem_cons_of_mem _ h)
        · exact .inr ⟨h1, h2, y, List.mem_cons_of_mem _ hy, h3⟩
theorem eraseB_sub {s : List UInt8} : ∀ (B : Br), (eraseB B s).Sublist B
  | [] => List.Sublist.refl _
  | x :: B => by
    rw [eraseB]
    split
    · exact List.sublist_cons_self _ _
    · exact (eraseB_sub B).cons_cons _
theorem setB_names (s : List UInt8) (k : Nat) : ∀ (B : Br), (setB B s k).map (·.2.1) = B.map (·.2.1) ∧ (setB B s k).map (·.1) = B.map (·.1)
  | [] => ⟨rfl, rfl⟩
  | x :: B => by
    rw [setB]
    split
    · exact ⟨rfl, rfl⟩
    · exact ⟨by rw [List.map_cons, List.map_cons, (setB_names s k B).1], by rw [List.map_cons, List.map_cons, (setB_names s k B).2]⟩
/-- what holds of a history -/
structure HsOk (m : Mem) (L : List Dr) (B : Br) (c : Nat) : Prop where
  some_ : 0 < L.length
  few : L.length ≤ 256
  par : ∀ i d, L[i]? = some d → (∀ p ∈ d.ps, p < i) ∧ (0 < i → d.ps ≠ []) ∧ d.ps.length ≤ 2 ∧ d.t.length ≤ 65536 ∧ d.h ≤ 999999999999999999
  at_ : ∀ d ∈ L, PsAt m d
  heads : ∀ e ∈ B, e.2.2 < L.length
  names : (B.map (·.2.1)).Nodup
  borns : (B.map (·.1)).Nodup
  old : ∀ e ∈ B, e.1 < c
  most : B.length ≤ 32
theorem HsOk.le {m m' : Mem} {L : List Dr} {B : Br} {c : Nat} (h : HsOk m L B c) (hm : m.le m') : HsOk m' L B c :=
  { h with at_ := fun d hd => (h.at_ d hd).le hm }
theorem HsOk.head {m : Mem} {L : List Dr} {B : Br} {c : Nat} (h : HsOk m L B c) {s : List UInt8} {k : Nat} (hk : headB B s = some k) : k < L.length := by
  obtain ⟨e, he, _, rfl⟩ := headB_mem hk
  exact h.heads e he
theorem HsOk.erase {m : Mem} {L : List Dr} {B : Br} {c : Nat} (h : HsOk m L B c) (s : List UInt8) : HsOk m L (eraseB B s) c :=
  { h with
    heads := fun e he => h.heads e ((eraseB_sub B).mem he)
    names := h.names.sublist ((eraseB_sub B).map _)
    borns := h.borns.sublist ((eraseB_sub B).map _)
    old := fun e he => h.old e ((eraseB_sub B).mem he)
    most := Nat.le_trans (eraseB_sub B).length_le h.most }
theorem HsOk.put {m : Mem} {L : List Dr} {B : Br} {c : Nat} (h : HsOk m L B c) {s : List UInt8} {k : Nat} (hk : k < L.length) (hb : (headB B s).isSome ∨ B.length < 32) : HsOk m L (putB B c s k) (clkB B c s) := by
  unfold putB clkB
  by_cases hs : (headB B s).isSome
  · rw [if_pos hs, if_pos hs]
    obtain ⟨h1, h2⟩ := setB_names s k B
    have hl : (setB B s k).length = B.length := by rw [← List.length_map (f := (·.1)), h2, List.length_map]
    refine { h with heads := fun e he => ?_, names := h1 ▸ h.names, borns := h2 ▸ h.borns, old := fun e he => ?_, most := hl ▸ h.most }
    · rcases setB_mem he with he | ⟨_, he, _⟩
      · exact h.heads e he
      · omega
    · rcases setB_mem he with he | ⟨_, _, x, hx, he, _⟩
      · exact h.old e he
      · have := h.old x hx; omega
  · rw [if_neg hs, if_neg hs]
    have hn : headB B s = none := by simpa using hs
    have hl : B.length < 32 := hb.resolve_left hs
    refine { h with heads := fun e he => ?_, names := ?_, borns := ?_, old := fun e he => ?_, most := by rw [List.length_append, List.length_singleton]; omega }
    · rcases List.mem_append.1 he with he | he
      · exact h.heads e he
      · rw [List.mem_singleton] at he; subst he; exact hk
    · rw [List.map_append, List.nodup_append]
      refine ⟨h.names, by simp, ?_⟩
      rintro x hx y hy rfl
      obtain ⟨e, he, rfl⟩ := List.mem_map.1 hx
      simp at hy
      exact headB_none hn e he hy
    · rw [List.map_append, List.nodup_append]
      refine ⟨h.borns, by simp, ?_⟩
      rintro x hx y hy rfl
      obtain ⟨e, he, rfl⟩ := List.mem_map.1 hx
      simp at hy
      have := h.old e he
      omega
    · rcases List.mem_append.1 he with he | he
      · have := h.old e he; omega
      · rw [List.mem_singleton] at he; subst he; exact Nat.lt_succ_self _
theorem HsOk.more {m : Mem} {L : List Dr} {B : Br} {c : Nat} (h : HsOk m L B c) {d : Dr} (hl : L.length < 256) (hp : ∀ p ∈ d.ps, p < L.length) (h0 : d.ps ≠ []) (h2 : d.ps.length ≤ 2) (ht : d.t.length ≤ 65536) (hh : d.h ≤ 999999999999999999) (hd : PsAt m d) : HsOk m (L ++ [d]) B c := by
  refine { h with some_ := by simp, few := by simp; omega, par := fun i x hx => ?_, at_ := fun x hx => ?_, heads := fun e he => ?_ }
  · by_cases hi : i < L.length
    · rw [List.getElem?_append_left hi] at hx
      exact h.par i x hx
    · have hi2 : i = L.length := by
        have := (List.getElem?_eq_some_iff.1 hx).1
        simp at this; omega
      subst hi2
      simp at hx
      subst hx
      exact ⟨hp, fun _ => h0, h2, ht, hh⟩
  · rcases List.mem_append.1 hx with hx | hx
    · exact h.at_ x hx
    · rw [List.mem_singleton] at hx; subst hx; exact hd
  · have := h.heads e he
    rw [List.length_append]; omega
end Go.Eng

/-
  The walks of a history's first methods: New, name, is, Branch, Drop. No condition.
-/
namespace Go.Eng
open Go Go.RowKit
/-- a block of cells, taken as a row -/
theorem Sat.blkRow {w0 : World} {m : Mem} {b n sz : Nat} {T : TypeId} {cs : List Value} {es : List (List Value)} {H : SHeap} {w : World} (h : Sat w0 m (.blk b (.cells cs.toArray T (0, 0)) :: H) w) (h1 : cs = es.flatten) (h2 : ∀ e ∈ es, e.length = sz) (h3 : es.length = n) (hn : n ≤ 9223372036854775807) :
    Sat w0 m (.row (some ⟨b, 0, none⟩) n T sz es :: H) w := by
  refine h.turn rfl rfl rfl (Nat.le_refl _) (fun _ _ _ => rfl) ?_ (fun x hx => .inl hx) (by simp [Item.foot])
  have hb : w.heap[b]? = some (.cells cs.toArray T (0, 0)) := h.own _ List.mem_cons_self
  have hl : cs.length = n * sz := by
    rw [h1, ← h3]
    clear h1 h3 hb
    induction es with
    | nil => simp
    | cons e es ih =>
      rw [List.flatten_cons, List.length_append, h2 e List.mem_cons_self, ih (fun x hx => h2 x (List.mem_cons_of_mem _ hx)), List.length_cons, Nat.succ_mul]; omega
  exact ⟨cs.toArray, (0, 0), rfl, hb, by simpa using hl, Nat.le_of_eq h3, by rw [← h1, h3]; exact List.take_of_length_le (Nat.le_of_eq hl), h2, .inl rfl, fun _ => hn⟩
section
variable {P : Program} {ro : Option Nat} {n : Nat} {w0 : World} {Q : Exit → Act → World → Prop} {r : Env} {ds : List Dfr} {m : Mem} {H : SHeap}
  {ops : Array Oper} {l : List Oper}
theorem WL.blkRow {b k sz : Nat} {T : TypeId} {cs : List Value} {es : List (List Value)} {H1 : SHeap} (ho : Out (.blk b (.cells cs.toArray T (0, 0))) H H1) (h1 : cs = es.flatten) (h2 : ∀ e ∈ es, e.length = sz) (h3 : es.length = k) (hk : k ≤ 9223372036854775807)
    (h : WL P ro n w0 ops Q l r ds m (.row (some ⟨b, 0, none⟩) k T sz es :: H1)) : WL P ro n w0 ops Q l r ds m H :=
  fun tmps w hok hs => h tmps w hok ((hs.perm ho.perm).blkRow h1 h2 h3 hk)
theorem WC.blkRow {c : Code} {b k sz : Nat} {T : TypeId} {cs : List Value} {es : List (List Value)} {H1 : SHeap} (ho : Out (.blk b (.cells cs.toArray T (0, 0))) H H1) (h1 : cs = es.flatten) (h2 : ∀ e ∈ es, e.length = sz) (h3 : es.length = k) (hk : k ≤ 9223372036854775807)
    (h : WC P ro n w0 c Q r ds m (.row (some ⟨b, 0, none⟩) k T sz es :: H1)) : WC P ro n w0 c Q r ds m H :=
  fun tmps w hok hs => h tmps w hok ((hs.perm ho.perm).blkRow h1 h2 h3 hk)
theorem WQ.blkRow {e : Exit} {b k sz : Nat} {T : TypeId} {cs : List Value} {es : List (List Value)} {H1 : SHeap} (ho : Out (.blk b (.cells cs.toArray T (0, 0))) H H1) (h1 : cs = es.flatten) (h2 : ∀ e ∈ es, e.length = sz) (h3 : es.length = k) (hk : k ≤ 9223372036854775807)
    (h : WQ n w0 Q e r ds m (.row (some ⟨b, 0, none⟩) k T sz es :: H1)) : WQ n w0 Q e r ds m H :=
  fun tmps w hok hs => h tmps w hok ((hs.perm ho.perm).blkRow h1 h2 h3 hk)
end
/-- the name of the first branch -/
def mainN : List UInt8 := [109, 97, 105, 110]
/-- a byte of a branch's name -/
def NmB (c : Nat) : Prop := ¬ (((c < 97 ∨ 122 < c) ∧ (c < 48 ∨ 57 < c)) ∧ c ≠ 45)
instance (c : Nat) : Decidable (NmB c) := by unfold NmB; infer_instance
def NameOk (s : List UInt8) : Prop := 1 ≤ s.length ∧ s.length ≤ 32 ∧ 97 ≤ (s.headD 0).toNat ∧ ∀ c ∈ s, NmB c.toNat
instance (s : List UInt8) : Decidable (NameOk s) := by unfold NameOk; infer_instance
end Go.Eng
namespace Go.Proofs.Ytgckeelnhafgaaa
open Go Go.Eng
set_option maxRecDepth 100000
set_option maxHeartbeats 4000000
set_option linter.all false
attribute [local irreducible] WL WC WQ QFun QLoop Does Q1 QRound QAssign Go.Addr.add
theorem sq_D52_1 {G : Prop} (h : G := by (repeat (first | (refine sp ?_; (repeat intro zzc)) | (refine WL.makeMapT rfl ?_; intro zzc))); exact WQ.q1 rfl) : G := h
theorem st_D52_1 {G G' : Prop} (next : G') (h : Bx G' → G := by intro zzn; (first | ((refine st ?_; (repeat intro zzc)); (try ((first | (refine WL.makeMapT rfl ?_; intro zzc) | ((refine iDraw ?_; (first | refine WC.drawAll rfl (by decide +kernel) ?_ | refine WC.draw 1 rfl (by decide +kernel) ?_ | refine WC.draw 2 rfl (by decide +kernel) ?_ | refine WC.draw 3 rfl (by decide +kernel) ?_ | refine WC.draw 4 rfl (by decide +kernel) ?_ | refine WC.draw 5 rfl (by decide +kernel) ?_ | refine WC.draw 6 rfl (by decide +kernel) ?_ | refine WC.draw 7 rfl (by decide +kernel) ?_ | refine WC.draw 8 rfl (by decide +kernel) ?_ | refine WC.draw 9 rfl (by decide +kernel) ?_ | refine WC.draw 10 rfl (by decide +kernel) ?_ | refine WC.draw 11 rfl (by decide +kernel) ?_ | refine WC.draw 12 rfl (by decide +kernel) ?_ | refine WC.draw 13 rfl (by decide +kernel) ?_ | refine WC.draw 14 rfl (by decide +kernel) ?_ | refine WC.draw 15 rfl (by decide +kernel) ?_ | refine WC.draw 16 rfl (by decide +kernel) ?_ | refine WC.draw 17 rfl (by decide +kernel) ?_ | refine WC.draw 18 rfl (by decide +kernel) ?_ | refine WC.draw 19 rfl (by decide +kernel) ?_ | refine WC.draw 20 rfl (by decide +kernel) ?_ | refine WC.draw 21 rfl (by decide +kernel) ?_ | refine WC.draw 22 rfl (by decide +kernel) ?_ | refine WC.draw 23 rfl (by decide +kernel) ?_ | refine WC.draw 24 rfl (by decide +kernel) ?_)); (repeat (refine WD.cons rfl (fun c h => by cases h) sq_D52_1 ?_)); refine WD.nil ?_)); (try (refine st ?_; (repeat intro zzc)))))) | ((first | (refine WL.makeMapT rfl ?_; intro zzc) | ((refine iDraw ?_; (first | refine WC.drawAll rfl (by decide +kernel) ?_ | refine WC.draw 1 rfl (by decide +kernel) ?_ | refine WC.draw 2 rfl (by decide +kernel) ?_ | refine WC.draw 3 rfl (by decide +kernel) ?_ | refine WC.draw 4 rfl (by decide +kernel) ?_ | refine WC.draw 5 rfl (by decide +kernel) ?_ | refine WC.draw 6 rfl (by decide +kernel) ?_ | refine WC.draw 7 rfl (by decide +kernel) ?_ | refine WC.draw 8 rfl (by decide +kernel) ?_ | refine WC.draw 9 rfl (by decide +kernel) ?_ | refine WC.draw 10 rfl (by decide +kernel) ?_ | refine WC.draw 11 rfl (by decide +kernel) ?_ | refine WC.draw 12 rfl (by decide +kernel) ?_ | refine WC.draw 13 rfl (by decide +kernel) ?_ | refine WC.draw 14 rfl (by decide +kernel) ?_ | refine WC.draw 15 rfl (by decide +kernel) ?_ | refine WC.draw 16 rfl (by decide +kernel) ?_ | refine WC.draw 17 rfl (by decide +kernel) ?_ | refine WC.draw 18 rfl (by decide +kernel) ?_ | refine WC.draw 19 rfl (by decide +kernel) ?_ | refine WC.draw 20 rfl (by decide +kernel) ?_ | refine WC.draw 21 rfl (by decide +kernel) ?_ | refine WC.draw 22 rfl (by decide +kernel) ?_ | refine WC.draw 23 rfl (by decide +kernel) ?_ | refine WC.draw 24 rfl (by decide +kernel) ?_)); (repeat (refine WD.cons rfl (fun c h => by cases h) sq_D52_1 ?_)); refine WD.nil ?_)); (try (refine st ?_; (repeat intro zzc))))); (repeat ((first | (refine WL.makeMapT rfl ?_; intro zzc) | ((refine iDraw ?_; (first | refine WC.drawAll rfl (by decide +kernel) ?_ | refine WC.draw 1 rfl (by decide +kernel) ?_ | refine WC.draw 2 rfl (by decide +kernel) ?_ | refine WC.draw 3 rfl (by decide +kernel) ?_ | refine WC.draw 4 rfl (by decide +kernel) ?_ | refine WC.draw 5 rfl (by decide +kernel) ?_ | refine WC.draw 6 rfl (by decide +kernel) ?_ | refine WC.draw 7 rfl (by decide +kernel) ?_ | refine WC.draw 8 rfl (by decide +kernel) ?_ | refine WC.draw 9 rfl (by decide +kernel) ?_ | refine WC.draw 10 rfl (by decide +kernel) ?_ | refine WC.draw 11 rfl (by decide +kernel) ?_ | refine WC.draw 12 rfl (by decide +kernel) ?_ | refine WC.draw 13 rfl (by decide +kernel) ?_ | refine WC.draw 14 rfl (by decide +kernel) ?_ | refine WC.draw 15 rfl (by decide +kernel) ?_ | refine WC.draw 16 rfl (by decide +kernel) ?_ | refine WC.draw 17 rfl (by decide +kernel) ?_ | refine WC.draw 18 rfl (by decide +kernel) ?_ | refine WC.draw 19 rfl (by decide +kernel) ?_ | refine WC.draw 20 rfl (by decide +kernel) ?_ | refine WC.draw 21 rfl (by decide +kernel) ?_ | refine WC.draw 22 rfl (by decide +kernel) ?_ | refine WC.draw 23 rfl (by decide +kernel) ?_ | refine WC.draw 24 rfl (by decide +kernel) ?_)); (repeat (refine WD.cons rfl (fun c h => by cases h) sq_D52_1 ?_)); refine WD.nil ?_)); (try (refine st ?_; (repeat intro zzc))))); (repeat revert zzc); exact zzn.out) : G := h ⟨next⟩
theorem hnew_any (s : Tx) (hs : s.length ≤ 65536) (w0 : World) (m : Mem) (H : SHeap) : Does Try.prog 14 #[str s] w0 m H (fun v m' H' => m' = m ∧ ∃ (bh bm bd : Nat), v = .tuple #[.pointer (some ⟨bh, 0, none⟩), .int .i64 0] ∧
    H' = .blk bh (.cells [.slice (some ⟨bd, 0, none⟩) 1 1, .map (some bm)].toArray 66 (0, 0)) :: .row (some ⟨bd, 0, none⟩) 1 71 3 (drs [⟨0, [], .slice none 0 0, s⟩]) :: .blk bm (mapT (brE [(0, mainN, 0)]) 1) :: H) := by
  refine Does.of_body (args := [str s]) Try.func14 rfl Try.ntmps14 rfl ?_
  (refine st_D52_1 ?_; intros; rename_i b3)
  refine w_callF Try.func29 ?_ (hs := long_any (L := [s]) (by simp) (rowR_blk (T := 9) (fz := (0, 0)) (L := [str s]) zhs rfl (by simp [strs])))
  rintro v m H9 ⟨rfl, rfl, rfl⟩
  rw [dcd_false (show ¬ Long [s] from by rintro ⟨x, hx, hx2⟩; rw [List.mem_singleton] at hx; subst hx; omega)]
  (refine st_D52_1 ?_; intros; rename_i bd bm)
  refine WL.putT (k := mainN) rfl rfl rfl rfl rfl (by repeat (first | exact Repl.here | apply Repl.there)) ?_
  (refine st_D52_1 ?_; intros; rename_i bh)
  refine WQ.blkRow (b := bd) (k := 1) (sz := 3) (es := drs [⟨0, [], .slice none 0 0, s⟩]) (by (repeat (first | exact Out.here | apply Out.there))) rfl (by simp [drs, drE]) rfl (by omega) ?_
  exact q_fin0 (H0 := .blk bh (.cells [.slice (some ⟨bd, 0, none⟩) 1 1, .map (some bm)].toArray 66 (0, 0)) :: .row (some ⟨bd, 0, none⟩) 1 71 3 (drs [⟨0, [], .slice none 0 0, s⟩]) :: .blk bm (mapT (brE [(0, mainN, 0)]) 1) :: H) ⟨rfl, bh, bm, bd, rfl, rfl⟩ (hd := zpk)
theorem hlen_mem {b n c : Nat} {a : Option Addr} {mp : Value} {w0 : World} {m : Mem} {H : SHeap} (hm : Eng.Item.blk b (.cells [.slice a n c, mp].toArray 66 (0, 0)) ∈ H) : Does Try.prog 6 #[.pointer (some ⟨b, 0, none⟩)] w0 m H (Gives (.int .i64 (n : Int)) m H) :=
  Does.gives_memD hm fun H => len_any w0 m H
theorem is_mem {b n c : Nat} {a : Option Addr} {mp : Value} (k : Int) {w0 : World} {m : Mem} {H : SHeap} (hm : Eng.Item.blk b (.cells [.slice a n c, mp].toArray 66 (0, 0)) ∈ H) : Does Try.prog 23 #[.pointer (some ⟨b, 0, none⟩), .int .i64 k] w0 m H (Gives (.bool (dcd (0 ≤ k ∧ k < (n : Int)))) m H) := by
  refine Does.gives_memD hm fun H => ?_
  refine Does.of_body (args := [.pointer (some ⟨b, 0, none⟩), .int .i64 k]) Try.func23 rfl Try.ntmps23 rfl ?_
  by_cases h0 : 0 ≤ k
  · (try (refine st_D52_1 ?_; intros))
    exact q_fin0 (H0 := .blk b (.cells [.slice a n c, mp].toArray 66 (0, 0)) :: H) (Gives.mk (congrArg _ (dcd_cong (show k < (n : Int) ↔ (0 ≤ k ∧ k < (n : Int)) from ⟨fun h => ⟨h0, h⟩, fun h => h.2⟩)))) (hd := zpk)
  · rw [dcd_false (fun h => h0 h.1)]
    (try (refine st_D52_1 ?_; intros))
    exact q_fin0 (H0 := .blk b (.cells [.slice a n c, mp].toArray 66 (0, 0)) :: H) (Gives.mk rfl) (hd := zpk)
end Go.Proofs.Ytgckeelnhafgaaa

