/-
  Parts of a walk, joined: D14 D15 D16 D17 ET1 ET2 ET3 ET4 ET5 ET6 ET7 ET8 ET9 ET10 ET11 ET12 ET13 ET14 ET31 ET15 DT12 EngQ. No condition.
-/
import Derived.Test.YtieangfnjflfmaaP4
import Derived.Test.YtieangfnjflfmaaP6
import Derived.Test.YtieangfnjflfmaaP5
import Derived.Test.YtieangfnjflfmaaP1
import Derived.Test.YtieangfnjflfmaaP2
import Derived.ChangeMaps5
import Derived.ReadAgain
import Derived.ChangeBook
import Derived.Deep.Slices
import Derived.WalkKit
import Derived.ProofKit
import Derived.OpenShut
import Derived.JoinedCond
set_option linter.all false
/-
  The walk of draft.Weave's side. No condition.
-/
namespace Go.Eng
open Go Go.RowKit
theorem Does.gives_memD {P : Program} {w0 : World} {m : Mem} {H : SHeap} {f : FuncId} {args : Array Value} {v : Value} {i : Item} (hm : i ∈ H) (h : ∀ H1, Does P f args w0 m (i :: H1) (Gives v m (i :: H1))) : Does P f args w0 m H (Gives v m H) := by
  intro w hs
  obtain ⟨H1, hp⟩ := hs.at_ hm
  refine (h H1 w (hs.perm hp)).mono ?_
  rintro e w' ⟨v', m', H', he, ⟨rfl, rfl, rfl⟩, hs'⟩
  exact ⟨_, _, _, he, ⟨rfl, rfl, rfl⟩, hs'.perm hp.symm⟩
/-- conflicts' cells -/
def cfs (l : List Cf) : List (List Value) := l.map Cf.cs
theorem cfs_length (l : List Cf) : (cfs l).length = l.length := List.length_map _
end Go.Eng
namespace Go.Proofs.Ytieangfnjflfmaa
open Go Go.Eng
set_option maxRecDepth 100000
set_option maxHeartbeats 4000000
set_option linter.all false
attribute [local irreducible] WL WC WQ QFun QLoop Does Q1 QRound QAssign Go.Addr.add
theorem bLen_mem {b cap : Nat} {ao a : Option Addr} {t : List UInt8} {w0 : World} {m : Mem} {H : SHeap} (hm : Eng.Item.blk b (.cells [.pointer ao, .slice a t.length cap].toArray 67 (0, 0)) ∈ H) :
    Does Try.prog 28 #[.pointer (some ⟨b, 0, none⟩)] w0 m H (Gives (.int .i64 (t.length : Int)) m H) := Does.gives_memD hm fun H1 => bLen_any w0 m H1
attribute [local irreducible] jn strs bCs cfs
theorem sq_D14_1 {G : Prop} (h : G := by (repeat (first | (refine sp ?_; (repeat intro zzc)) | (refine WL.append1 (by':=64) rfl rfl rfl rfl (by (repeat (first | exact Out.here | apply Out.there))) zhs (by exact rfl) (by exact rfl) (by exact rfl) (by exact rfl) (by exact rfl) (by exact rfl) (by first | exact rfl | omega) (by first | omega | (simp; omega)) (by decide) (by exact rfl) ?_; intro zzc zzc) | (refine WL.indexAddrA rfl rfl (by (first | with_reducible exact natz _ | with_reducible exact natz0 | with_reducible exact natz1 | with_reducible exact natz2 | with_reducible exact natz3 | with_reducible exact natz4 | with_reducible exact natz8 | (apply natz_add; (· first | with_reducible exact natz _ | with_reducible exact natz0 | with_reducible exact natz1 | with_reducible exact natz2 | with_reducible exact natz3 | with_reducible exact natz4 | with_reducible exact natz8); (· first | with_reducible exact natz _ | with_reducible exact natz0 | with_reducible exact natz1 | with_reducible exact natz2 | with_reducible exact natz3 | with_reducible exact natz4 | with_reducible exact natz8)) | (apply natz_sub; (· first | with_reducible exact natz _ | with_reducible exact natz0 | with_reducible exact natz1 | with_reducible exact natz2 | with_reducible exact natz3 | with_reducible exact natz4 | with_reducible exact natz8); (· first | with_reducible exact natz _ | with_reducible exact natz0 | with_reducible exact natz1 | with_reducible exact natz2 | with_reducible exact natz3 | with_reducible exact natz4 | with_reducible exact natz8); (· omega)) | exact (Int.toNat_of_nonneg (by omega)).symm)) rfl rfl (by omega) rfl rfl ?_))); exact WQ.q1 rfl) : G := h
theorem cm_D14_1 {G G' : Prop} (next : G') (h : Bx G' → G := by intro zzn; (try (refine wcal 0 ?_ (hwl := by intro zm zF zle; exact sq_D14_1))); (try (refine wcal 1 ?_ (hwl := by intro zm zF zle; exact sq_D14_1))); (try (refine wcal 2 ?_ (hwl := by intro zm zF zle; exact sq_D14_1))); (try (refine wcal 3 ?_ (hwl := by intro zm zF zle; exact sq_D14_1))); (try (refine wcal 4 ?_ (hwl := by intro zm zF zle; exact sq_D14_1))); (try (refine wcal 5 ?_ (hwl := by intro zm zF zle; exact sq_D14_1))); (try (refine wcal 6 ?_ (hwl := by intro zm zF zle; exact sq_D14_1))); (try (refine wcal 7 ?_ (hwl := by intro zm zF zle; exact sq_D14_1))); (try (refine wcal 8 ?_ (hwl := by intro zm zF zle; exact sq_D14_1))); (try (refine wcal 9 ?_ (hwl := by intro zm zF zle; exact sq_D14_1))); (try (refine wcal 10 ?_ (hwl := by intro zm zF zle; exact sq_D14_1))); (try (refine wcal 11 ?_ (hwl := by intro zm zF zle; exact sq_D14_1))); (try (refine wcal 12 ?_ (hwl := by intro zm zF zle; exact sq_D14_1))); (try (refine wcal 13 ?_ (hwl := by intro zm zF zle; exact sq_D14_1))); (try (refine wcal 14 ?_ (hwl := by intro zm zF zle; exact sq_D14_1))); (try (refine wcal 15 ?_ (hwl := by intro zm zF zle; exact sq_D14_1))); (try (refine wcal 16 ?_ (hwl := by intro zm zF zle; exact sq_D14_1))); (try (refine wcal 17 ?_ (hwl := by intro zm zF zle; exact sq_D14_1))); (try (refine wcal 18 ?_ (hwl := by intro zm zF zle; exact sq_D14_1))); (try (refine wcal 19 ?_ (hwl := by intro zm zF zle; exact sq_D14_1))); (try (refine wcal 20 ?_ (hwl := by intro zm zF zle; exact sq_D14_1))); (try (refine wcal 21 ?_ (hwl := by intro zm zF zle; exact sq_D14_1))); (try (refine wcal 22 ?_ (hwl := by intro zm zF zle; exact sq_D14_1))); (try (refine wcal 23 ?_ (hwl := by intro zm zF zle; exact sq_D14_1))); (try (refine wcal 24 ?_ (hwl := by intro zm zF zle; exact sq_D14_1))); (try (refine wcal 25 ?_ (hwl := by intro zm zF zle; exact sq_D14_1))); (try (refine wcal 26 ?_ (hwl := by intro zm zF zle; exact sq_D14_1))); (try (refine wcal 27 ?_ (hwl := by intro zm zF zle; exact sq_D14_1))); (try (refine wcal 28 ?_ (hwl := by intro zm zF zle; exact sq_D14_1))); (try (refine wcal 29 ?_ (hwl := by intro zm zF zle; exact sq_D14_1))); (try (refine wcal 30 ?_ (hwl := by intro zm zF zle; exact sq_D14_1))); (try (refine wcal 31 ?_ (hwl := by intro zm zF zle; exact sq_D14_1))); (try (refine wcal 32 ?_ (hwl := by intro zm zF zle; exact sq_D14_1))); (try (refine wcal 33 ?_ (hwl := by intro zm zF zle; exact sq_D14_1))); (try (refine wcal 34 ?_ (hwl := by intro zm zF zle; exact sq_D14_1))); (try (refine wcal 35 ?_ (hwl := by intro zm zF zle; exact sq_D14_1))); (try (refine wcal 36 ?_ (hwl := by intro zm zF zle; exact sq_D14_1))); (try (refine wcal 37 ?_ (hwl := by intro zm zF zle; exact sq_D14_1))); (try (refine wcal 38 ?_ (hwl := by intro zm zF zle; exact sq_D14_1))); (try (refine wcal 39 ?_ (hwl := by intro zm zF zle; exact sq_D14_1))); (try (refine wcal 40 ?_ (hwl := by intro zm zF zle; exact sq_D14_1))); (try (refine wcal 41 ?_ (hwl := by intro zm zF zle; exact sq_D14_1))); exact zzn.out) : G := h ⟨next⟩
theorem st_D14_1 {G G' : Prop} (next : G') (h : Bx G' → G := by intro zzn; (first | ((refine st ?_; (repeat intro zzc)); (try ((first | (refine WL.append1 (by':=64) rfl rfl rfl rfl (by (repeat (first | exact Out.here | apply Out.there))) zhs (by exact rfl) (by exact rfl) (by exact rfl) (by exact rfl) (by exact rfl) (by exact rfl) (by first | exact rfl | omega) (by first | omega | (simp; omega)) (by decide) (by exact rfl) ?_; intro zzc zzc) | (refine WL.indexAddrA rfl rfl (by (first | with_reducible exact natz _ | with_reducible exact natz0 | with_reducible exact natz1 | with_reducible exact natz2 | with_reducible exact natz3 | with_reducible exact natz4 | with_reducible exact natz8 | (apply natz_add; (· first | with_reducible exact natz _ | with_reducible exact natz0 | with_reducible exact natz1 | with_reducible exact natz2 | with_reducible exact natz3 | with_reducible exact natz4 | with_reducible exact natz8); (· first | with_reducible exact natz _ | with_reducible exact natz0 | with_reducible exact natz1 | with_reducible exact natz2 | with_reducible exact natz3 | with_reducible exact natz4 | with_reducible exact natz8)) | (apply natz_sub; (· first | with_reducible exact natz _ | with_reducible exact natz0 | with_reducible exact natz1 | with_reducible exact natz2 | with_reducible exact natz3 | with_reducible exact natz4 | with_reducible exact natz8); (· first | with_reducible exact natz _ | with_reducible exact natz0 | with_reducible exact natz1 | with_reducible exact natz2 | with_reducible exact natz3 | with_reducible exact natz4 | with_reducible exact natz8); (· omega)) | exact (Int.toNat_of_nonneg (by omega)).symm)) rfl rfl (by omega) rfl rfl ?_) | ((refine iDraw ?_; (first | refine WC.drawAll rfl (by decide +kernel) ?_ | refine WC.draw 1 rfl (by decide +kernel) ?_ | refine WC.draw 2 rfl (by decide +kernel) ?_ | refine WC.draw 3 rfl (by decide +kernel) ?_ | refine WC.draw 4 rfl (by decide +kernel) ?_ | refine WC.draw 5 rfl (by decide +kernel) ?_ | refine WC.draw 6 rfl (by decide +kernel) ?_ | refine WC.draw 7 rfl (by decide +kernel) ?_ | refine WC.draw 8 rfl (by decide +kernel) ?_ | refine WC.draw 9 rfl (by decide +kernel) ?_ | refine WC.draw 10 rfl (by decide +kernel) ?_ | refine WC.draw 11 rfl (by decide +kernel) ?_ | refine WC.draw 12 rfl (by decide +kernel) ?_ | refine WC.draw 13 rfl (by decide +kernel) ?_ | refine WC.draw 14 rfl (by decide +kernel) ?_ | refine WC.draw 15 rfl (by decide +kernel) ?_ | refine WC.draw 16 rfl (by decide +kernel) ?_ | refine WC.draw 17 rfl (by decide +kernel) ?_ | refine WC.draw 18 rfl (by decide +kernel) ?_ | refine WC.draw 19 rfl (by decide +kernel) ?_ | refine WC.draw 20 rfl (by decide +kernel) ?_ | refine WC.draw 21 rfl (by decide +kernel) ?_ | refine WC.draw 22 rfl (by decide +kernel) ?_ | refine WC.draw 23 rfl (by decide +kernel) ?_ | refine WC.draw 24 rfl (by decide +kernel) ?_)); (repeat (refine WD.cons rfl (fun c h => by cases h) sq_D14_1 ?_)); refine WD.nil ?_)); (try (refine st ?_; (repeat intro zzc)))))) | ((first | (refine WL.append1 (by':=64) rfl rfl rfl rfl (by (repeat (first | exact Out.here | apply Out.there))) zhs (by exact rfl) (by exact rfl) (by exact rfl) (by exact rfl) (by exact rfl) (by exact rfl) (by first | exact rfl | omega) (by first | omega | (simp; omega)) (by decide) (by exact rfl) ?_; intro zzc zzc) | (refine WL.indexAddrA rfl rfl (by (first | with_reducible exact natz _ | with_reducible exact natz0 | with_reducible exact natz1 | with_reducible exact natz2 | with_reducible exact natz3 | with_reducible exact natz4 | with_reducible exact natz8 | (apply natz_add; (· first | with_reducible exact natz _ | with_reducible exact natz0 | with_reducible exact natz1 | with_reducible exact natz2 | with_reducible exact natz3 | with_reducible exact natz4 | with_reducible exact natz8); (· first | with_reducible exact natz _ | with_reducible exact natz0 | with_reducible exact natz1 | with_reducible exact natz2 | with_reducible exact natz3 | with_reducible exact natz4 | with_reducible exact natz8)) | (apply natz_sub; (· first | with_reducible exact natz _ | with_reducible exact natz0 | with_reducible exact natz1 | with_reducible exact natz2 | with_reducible exact natz3 | with_reducible exact natz4 | with_reducible exact natz8); (· first | with_reducible exact natz _ | with_reducible exact natz0 | with_reducible exact natz1 | with_reducible exact natz2 | with_reducible exact natz3 | with_reducible exact natz4 | with_reducible exact natz8); (· omega)) | exact (Int.toNat_of_nonneg (by omega)).symm)) rfl rfl (by omega) rfl rfl ?_) | ((refine iDraw ?_; (first | refine WC.drawAll rfl (by decide +kernel) ?_ | refine WC.draw 1 rfl (by decide +kernel) ?_ | refine WC.draw 2 rfl (by decide +kernel) ?_ | refine WC.draw 3 rfl (by decide +kernel) ?_ | refine WC.draw 4 rfl (by decide +kernel) ?_ | refine WC.draw 5 rfl (by decide +kernel) ?_ | refine WC.draw 6 rfl (by decide +kernel) ?_ | refine WC.draw 7 rfl (by decide +kernel) ?_ | refine WC.draw 8 rfl (by decide +kernel) ?_ | refine WC.draw 9 rfl (by decide +kernel) ?_ | refine WC.draw 10 rfl (by decide +kernel) ?_ | refine WC.draw 11 rfl (by decide +kernel) ?_ | refine WC.draw 12 rfl (by decide +kernel) ?_ | refine WC.draw 13 rfl (by decide +kernel) ?_ | refine WC.draw 14 rfl (by decide +kernel) ?_ | refine WC.draw 15 rfl (by decide +kernel) ?_ | refine WC.draw 16 rfl (by decide +kernel) ?_ | refine WC.draw 17 rfl (by decide +kernel) ?_ | refine WC.draw 18 rfl (by decide +kernel) ?_ | refine WC.draw 19 rfl (by decide +kernel) ?_ | refine WC.draw 20 rfl (by decide +kernel) ?_ | refine WC.draw 21 rfl (by decide +kernel) ?_ | refine WC.draw 22 rfl (by decide +kernel) ?_ | refine WC.draw 23 rfl (by decide +kernel) ?_ | refine WC.draw 24 rfl (by decide +kernel) ?_)); (repeat (refine WD.cons rfl (fun c h => by cases h) sq_D14_1 ?_)); refine WD.nil ?_)); (try (refine st ?_; (repeat intro zzc))))); (repeat ((first | (refine WL.append1 (by':=64) rfl rfl rfl rfl (by (repeat (first | exact Out.here | apply Out.there))) zhs (by exact rfl) (by exact rfl) (by exact rfl) (by exact rfl) (by exact rfl) (by exact rfl) (by first | exact rfl | omega) (by first | omega | (simp; omega)) (by decide) (by exact rfl) ?_; intro zzc zzc) | (refine WL.indexAddrA rfl rfl (by (first | with_reducible exact natz _ | with_reducible exact natz0 | with_reducible exact natz1 | with_reducible exact natz2 | with_reducible exact natz3 | with_reducible exact natz4 | with_reducible exact natz8 | (apply natz_add; (· first | with_reducible exact natz _ | with_reducible exact natz0 | with_reducible exact natz1 | with_reducible exact natz2 | with_reducible exact natz3 | with_reducible exact natz4 | with_reducible exact natz8); (· first | with_reducible exact natz _ | with_reducible exact natz0 | with_reducible exact natz1 | with_reducible exact natz2 | with_reducible exact natz3 | with_reducible exact natz4 | with_reducible exact natz8)) | (apply natz_sub; (· first | with_reducible exact natz _ | with_reducible exact natz0 | with_reducible exact natz1 | with_reducible exact natz2 | with_reducible exact natz3 | with_reducible exact natz4 | with_reducible exact natz8); (· first | with_reducible exact natz _ | with_reducible exact natz0 | with_reducible exact natz1 | with_reducible exact natz2 | with_reducible exact natz3 | with_reducible exact natz4 | with_reducible exact natz8); (· omega)) | exact (Int.toNat_of_nonneg (by omega)).symm)) rfl rfl (by omega) rfl rfl ?_) | ((refine iDraw ?_; (first | refine WC.drawAll rfl (by decide +kernel) ?_ | refine WC.draw 1 rfl (by decide +kernel) ?_ | refine WC.draw 2 rfl (by decide +kernel) ?_ | refine WC.draw 3 rfl (by decide +kernel) ?_ | refine WC.draw 4 rfl (by decide +kernel) ?_ | refine WC.draw 5 rfl (by decide +kernel) ?_ | refine WC.draw 6 rfl (by decide +kernel) ?_ | refine WC.draw 7 rfl (by decide +kernel) ?_ | refine WC.draw 8 rfl (by decide +kernel) ?_ | refine WC.draw 9 rfl (by decide +kernel) ?_ | refine WC.draw 10 rfl (by decide +kernel) ?_ | refine WC.draw 11 rfl (by decide +kernel) ?_ | refine WC.draw 12 rfl (by decide +kernel) ?_ | refine WC.draw 13 rfl (by decide +kernel) ?_ | refine WC.draw 14 rfl (by decide +kernel) ?_ | refine WC.draw 15 rfl (by decide +kernel) ?_ | refine WC.draw 16 rfl (by decide +kernel) ?_ | refine WC.draw 17 rfl (by decide +kernel) ?_ | refine WC.draw 18 rfl (by decide +kernel) ?_ | refine WC.draw 19 rfl (by decide +kernel) ?_ | refine WC.draw 20 rfl (by decide +kernel) ?_ | refine WC.draw 21 rfl (by decide +kernel) ?_ | refine WC.draw 22 rfl (by decide +kernel) ?_ | refine WC.draw 23 rfl (by decide +kernel) ?_ | refine WC.draw 24 rfl (by decide +kernel) ?_)); (repeat (refine WD.cons rfl (fun c h => by cases h) sq_D14_1 ?_)); refine WD.nil ?_)); (try (refine st ?_; (repeat intro zzc))))); (repeat revert zzc); exact zzn.out) : G := h ⟨next⟩
theorem side_any {X Y Z : List Tx} {w : Wv} {bx by_ bz bat bl bb cx cy cz cl cb n k1 k2 : Nat} {ax ay az al ao ab : Option Addr} {w0 : World} {m : Mem} {H : SHeap}
    (hX : X.length ≤ 4194304 ∧ X.flatten.length ≤ 4194304 ∧ X.length ≤ cx) (hY : Y.length ≤ 4194304 ∧ Y.flatten.length ≤ 4194304 ∧ Y.length ≤ cy) (hZ : Z.length ≤ 4194304 ∧ Z.flatten.length ≤ 4194304 ∧ Z.length ≤ cz)
    (hn : w.p ≤ n ∧ n ≤ X.length) (hk1 : w.q ≤ k1 ∧ k1 ≤ Y.length) (hk2 : w.r ≤ k2 ∧ k2 ≤ Z.length) (ho : w.out.length ≤ 1099511627776) (hL : w.l.length ≤ 4194304) (hao : ao = none ∨ ao = some ⟨bb, 0, none⟩) (hab : ab = none ∨ 0 < cb) :
    Does Try.prog 26 #[.int .i64 (n : Int), .int .i64 (k1 : Int), .int .i64 (k2 : Int), .pointer (some ⟨bx, 0, none⟩), .pointer (some ⟨bat, 0, none⟩), .pointer (some ⟨by_, 0, none⟩), .pointer (some ⟨bz, 0, none⟩), .pointer (some ⟨bl, 0, none⟩), .pointer (some ⟨bb, 0, none⟩)] w0 m
      ([.blk bx (.cells [.slice ax X.length cx].toArray 49 (0, 0)), .row ax cx 9 1 (strs X), .blk by_ (.cells [.slice ay Y.length cy].toArray 49 (0, 0)), .row ay cy 9 1 (strs Y), .blk bz (.cells [.slice az Z.length cz].toArray 49 (0, 0)), .row az cz 9 1 (strs Z), .blk bat (.cells [.int .i64 (w.p : Int), .int .i64 (w.q : Int), .int .i64 (w.r : Int)].toArray 68 (0, 0)), .blk bl (.cells [.slice al w.l.length cl].toArray 23 (0, 0)), .row al cl 36 5 (cfs w.l), .blk bb (.cells [.pointer ao, .slice ab w.out.length cb].toArray 67 (0, 0)), .row ab cb 5 1 (bCs w.out)] ++ H)
      (fun _ m' H' => m' = m ∧ ∃ (al2 : Option Addr) (cl2 : Nat) (ao2 ab2 : Option Addr) (cb2 : Nat), (ao2 = none ∨ ao2 = some ⟨bb, 0, none⟩) ∧ (ab2 = none ∨ 0 < cb2) ∧
        H' = [.blk bx (.cells [.slice ax X.length cx].toArray 49 (0, 0)), .row ax cx 9 1 (strs X), .blk by_ (.cells [.slice ay Y.length cy].toArray 49 (0, 0)), .row ay cy 9 1 (strs Y), .blk bz (.cells [.slice az Z.length cz].toArray 49 (0, 0)), .row az cz 9 1 (strs Z), .blk bat (.cells [.int .i64 ((w.side X Y Z n k1 k2).p : Int), .int .i64 ((w.side X Y Z n k1 k2).q : Int), .int .i64 ((w.side X Y Z n k1 k2).r : Int)].toArray 68 (0, 0)), .blk bl (.cells [.slice al2 (w.side X Y Z n k1 k2).l.length cl2].toArray 23 (0, 0)), .row al2 cl2 36 5 (cfs (w.side X Y Z n k1 k2).l),
          .blk bb (.cells [.pointer ao2, .slice ab2 (w.side X Y Z n k1 k2).out.length cb2].toArray 67 (0, 0)), .row ab2 cb2 5 1 (bCs (w.side X Y Z n k1 k2).out)] ++ H) := by
  refine Does.of_body Try.func26 rfl Try.ntmps26 rfl ?_
  simp only [List.cons_append, List.nil_append]
  have hja := jn_le X w.p n
  have hjb := jn_le Y w.q k1
  have hjc := jn_le Z w.r k2
  (try (refine st_D14_1 ?_; intros))
  refine WC.drawE 18 ([.blk bx (.cells [.slice ax X.length cx].toArray 49 (0, 0)), .row ax cx 9 1 (strs X), .blk by_ (.cells [.slice ay Y.length cy].toArray 49 (0, 0)), .row ay cy 9 1 (strs Y), .blk bz (.cells [.slice az Z.length cz].toArray 49 (0, 0)), .row az cz 9 1 (strs Z), .blk bat (.cells [.int .i64 (w.p : Int), .int .i64 (w.q : Int), .int .i64 (w.r : Int)].toArray 68 (0, 0))]) (.blk bl (.cells [.slice al w.l.length cl].toArray 23 (0, 0)) :: .row al cl 36 5 (cfs w.l) :: .blk bb (.cells [.pointer ao, .slice ab w.out.length cb].toArray 67 (0, 0)) :: .row ab cb 5 1 (bCs w.out) :: H) rfl (by decide +kernel) zpk ?_
  (refine cm_D14_1 ?_)
  (refine WE.calm 5 (by decide +kernel) rfl rfl (by decide +kernel) rfl (fun c h => by cases h) (by intro zm zF zle; refine w_callF Try.func27 ?_ (hs := joinSub_any (l := X) zhs hn (by omega) (by omega)); rintro _ _ _ ⟨rfl, rfl, rfl⟩; exact sq_D14_1) ?_)
  (refine WE.calm 11 (by decide +kernel) rfl rfl (by decide +kernel) rfl (fun c h => by cases h) (by intro zm zF zle; refine w_callF Try.func27 ?_ (hs := joinSub_any (l := Y) zhs hk1 (by omega) (by omega)); rintro _ _ _ ⟨rfl, rfl, rfl⟩; exact sq_D14_1) ?_)
  (refine WE.calm 17 (by decide +kernel) rfl rfl (by decide +kernel) rfl (fun c h => by cases h) (by intro zm zF zle; refine w_callF Try.func27 ?_ (hs := joinSub_any (l := Z) zhs hk2 (by omega) (by omega)); rintro _ _ _ ⟨rfl, rfl, rfl⟩; exact sq_D14_1) ?_)
  refine WE.done (by decide +kernel) ?_
  have hn1 : (n : Int) + 1 = ((n + 1 : Nat) : Int) := by omega
  have hk11 : (k1 : Int) + 1 = ((k1 + 1 : Nat) : Int) := by omega
  have hk21 : (k2 : Int) + 1 = ((k2 + 1 : Nat) : Int) := by omega
  have hcf := cfs_length w.l
  have hside : w.side X Y Z n k1 k2 = ⟨w.out ++ sideT (jn X w.p n) (jn Y w.q k1) (jn Z w.r k2), w.l ++ sideC w.out.length (jn X w.p n) (jn Y w.q k1) (jn Z w.r k2), n + 1, k1 + 1, k2 + 1⟩ := rfl
  generalize jn X w.p n = tO at *
  generalize jn Y w.q k1 = tA at *
  generalize jn Z w.r k2 = tC at *
  by_cases h1 : tC = tO
  · have hW : w.side X Y Z n k1 k2 = ⟨w.out ++ tA, w.l, n + 1, k1 + 1, k2 + 1⟩ := by rw [hside, show sideT tO tA tC = tA from if_neg (fun g => g.1 h1), show sideC w.out.length tO tA tC = [] from if_neg (fun g => g.1 h1), List.append_nil]
    (try (refine st_D14_1 ?_; intros))
    refine WL.heap (H' := .blk bb (.cells [.pointer ao, .slice ab w.out.length cb].toArray 67 (0, 0)) :: .row ab cb 5 1 (bCs w.out) :: ([.blk bx (.cells [.slice ax X.length cx].toArray 49 (0, 0)), .row ax cx 9 1 (strs X), .blk by_ (.cells [.slice ay Y.length cy].toArray 49 (0, 0)), .row ay cy 9 1 (strs Y), .blk bz (.cells [.slice az Z.length cz].toArray 49 (0, 0)), .row az cz 9 1 (strs Z), .blk bat (.cells [.int .i64 ((n : Int) + 1), .int .i64 ((k1 : Int) + 1), .int .i64 ((k2 : Int) + 1)].toArray 68 (0, 0)), .blk bl (.cells [.slice al w.l.length cl].toArray 23 (0, 0)), .row al cl 36 5 (cfs w.l)] ++ H)) zpk ?_
    refine w_callF Try.func29 ?_ (hs := writeString_any hao hab (by unfold FitsB; omega) _ _ _)
    rintro v m9 H9 ⟨rfl, rfl, ao2, ab2, cb2, hao2, hab2, rfl⟩
    (try (refine st_D14_1 ?_; intros))
    rw [hW, hn1, hk11, hk21]
    exact q_finNorm0 (H0 := [.blk bx (.cells [.slice ax X.length cx].toArray 49 (0, 0)), .row ax cx 9 1 (strs X), .blk by_ (.cells [.slice ay Y.length cy].toArray 49 (0, 0)), .row ay cy 9 1 (strs Y), .blk bz (.cells [.slice az Z.length cz].toArray 49 (0, 0)), .row az cz 9 1 (strs Z), .blk bat (.cells [.int .i64 ((n + 1 : Nat) : Int), .int .i64 ((k1 + 1 : Nat) : Int), .int .i64 ((k2 + 1 : Nat) : Int)].toArray 68 (0, 0)), .blk bl (.cells [.slice al w.l.length cl].toArray 23 (0, 0)), .row al cl 36 5 (cfs w.l), .blk bb (.cells [.pointer ao2, .slice ab2 (w.out ++ tA).length cb2].toArray 67 (0, 0)), .row ab2 cb2 5 1 (bCs (w.out ++ tA))] ++ H) ⟨rfl, al, cl, ao2, ab2, cb2, hao2, hab2, rfl⟩ (hd := zpk)
  by_cases h2 : tA = tO
  · have hW : w.side X Y Z n k1 k2 = ⟨w.out ++ tC, w.l, n + 1, k1 + 1, k2 + 1⟩ := by rw [hside, show sideT tO tA tC = tC from if_pos ⟨h1, h2⟩, show sideC w.out.length tO tA tC = [] from if_neg (fun g => g.2.1 h2), List.append_nil]
    (try (refine st_D14_1 ?_; intros))
    refine WL.heap (H' := .blk bb (.cells [.pointer ao, .slice ab w.out.length cb].toArray 67 (0, 0)) :: .row ab cb 5 1 (bCs w.out) :: ([.blk bx (.cells [.slice ax X.length cx].toArray 49 (0, 0)), .row ax cx 9 1 (strs X), .blk by_ (.cells [.slice ay Y.length cy].toArray 49 (0, 0)), .row ay cy 9 1 (strs Y), .blk bz (.cells [.slice az Z.length cz].toArray 49 (0, 0)), .row az cz 9 1 (strs Z), .blk bat (.cells [.int .i64 ((n : Int) + 1), .int .i64 ((k1 : Int) + 1), .int .i64 ((k2 : Int) + 1)].toArray 68 (0, 0)), .blk bl (.cells [.slice al w.l.length cl].toArray 23 (0, 0)), .row al cl 36 5 (cfs w.l)] ++ H)) zpk ?_
    refine w_callF Try.func29 ?_ (hs := writeString_any hao hab (by unfold FitsB; omega) _ _ _)
    rintro v m9 H9 ⟨rfl, rfl, ao2, ab2, cb2, hao2, hab2, rfl⟩
    (try (refine st_D14_1 ?_; intros))
    rw [hW, hn1, hk11, hk21]
    exact q_finNorm0 (H0 := [.blk bx (.cells [.slice ax X.length cx].toArray 49 (0, 0)), .row ax cx 9 1 (strs X), .blk by_ (.cells [.slice ay Y.length cy].toArray 49 (0, 0)), .row ay cy 9 1 (strs Y), .blk bz (.cells [.slice az Z.length cz].toArray 49 (0, 0)), .row az cz 9 1 (strs Z), .blk bat (.cells [.int .i64 ((n + 1 : Nat) : Int), .int .i64 ((k1 + 1 : Nat) : Int), .int .i64 ((k2 + 1 : Nat) : Int)].toArray 68 (0, 0)), .blk bl (.cells [.slice al w.l.length cl].toArray 23 (0, 0)), .row al cl 36 5 (cfs w.l), .blk bb (.cells [.pointer ao2, .slice ab2 (w.out ++ tC).length cb2].toArray 67 (0, 0)), .row ab2 cb2 5 1 (bCs (w.out ++ tC))] ++ H) ⟨rfl, al, cl, ao2, ab2, cb2, hao2, hab2, rfl⟩ (hd := zpk)
  by_cases h3 : tA = tC
  · have hW : w.side X Y Z n k1 k2 = ⟨w.out ++ tA, w.l, n + 1, k1 + 1, k2 + 1⟩ := by rw [hside, show sideT tO tA tC = tA from if_neg (fun g => h2 g.2), show sideC w.out.length tO tA tC = [] from if_neg (fun g => g.2.2 h3), List.append_nil]
    (try (refine st_D14_1 ?_; intros))
    refine WL.heap (H' := .blk bb (.cells [.pointer ao, .slice ab w.out.length cb].toArray 67 (0, 0)) :: .row ab cb 5 1 (bCs w.out) :: ([.blk bx (.cells [.slice ax X.length cx].toArray 49 (0, 0)), .row ax cx 9 1 (strs X), .blk by_ (.cells [.slice ay Y.length cy].toArray 49 (0, 0)), .row ay cy 9 1 (strs Y), .blk bz (.cells [.slice az Z.length cz].toArray 49 (0, 0)), .row az cz 9 1 (strs Z), .blk bat (.cells [.int .i64 ((n : Int) + 1), .int .i64 ((k1 : Int) + 1), .int .i64 ((k2 : Int) + 1)].toArray 68 (0, 0)), .blk bl (.cells [.slice al w.l.length cl].toArray 23 (0, 0)), .row al cl 36 5 (cfs w.l)] ++ H)) zpk ?_
    refine w_callF Try.func29 ?_ (hs := writeString_any hao hab (by unfold FitsB; omega) _ _ _)
    rintro v m9 H9 ⟨rfl, rfl, ao2, ab2, cb2, hao2, hab2, rfl⟩
    (try (refine st_D14_1 ?_; intros))
    rw [hW, hn1, hk11, hk21]
    exact q_finNorm0 (H0 := [.blk bx (.cells [.slice ax X.length cx].toArray 49 (0, 0)), .row ax cx 9 1 (strs X), .blk by_ (.cells [.slice ay Y.length cy].toArray 49 (0, 0)), .row ay cy 9 1 (strs Y), .blk bz (.cells [.slice az Z.length cz].toArray 49 (0, 0)), .row az cz 9 1 (strs Z), .blk bat (.cells [.int .i64 ((n + 1 : Nat) : Int), .int .i64 ((k1 + 1 : Nat) : Int), .int .i64 ((k2 + 1 : Nat) : Int)].toArray 68 (0, 0)), .blk bl (.cells [.slice al w.l.length cl].toArray 23 (0, 0)), .row al cl 36 5 (cfs w.l), .blk bb (.cells [.pointer ao2, .slice ab2 (w.out ++ tA).length cb2].toArray 67 (0, 0)), .row ab2 cb2 5 1 (bCs (w.out ++ tA))] ++ H) ⟨rfl, al, cl, ao2, ab2, cb2, hao2, hab2, rfl⟩ (hd := zpk)
  · have hW : w.side X Y Z n k1 k2 = ⟨w.out ++ tA, w.l ++ [⟨w.out.length, w.out.length + tA.length, tO, tA, tC⟩], n + 1, k1 + 1, k2 + 1⟩ := by rw [hside, show sideT tO tA tC = tA from if_neg (fun g => h2 g.2), show sideC w.out.length tO tA tC = [⟨w.out.length, w.out.length + tA.length, tO, tA, tC⟩] from if_pos ⟨h1, h2, h3⟩]
    (try (refine st_D14_1 ?_; intros))
    refine WC.drawE 13 ([.blk bx (.cells [.slice ax X.length cx].toArray 49 (0, 0)), .row ax cx 9 1 (strs X), .blk by_ (.cells [.slice ay Y.length cy].toArray 49 (0, 0)), .row ay cy 9 1 (strs Y), .blk bz (.cells [.slice az Z.length cz].toArray 49 (0, 0)), .row az cz 9 1 (strs Z), .blk bat (.cells [.int .i64 ((n : Int) + 1), .int .i64 ((k1 : Int) + 1), .int .i64 ((k2 : Int) + 1)].toArray 68 (0, 0)), .blk bl (.cells [.slice al w.l.length cl].toArray 23 (0, 0)), .blk bb (.cells [.pointer ao, .slice ab w.out.length cb].toArray 67 (0, 0))]) (.row al cl 36 5 (cfs w.l) :: .row ab cb 5 1 (bCs w.out) :: H) rfl (by decide +kernel) zpk ?_
    (refine cm_D14_1 ?_)
    (refine WE.calm 1 (by decide +kernel) rfl rfl (by decide +kernel) rfl (fun c h => by cases h) (by intro zm zF zle; refine w_callF Try.func28 ?_ (hs := bLen_mem zhs); rintro _ _ _ ⟨rfl, rfl, rfl⟩; exact sq_D14_1) ?_)
    (refine WE.calm 2 (by decide +kernel) rfl rfl (by decide +kernel) rfl (fun c h => by cases h) (by intro zm zF zle; refine w_callF Try.func28 ?_ (hs := bLen_mem zhs); rintro _ _ _ ⟨rfl, rfl, rfl⟩; exact sq_D14_1) ?_)
    (refine cm_D14_1 ?_)
    refine WE.act1 11 (by decide +kernel) rfl rfl (fun c h => by cases h) ?_
    (refine st_D14_1 ?_; intros; rename_i b9)
    refine WQ.acted (B := [.blk b9 (.cells [.int .i64 (w.out.length : Int), .int .i64 ((w.out.length : Int) + (tA.length : Int)), str tO, str tA, str tC].toArray 36 (0, 0))]) (U := .row al cl 36 5 (cfs w.l) :: .row ab cb 5 1 (bCs w.out) :: H) rfl (Mem.le.refl _) zpk ?_
    (refine cm_D14_1 ?_)
    refine WE.act1 12 (by decide +kernel) rfl rfl (fun c h => by cases h) ?_
    (refine st_D14_1 ?_; intros; rename_i al2 cl2)
    rw [hcf]
    refine WQ.acted (B := []) (U := .row al2 cl2 36 5 (cfs w.l ++ [[.int .i64 (w.out.length : Int), .int .i64 ((w.out.length : Int) + (tA.length : Int)), str tO, str tA, str tC]]) :: .row ab cb 5 1 (bCs w.out) :: H) rfl (Mem.le.refl _) zpk ?_
    refine WE.done (by decide +kernel) ?_
    have hll : w.l.length + 1 = (w.l ++ [(⟨w.out.length, w.out.length + tA.length, tO, tA, tC⟩ : Cf)]).length := by simp
    have hlc : cfs w.l ++ [[.int .i64 (w.out.length : Int), .int .i64 ((w.out.length : Int) + (tA.length : Int)), str tO, str tA, str tC]] = cfs (w.l ++ [⟨w.out.length, w.out.length + tA.length, tO, tA, tC⟩]) := by
      unfold cfs
      rw [List.map_append]
      simp [Cf.cs]
    (try (refine st_D14_1 ?_; intros))
    refine WL.heap (H' := .blk bb (.cells [.pointer ao, .slice ab w.out.length cb].toArray 67 (0, 0)) :: .row ab cb 5 1 (bCs w.out) :: ([.blk bx (.cells [.slice ax X.length cx].toArray 49 (0, 0)), .row ax cx 9 1 (strs X), .blk by_ (.cells [.slice ay Y.length cy].toArray 49 (0, 0)), .row ay cy 9 1 (strs Y), .blk bz (.cells [.slice az Z.length cz].toArray 49 (0, 0)), .row az cz 9 1 (strs Z), .blk bat (.cells [.int .i64 ((n : Int) + 1), .int .i64 ((k1 : Int) + 1), .int .i64 ((k2 : Int) + 1)].toArray 68 (0, 0)), .blk bl (.cells [.slice al2 (w.l.length + 1) cl2].toArray 23 (0, 0)), .row al2 cl2 36 5 (cfs w.l ++ [[.int .i64 (w.out.length : Int), .int .i64 ((w.out.length : Int) + (tA.length : Int)), str tO, str tA, str tC]])] ++ H)) zpk ?_
    refine w_callF Try.func29 ?_ (hs := writeString_any hao hab (by unfold FitsB; omega) _ _ _)
    rintro v m9 H9 ⟨rfl, rfl, ao2, ab2, cb2, hao2, hab2, rfl⟩
    (try (refine st_D14_1 ?_; intros))
    rw [hW, hn1, hk11, hk21, hll, hlc]
    exact q_finNorm0 (H0 := [.blk bx (.cells [.slice ax X.length cx].toArray 49 (0, 0)), .row ax cx 9 1 (strs X), .blk by_ (.cells [.slice ay Y.length cy].toArray 49 (0, 0)), .row ay cy 9 1 (strs Y), .blk bz (.cells [.slice az Z.length cz].toArray 49 (0, 0)), .row az cz 9 1 (strs Z), .blk bat (.cells [.int .i64 ((n + 1 : Nat) : Int), .int .i64 ((k1 + 1 : Nat) : Int), .int .i64 ((k2 + 1 : Nat) : Int)].toArray 68 (0, 0)), .blk bl (.cells [.slice al2 (w.l ++ [(⟨w.out.length, w.out.length + tA.length, tO, tA, tC⟩ : Cf)]).length cl2].toArray 23 (0, 0)), .row al2 cl2 36 5 (cfs (w.l ++ [⟨w.out.length, w.out.length + tA.length, tO, tA, tC⟩])), .blk bb (.cells [.pointer ao2, .slice ab2 (w.out ++ tA).length cb2].toArray 67 (0, 0)), .row ab2 cb2 5 1 (bCs (w.out ++ tA))] ++ H) ⟨rfl, al2, cl2, ao2, ab2, cb2, hao2, hab2, rfl⟩ (hd := zpk)
end Go.Proofs.Ytieangfnjflfmaa

/-
  The walk of draft.Weave: its maps. No condition.
-/
namespace Go.Eng
open Go Go.RowKit
/-- a match as a map's entries -/
def kv (M : List (Nat × Nat)) : List (Int × Value) := M.map fun p => ((p.1 : Int), .int .i64 (p.2 : Int))
theorem kv_lookup (n : Nat) : ∀ M : List (Nat × Nat), (kv M).lookup (n : Int) = (M.lookup n).map fun k => .int .i64 (k : Int)
  | [] => rfl
  | (a, b) :: M => by
    show List.lookup (n : Int) (((a : Int), Value.int .i64 (b : Int)) :: kv M) = _
    rw [List.lookup_cons, List.lookup_cons]
    by_cases h : n = a
    · subst h; simp
    · rw [show ((n : Int) == (a : Int)) = false by simp; omega, show (n == a) = false by simp; exact h]
      exact kv_lookup n M
theorem PrOk.fresh {a b : List Tx} : ∀ {M A B : List (Nat × Nat)} {p : Nat × Nat} {i k n m : Nat}, PrOk a b i k M n m → M = A ++ p :: B → A.lookup p.1 = Option.none
  | M, [], B, p, i, k, n, m, h, e => rfl
  | M, q :: A, B, p, i, k, n, m, h, e => by
    subst e
    obtain ⟨h1, h2, h3, h4, h5, h6⟩ := h
    obtain ⟨q1, q2⟩ := q
    have hlt : ∀ {A B : List (Nat × Nat)} {p : Nat × Nat} {i k : Nat}, PrOk a b i k (A ++ p :: B) n m → i ≤ p.1 := by
      intro A
      induction A with
      | nil => intro B p i k h; exact h.1
      | cons r A ih => intro B p i k h; obtain ⟨g1, _, _, _, _, g6⟩ := h; have := ih g6; omega
    have hl := hlt h6
    simp only at hl
    rw [List.lookup_cons, show (p.1 == q1) = false by simp; omega]
    exact PrOk.fresh h6 rfl
end Go.Eng
namespace Go.Proofs.Ytieangfnjflfmaa
open Go Go.Eng
set_option maxRecDepth 100000
set_option maxHeartbeats 4000000
set_option linter.all false
attribute [local irreducible] WL WC WQ QFun QLoop Does Q1 QRound QAssign Go.Addr.add
attribute [local irreducible] kv mapO
theorem sq_D15_1 {G : Prop} (h : G := by (repeat (first | (refine sp ?_; (repeat intro zzc)) | (refine WL.indexAddrA rfl rfl (by (first | with_reducible exact natz _ | with_reducible exact natz0 | with_reducible exact natz1 | with_reducible exact natz2 | with_reducible exact natz3 | with_reducible exact natz4 | with_reducible exact natz8 | (apply natz_add; (· first | with_reducible exact natz _ | with_reducible exact natz0 | with_reducible exact natz1 | with_reducible exact natz2 | with_reducible exact natz3 | with_reducible exact natz4 | with_reducible exact natz8); (· first | with_reducible exact natz _ | with_reducible exact natz0 | with_reducible exact natz1 | with_reducible exact natz2 | with_reducible exact natz3 | with_reducible exact natz4 | with_reducible exact natz8)) | (apply natz_sub; (· first | with_reducible exact natz _ | with_reducible exact natz0 | with_reducible exact natz1 | with_reducible exact natz2 | with_reducible exact natz3 | with_reducible exact natz4 | with_reducible exact natz8); (· first | with_reducible exact natz _ | with_reducible exact natz0 | with_reducible exact natz1 | with_reducible exact natz2 | with_reducible exact natz3 | with_reducible exact natz4 | with_reducible exact natz8); (· omega)) | exact (Int.toNat_of_nonneg (by omega)).symm)) rfl rfl (by omega) rfl rfl ?_))); exact WQ.q1 rfl) : G := h
theorem st_D15_1 {G G' : Prop} (next : G') (h : Bx G' → G := by intro zzn; (first | ((refine st ?_; (repeat intro zzc)); (try ((first | (refine WL.indexAddrA rfl rfl (by (first | with_reducible exact natz _ | with_reducible exact natz0 | with_reducible exact natz1 | with_reducible exact natz2 | with_reducible exact natz3 | with_reducible exact natz4 | with_reducible exact natz8 | (apply natz_add; (· first | with_reducible exact natz _ | with_reducible exact natz0 | with_reducible exact natz1 | with_reducible exact natz2 | with_reducible exact natz3 | with_reducible exact natz4 | with_reducible exact natz8); (· first | with_reducible exact natz _ | with_reducible exact natz0 | with_reducible exact natz1 | with_reducible exact natz2 | with_reducible exact natz3 | with_reducible exact natz4 | with_reducible exact natz8)) | (apply natz_sub; (· first | with_reducible exact natz _ | with_reducible exact natz0 | with_reducible exact natz1 | with_reducible exact natz2 | with_reducible exact natz3 | with_reducible exact natz4 | with_reducible exact natz8); (· first | with_reducible exact natz _ | with_reducible exact natz0 | with_reducible exact natz1 | with_reducible exact natz2 | with_reducible exact natz3 | with_reducible exact natz4 | with_reducible exact natz8); (· omega)) | exact (Int.toNat_of_nonneg (by omega)).symm)) rfl rfl (by omega) rfl rfl ?_) | ((refine iDraw ?_; (first | refine WC.drawAll rfl (by decide +kernel) ?_ | refine WC.draw 1 rfl (by decide +kernel) ?_ | refine WC.draw 2 rfl (by decide +kernel) ?_ | refine WC.draw 3 rfl (by decide +kernel) ?_ | refine WC.draw 4 rfl (by decide +kernel) ?_ | refine WC.draw 5 rfl (by decide +kernel) ?_ | refine WC.draw 6 rfl (by decide +kernel) ?_ | refine WC.draw 7 rfl (by decide +kernel) ?_ | refine WC.draw 8 rfl (by decide +kernel) ?_ | refine WC.draw 9 rfl (by decide +kernel) ?_ | refine WC.draw 10 rfl (by decide +kernel) ?_ | refine WC.draw 11 rfl (by decide +kernel) ?_ | refine WC.draw 12 rfl (by decide +kernel) ?_ | refine WC.draw 13 rfl (by decide +kernel) ?_ | refine WC.draw 14 rfl (by decide +kernel) ?_ | refine WC.draw 15 rfl (by decide +kernel) ?_ | refine WC.draw 16 rfl (by decide +kernel) ?_ | refine WC.draw 17 rfl (by decide +kernel) ?_ | refine WC.draw 18 rfl (by decide +kernel) ?_ | refine WC.draw 19 rfl (by decide +kernel) ?_ | refine WC.draw 20 rfl (by decide +kernel) ?_ | refine WC.draw 21 rfl (by decide +kernel) ?_ | refine WC.draw 22 rfl (by decide +kernel) ?_ | refine WC.draw 23 rfl (by decide +kernel) ?_ | refine WC.draw 24 rfl (by decide +kernel) ?_)); (repeat (refine WD.cons rfl (fun c h => by cases h) sq_D15_1 ?_)); refine WD.nil ?_)); (try (refine st ?_; (repeat intro zzc)))))) | ((first | (refine WL.indexAddrA rfl rfl (by (first | with_reducible exact natz _ | with_reducible exact natz0 | with_reducible exact natz1 | with_reducible exact natz2 | with_reducible exact natz3 | with_reducible exact natz4 | with_reducible exact natz8 | (apply natz_add; (· first | with_reducible exact natz _ | with_reducible exact natz0 | with_reducible exact natz1 | with_reducible exact natz2 | with_reducible exact natz3 | with_reducible exact natz4 | with_reducible exact natz8); (· first | with_reducible exact natz _ | with_reducible exact natz0 | with_reducible exact natz1 | with_reducible exact natz2 | with_reducible exact natz3 | with_reducible exact natz4 | with_reducible exact natz8)) | (apply natz_sub; (· first | with_reducible exact natz _ | with_reducible exact natz0 | with_reducible exact natz1 | with_reducible exact natz2 | with_reducible exact natz3 | with_reducible exact natz4 | with_reducible exact natz8); (· first | with_reducible exact natz _ | with_reducible exact natz0 | with_reducible exact natz1 | with_reducible exact natz2 | with_reducible exact natz3 | with_reducible exact natz4 | with_reducible exact natz8); (· omega)) | exact (Int.toNat_of_nonneg (by omega)).symm)) rfl rfl (by omega) rfl rfl ?_) | ((refine iDraw ?_; (first | refine WC.drawAll rfl (by decide +kernel) ?_ | refine WC.draw 1 rfl (by decide +kernel) ?_ | refine WC.draw 2 rfl (by decide +kernel) ?_ | refine WC.draw 3 rfl (by decide +kernel) ?_ | refine WC.draw 4 rfl (by decide +kernel) ?_ | refine WC.draw 5 rfl (by decide +kernel) ?_ | refine WC.draw 6 rfl (by decide +kernel) ?_ | refine WC.draw 7 rfl (by decide +kernel) ?_ | refine WC.draw 8 rfl (by decide +kernel) ?_ | refine WC.draw 9 rfl (by decide +kernel) ?_ | refine WC.draw 10 rfl (by decide +kernel) ?_ | refine WC.draw 11 rfl (by decide +kernel) ?_ | refine WC.draw 12 rfl (by decide +kernel) ?_ | refine WC.draw 13 rfl (by decide +kernel) ?_ | refine WC.draw 14 rfl (by decide +kernel) ?_ | refine WC.draw 15 rfl (by decide +kernel) ?_ | refine WC.draw 16 rfl (by decide +kernel) ?_ | refine WC.draw 17 rfl (by decide +kernel) ?_ | refine WC.draw 18 rfl (by decide +kernel) ?_ | refine WC.draw 19 rfl (by decide +kernel) ?_ | refine WC.draw 20 rfl (by decide +kernel) ?_ | refine WC.draw 21 rfl (by decide +kernel) ?_ | refine WC.draw 22 rfl (by decide +kernel) ?_ | refine WC.draw 23 rfl (by decide +kernel) ?_ | refine WC.draw 24 rfl (by decide +kernel) ?_)); (repeat (refine WD.cons rfl (fun c h => by cases h) sq_D15_1 ?_)); refine WD.nil ?_)); (try (refine st ?_; (repeat intro zzc))))); (repeat ((first | (refine WL.indexAddrA rfl rfl (by (first | with_reducible exact natz _ | with_reducible exact natz0 | with_reducible exact natz1 | with_reducible exact natz2 | with_reducible exact natz3 | with_reducible exact natz4 | with_reducible exact natz8 | (apply natz_add; (· first | with_reducible exact natz _ | with_reducible exact natz0 | with_reducible exact natz1 | with_reducible exact natz2 | with_reducible exact natz3 | with_reducible exact natz4 | with_reducible exact natz8); (· first | with_reducible exact natz _ | with_reducible exact natz0 | with_reducible exact natz1 | with_reducible exact natz2 | with_reducible exact natz3 | with_reducible exact natz4 | with_reducible exact natz8)) | (apply natz_sub; (· first | with_reducible exact natz _ | with_reducible exact natz0 | with_reducible exact natz1 | with_reducible exact natz2 | with_reducible exact natz3 | with_reducible exact natz4 | with_reducible exact natz8); (· first | with_reducible exact natz _ | with_reducible exact natz0 | with_reducible exact natz1 | with_reducible exact natz2 | with_reducible exact natz3 | with_reducible exact natz4 | with_reducible exact natz8); (· omega)) | exact (Int.toNat_of_nonneg (by omega)).symm)) rfl rfl (by omega) rfl rfl ?_) | ((refine iDraw ?_; (first | refine WC.drawAll rfl (by decide +kernel) ?_ | refine WC.draw 1 rfl (by decide +kernel) ?_ | refine WC.draw 2 rfl (by decide +kernel) ?_ | refine WC.draw 3 rfl (by decide +kernel) ?_ | refine WC.draw 4 rfl (by decide +kernel) ?_ | refine WC.draw 5 rfl (by decide +kernel) ?_ | refine WC.draw 6 rfl (by decide +kernel) ?_ | refine WC.draw 7 rfl (by decide +kernel) ?_ | refine WC.draw 8 rfl (by decide +kernel) ?_ | refine WC.draw 9 rfl (by decide +kernel) ?_ | refine WC.draw 10 rfl (by decide +kernel) ?_ | refine WC.draw 11 rfl (by decide +kernel) ?_ | refine WC.draw 12 rfl (by decide +kernel) ?_ | refine WC.draw 13 rfl (by decide +kernel) ?_ | refine WC.draw 14 rfl (by decide +kernel) ?_ | refine WC.draw 15 rfl (by decide +kernel) ?_ | refine WC.draw 16 rfl (by decide +kernel) ?_ | refine WC.draw 17 rfl (by decide +kernel) ?_ | refine WC.draw 18 rfl (by decide +kernel) ?_ | refine WC.draw 19 rfl (by decide +kernel) ?_ | refine WC.draw 20 rfl (by decide +kernel) ?_ | refine WC.draw 21 rfl (by decide +kernel) ?_ | refine WC.draw 22 rfl (by decide +kernel) ?_ | refine WC.draw 23 rfl (by decide +kernel) ?_ | refine WC.draw 24 rfl (by decide +kernel) ?_)); (repeat (refine WD.cons rfl (fun c h => by cases h) sq_D15_1 ?_)); refine WD.nil ?_)); (try (refine st ?_; (repeat intro zzc))))); (repeat revert zzc); exact zzn.out) : G := h ⟨next⟩
theorem fill_own {X Y : List Tx} {M : List (Nat × Nat)} {a : Option Addr} {cp bm bm2 bx by_ bz : Nat} {w0 : World} {m : Mem} {H : SHeap} {Q : Exit → Act → World → Prop} (hM : PrOk X Y 0 0 M X.length Y.length) (hl : M.length ≤ 4194304) (hX : X.length ≤ 4194304 ∧ Y.length ≤ 4194304)
    (hK : WQ 116 w0 Q (.exit 0) [(12, .map (some bm)), (9, .pointer (some ⟨bx, 0, none⟩)), (10, .pointer (some ⟨by_, 0, none⟩)), (11, .pointer (some ⟨bz, 0, none⟩)), (13, .map (some bm2))] [] m (.blk bm (mapO .i64 (kv M)) :: H)) :
    WC Try.prog none 116 w0 ((loopsIn (Try.f8.body.getD .skip)).getD 0 .skip) Q [(45, .int .i64 0), (44, .int .i64 (M.length : Int)), (43, .slice a M.length cp), (12, .map (some bm)), (9, .pointer (some ⟨bx, 0, none⟩)), (10, .pointer (some ⟨by_, 0, none⟩)), (11, .pointer (some ⟨bz, 0, none⟩)), (13, .map (some bm2))] [] m
      (.blk bm (mapO .i64 []) :: .row a cp 44 2 (M.map prE) :: H) := by
  have hml : (M.map prE).length = M.length := List.length_map _
  rw [show ([] : List (Int × Value)) = kv (M.take 0) from by unfold kv; rfl]
  refine WC.loopH [(45, .int .i64 ((0) : Int)), (44, .int .i64 (M.length : Int)), (43, .slice a M.length cp), (12, .map (some bm)), (9, .pointer (some ⟨bx, 0, none⟩)), (10, .pointer (some ⟨by_, 0, none⟩)), (11, .pointer (some ⟨bz, 0, none⟩)), (13, .map (some bm2))] ?_ ?_ (fun j r ds m' H' => ∃ i, j = M.length - i ∧ r = [(45, .int .i64 (i : Int)), (44, .int .i64 (M.length : Int)), (43, .slice a M.length cp), (12, .map (some bm)), (9, .pointer (some ⟨bx, 0, none⟩)), (10, .pointer (some ⟨by_, 0, none⟩)), (11, .pointer (some ⟨bz, 0, none⟩)), (13, .map (some bm2))] ∧ ds = [] ∧ m = m' ∧ H' = .blk bm (mapO .i64 (kv (M.take i))) :: .row a cp 44 2 (M.map prE) :: H ∧ (i ≤ M.length)) (M.length - (0)) ⟨0, rfl, rfl, rfl, rfl, rfl, by omega⟩ ?_
  · (repeat (first | exact Env.Sub.nil | refine Env.Sub.cons rfl ?_))
  · exact zpk
  rintro j r ds m' H' ⟨i, rfl, rfl, rfl, rfl, rfl, hi⟩
  by_cases hlt : i < M.length
  · obtain ⟨p, hp⟩ : ∃ p, M[i]? = some p := ⟨_, List.getElem?_eq_getElem hlt⟩
    have hgp : (M.map prE)[i]? = some [.int .i64 (p.1 : Int), .int .i64 (p.2 : Int)] := by rw [List.getElem?_map, hp]; rfl
    have hnew : (kv (M.take i)).lookup (p.1 : Int) = none := by
      rw [kv_lookup, hM.fresh (A := M.take i) (p := p) (B := M.drop (i + 1)) (by
        obtain ⟨h1, h2⟩ := List.getElem?_eq_some_iff.1 hp
        conv => lhs; rw [← List.take_append_drop i M, List.drop_eq_getElem_cons h1, h2])]
      rfl
    have hsnoc : kv (M.take i) ++ [((p.1 : Int), Value.int .i64 (p.2 : Int))] = kv (M.take (i + 1)) := by
      unfold kv
      rw [List.take_succ, hp]; simp
    generalize M.map prE = ME at *
    generalize kv (M.take i) = K at *
    refine WC.rowSome zhs (by omega) ?_
    rintro a0 rfl
    (refine st_D15_1 ?_; intros; rename_i bp)
    refine WL.mapNew (q := .i64) (q' := .i64) rfl rfl rfl rfl rfl (by repeat (first | exact Repl.here | apply Repl.there)) hnew ?_
    rw [hsnoc]
    (try (refine st_D15_1 ?_; intros))
    refine WQ.next (M.length - (i + 1)) ⟨i + 1, rfl, rfl, rfl, rfl, rfl, ?_⟩ (by omega) zsb zpk
    · omega
  · rw [List.take_of_length_le (by omega)]
    (try (refine st_D15_1 ?_; intros))
    exact WQ.weak zsb zpk hK
theorem fill_other {X Y : List Tx} {M : List (Nat × Nat)} {a : Option Addr} {cp bm bm2 bx by_ bz : Nat} {w0 : World} {m : Mem} {H : SHeap} {Q : Exit → Act → World → Prop} (hM : PrOk X Y 0 0 M X.length Y.length) (hl : M.length ≤ 4194304) (hX : X.length ≤ 4194304 ∧ Y.length ≤ 4194304)
    (hK : WQ 116 w0 Q (.exit 2) [(13, .map (some bm)), (9, .pointer (some ⟨bx, 0, none⟩)), (10, .pointer (some ⟨by_, 0, none⟩)), (11, .pointer (some ⟨bz, 0, none⟩)), (12, .map (some bm2))] [] m (.blk bm (mapO .i64 (kv M)) :: H)) :
    WC Try.prog none 116 w0 ((loopsIn (Try.f8.body.getD .skip)).getD 1 .skip) Q [(59, .int .i64 0), (58, .int .i64 (M.length : Int)), (57, .slice a M.length cp), (13, .map (some bm)), (9, .pointer (some ⟨bx, 0, none⟩)), (10, .pointer (some ⟨by_, 0, none⟩)), (11, .pointer (some ⟨bz, 0, none⟩)), (12, .map (some bm2))] [] m
      (.blk bm (mapO .i64 []) :: .row a cp 44 2 (M.map prE) :: H) := by
  have hml : (M.map prE).length = M.length := List.length_map _
  rw [show ([] : List (Int × Value)) = kv (M.take 0) from by unfold kv; rfl]
  refine WC.loopH [(59, .int .i64 ((0) : Int)), (58, .int .i64 (M.length : Int)), (57, .slice a M.length cp), (13, .map (some bm)), (9, .pointer (some ⟨bx, 0, none⟩)), (10, .pointer (some ⟨by_, 0, none⟩)), (11, .pointer (some ⟨bz, 0, none⟩)), (12, .map (some bm2))] ?_ ?_ (fun j r ds m' H' => ∃ i, j = M.length - i ∧ r = [(59, .int .i64 (i : Int)), (58, .int .i64 (M.length : Int)), (57, .slice a M.length cp), (13, .map (some bm)), (9, .pointer (some ⟨bx, 0, none⟩)), (10, .pointer (some ⟨by_, 0, none⟩)), (11, .pointer (some ⟨bz, 0, none⟩)), (12, .map (some bm2))] ∧ ds = [] ∧ m = m' ∧ H' = .blk bm (mapO .i64 (kv (M.take i))) :: .row a cp 44 2 (M.map prE) :: H ∧ (i ≤ M.length)) (M.length - (0)) ⟨0, rfl, rfl, rfl, rfl, rfl, by omega⟩ ?_
  · (repeat (first | exact Env.Sub.nil | refine Env.Sub.cons rfl ?_))
  · exact zpk
  rintro j r ds m' H' ⟨i, rfl, rfl, rfl, rfl, rfl, hi⟩
  by_cases hlt : i < M.length
  · obtain ⟨p, hp⟩ : ∃ p, M[i]? = some p := ⟨_, List.getElem?_eq_getElem hlt⟩
    have hgp : (M.map prE)[i]? = some [.int .i64 (p.1 : Int), .int .i64 (p.2 : Int)] := by rw [List.getElem?_map, hp]; rfl
    have hnew : (kv (M.take i)).lookup (p.1 : Int) = none := by
      rw [kv_lookup, hM.fresh (A := M.take i) (p := p) (B := M.drop (i + 1)) (by
        obtain ⟨h1, h2⟩ := List.getElem?_eq_some_iff.1 hp
        conv => lhs; rw [← List.take_append_drop i M, List.drop_eq_getElem_cons h1, h2])]
      rfl
    have hsnoc : kv (M.take i) ++ [((p.1 : Int), Value.int .i64 (p.2 : Int))] = kv (M.take (i + 1)) := by
      unfold kv
      rw [List.take_succ, hp]; simp
    generalize M.map prE = ME at *
    generalize kv (M.take i) = K at *
    refine WC.rowSome zhs (by omega) ?_
    rintro a0 rfl
    (refine st_D15_1 ?_; intros; rename_i bp)
    refine WL.mapNew (q := .i64) (q' := .i64) rfl rfl rfl rfl rfl (by repeat (first | exact Repl.here | apply Repl.there)) hnew ?_
    rw [hsnoc]
    (try (refine st_D15_1 ?_; intros))
    refine WQ.next (M.length - (i + 1)) ⟨i + 1, rfl, rfl, rfl, rfl, rfl, ?_⟩ (by omega) zsb zpk
    · omega
  · rw [List.take_of_length_le (by omega)]
    (try (refine st_D15_1 ?_; intros))
    exact WQ.weak zsb zpk hK
end Go.Proofs.Ytieangfnjflfmaa

/-
  The walk of draft.Weave: its loop over the tokens. No condition.
-/
namespace Go.Eng
open Go Go.RowKit
/-- where a match stands at a place -/
def MSt (X Y : List Tx) (M : List (Nat × Nat)) (i k : Nat) : Prop := ∃ l2, PrOk X Y i k l2 X.length Y.length ∧ ∀ j, i ≤ j → M.lookup j = l2.lookup j
theorem MSt.start {X Y : List Tx} : MSt X Y (matchL X Y) 0 0 := ⟨_, match_ok X Y, fun _ _ => rfl⟩
theorem MSt.le {X Y : List Tx} {M : List (Nat × Nat)} {i k : Nat} (h : MSt X Y M i k) : k ≤ Y.length := by
  obtain ⟨l2, h1, _⟩ := h
  exact h1.le.2
theorem MSt.next {X Y : List Tx} {M : List (Nat × Nat)} {i k : Nat} (h : MSt X Y M i k) (hi : i < X.length) :
    MSt X Y M (i + 1) k ∧ (M.lookup i = none ∨ ∃ p, M.lookup i = some p ∧ k ≤ p ∧ p < Y.length ∧ (∃ x, X[i]? = some x ∧ Y[p]? = some x) ∧ MSt X Y M (i + 1) (p + 1)) := by
  obtain ⟨l2, h1, h2⟩ := h
  rcases h1.next hi with ⟨g1, g2⟩ | ⟨p, l3, g1, g2, g3, g4, g5, g6⟩
  · exact ⟨⟨l2, g2, fun j hj => h2 j (by omega)⟩, .inl (by rw [h2 i (Nat.le_refl _)]; exact g1)⟩
  · have e : ∀ j, i + 1 ≤ j → M.lookup j = l3.lookup j := fun j hj => by rw [h2 j (by omega)]; exact g6 j (by omega)
    exact ⟨⟨l3, g5.low (Nat.le_refl _) (by omega), e⟩, .inr ⟨p, by rw [h2 i (Nat.le_refl _)]; exact g1, g2, g3, g4, l3, g5, e⟩⟩
theorem sideT_le (o a c : Tx) : (sideT o a c).length ≤ max a.length c.length := by
  unfold sideT
  split
  · omega
  · omega
theorem sideC_le (n : Nat) (o a c : Tx) : (sideC n o a c).length ≤ 1 := by
  unfold sideC
  split <;> simp
theorem mem_le_flat {l : List Tx} {x : Tx} (h : x ∈ l) : x.length ≤ l.flatten.length := by
  induction l with
  | nil => cases h
  | cons y l ih =>
    rw [List.flatten_cons, List.length_append]
    rcases List.mem_cons.1 h with rfl | h
    · omega
    · have := ih h; omega
theorem wvGo_skip {x y z : List Tx} {M N : List (Nat × Nat)} {t : Tx} {ts : List Tx} {n : Nat} {w : Wv} (h : M.lookup n = none ∨ N.lookup n = none) : wvGo x y z M N (t :: ts) n w = wvGo x y z M N ts (n + 1) w := by
  rw [wvGo]
  rcases h with h | h
  · rw [h]
  · rw [h]
    cases M.lookup n <;> rfl
theorem wvGo_both {x y z : List Tx} {M N : List (Nat × Nat)} {t : Tx} {ts : List Tx} {n p q : Nat} {w : Wv} (h1 : M.lookup n = some p) (h2 : N.lookup n = some q) : wvGo x y z M N (t :: ts) n w = wvGo x y z M N ts (n + 1) ((w.side x y z n p q).add t) := by
  rw [wvGo, h1, h2]
end Go.Eng
namespace Go.Proofs.Ytieangfnjflfmaa
open Go Go.Eng
set_option maxRecDepth 100000
set_option maxHeartbeats 4000000
set_option linter.all false
attribute [local irreducible] WL WC WQ QFun QLoop Does Q1 QRound QAssign Go.Addr.add
attribute [local irreducible] kv mapO jn strs bCs cfs sideT sideC
theorem weave_loop {X Y Z : List Tx} {M N : List (Nat × Nat)} {bx by_ bz bat bl bb bm bm2 cx cy cz : Nat} {ax ay az : Option Addr} {w0 : World} {m : Mem} {H : SHeap} {Q : Exit → Act → World → Prop} {F : Wv}
    (hX : X.length ≤ 65536 ∧ X.flatten.length ≤ 65536 ∧ X.length ≤ cx) (hY : Y.length ≤ 65536 ∧ Y.flatten.length ≤ 65536 ∧ Y.length ≤ cy) (hZ : Z.length ≤ 65536 ∧ Z.flatten.length ≤ 65536 ∧ Z.length ≤ cz) (hM : MSt X Y M 0 0) (hN : MSt X Z N 0 0) (hF : wvGo X Y Z M N X 0 ⟨[], [], 0, 0, 0⟩ = F)
    (hK : ∀ (w : Wv) (al : Option Addr) (cl : Nat) (ao ab : Option Addr) (cb : Nat), w.side X Y Z X.length Y.length Z.length = F → w.p ≤ X.length → w.q ≤ Y.length → w.r ≤ Z.length → w.out.length ≤ 8589934592 → w.l.length ≤ 65536 → (ao = none ∨ ao = some ⟨bb, 0, none⟩) → (ab = none ∨ 0 < cb) →
      WQ 116 w0 Q (.exit 4) [(9, .pointer (some ⟨bx, 0, none⟩)), (10, .pointer (some ⟨by_, 0, none⟩)), (11, .pointer (some ⟨bz, 0, none⟩)), (18, .pointer (some ⟨bb, 0, none⟩)), (19, .pointer (some ⟨bl, 0, none⟩)), (21, .func (.func 26) #[] [.pointer (some ⟨bx, 0, none⟩), .pointer (some ⟨bat, 0, none⟩), .pointer (some ⟨by_, 0, none⟩), .pointer (some ⟨bz, 0, none⟩), .pointer (some ⟨bl, 0, none⟩), .pointer (some ⟨bb, 0, none⟩)].toArray)] [] m (.blk bx (.cells [.slice ax X.length cx].toArray 49 (0, 0)) :: .row ax cx 9 1 (strs X) :: .blk by_ (.cells [.slice ay Y.length cy].toArray 49 (0, 0)) :: .row ay cy 9 1 (strs Y) :: .blk bz (.cells [.slice az Z.length cz].toArray 49 (0, 0)) :: .row az cz 9 1 (strs Z) :: .blk bat (.cells [.int .i64 (w.p : Int), .int .i64 (w.q : Int), .int .i64 (w.r : Int)].toArray 68 (0, 0)) :: .blk bl (.cells [.slice al w.l.length cl].toArray 23 (0, 0)) :: .row al cl 36 5 (cfs w.l) :: .blk bb (.cells [.pointer ao, .slice ab w.out.length cb].toArray 67 (0, 0)) :: .row ab cb 5 1 (bCs w.out) :: H)) :
    WC Try.prog none 116 w0 ((loopsIn (Try.f8.body.getD .skip)).getD 2 .skip) Q [(72, .int .i64 0), (71, .int .i64 (X.length : Int)), (70, .slice ax X.length cx), (12, .map (some bm)), (13, .map (some bm2)), (9, .pointer (some ⟨bx, 0, none⟩)), (10, .pointer (some ⟨by_, 0, none⟩)), (11, .pointer (some ⟨bz, 0, none⟩)), (18, .pointer (some ⟨bb, 0, none⟩)), (19, .pointer (some ⟨bl, 0, none⟩)), (21, .func (.func 26) #[] [.pointer (some ⟨bx, 0, none⟩), .pointer (some ⟨bat, 0, none⟩), .pointer (some ⟨by_, 0, none⟩), .pointer (some ⟨bz, 0, none⟩), .pointer (some ⟨bl, 0, none⟩), .pointer (some ⟨bb, 0, none⟩)].toArray)] [] m
      (.blk bx (.cells [.slice ax X.length cx].toArray 49 (0, 0)) :: .row ax cx 9 1 (strs X) :: .blk by_ (.cells [.slice ay Y.length cy].toArray 49 (0, 0)) :: .row ay cy 9 1 (strs Y) :: .blk bz (.cells [.slice az Z.length cz].toArray 49 (0, 0)) :: .row az cz 9 1 (strs Z) :: .blk bat (.cells [.int .i64 0, .int .i64 0, .int .i64 0].toArray 68 (0, 0)) :: .blk bl (.cells [.slice none 0 0].toArray 23 (0, 0)) :: .row none 0 36 5 (cfs []) :: .blk bb (.cells [.pointer none, .slice none 0 0].toArray 67 (0, 0)) :: .row none 0 5 1 (bCs []) :: .blk bm (mapO .i64 (kv M)) :: .blk bm2 (mapO .i64 (kv N)) :: H) := by
  have hXs : (strs X).length = X.length := by simp [strs]
  refine WC.loopH [(72, .int .i64 ((0) : Int)), (71, .int .i64 (X.length : Int)), (70, .slice ax X.length cx), (12, .map (some bm)), (13, .map (some bm2)), (9, .pointer (some ⟨bx, 0, none⟩)), (10, .pointer (some ⟨by_, 0, none⟩)), (11, .pointer (some ⟨bz, 0, none⟩)), (18, .pointer (some ⟨bb, 0, none⟩)), (19, .pointer (some ⟨bl, 0, none⟩)), (21, .func (.func 26) #[] [.pointer (some ⟨bx, 0, none⟩), .pointer (some ⟨bat, 0, none⟩), .pointer (some ⟨by_, 0, none⟩), .pointer (some ⟨bz, 0, none⟩), .pointer (some ⟨bl, 0, none⟩), .pointer (some ⟨bb, 0, none⟩)].toArray)] ?_ ?_ (fun j r ds m' H' => ∃ (i : Nat) (w : Wv) (al : Option Addr) (cl : Nat) (ao : Option Addr) (ab : Option Addr) (cb : Nat), j = X.length - i ∧ r = [(72, .int .i64 (i : Int)), (71, .int .i64 (X.length : Int)), (70, .slice ax X.length cx), (12, .map (some bm)), (13, .map (some bm2)), (9, .pointer (some ⟨bx, 0, none⟩)), (10, .pointer (some ⟨by_, 0, none⟩)), (11, .pointer (some ⟨bz, 0, none⟩)), (18, .pointer (some ⟨bb, 0, none⟩)), (19, .pointer (some ⟨bl, 0, none⟩)), (21, .func (.func 26) #[] [.pointer (some ⟨bx, 0, none⟩), .pointer (some ⟨bat, 0, none⟩), .pointer (some ⟨by_, 0, none⟩), .pointer (some ⟨bz, 0, none⟩), .pointer (some ⟨bl, 0, none⟩), .pointer (some ⟨bb, 0, none⟩)].toArray)] ∧ ds = [] ∧ m = m' ∧ H' = .blk bx (.cells [.slice ax X.length cx].toArray 49 (0, 0)) :: .row ax cx 9 1 (strs X) :: .blk by_ (.cells [.slice ay Y.length cy].toArray 49 (0, 0)) :: .row ay cy 9 1 (strs Y) :: .blk bz (.cells [.slice az Z.length cz].toArray 49 (0, 0)) :: .row az cz 9 1 (strs Z) :: .blk bat (.cells [.int .i64 (w.p : Int), .int .i64 (w.q : Int), .int .i64 (w.r : Int)].toArray 68 (0, 0)) :: .blk bl (.cells [.slice al w.l.length cl].toArray 23 (0, 0)) :: .row al cl 36 5 (cfs w.l) :: .blk bb (.cells [.pointer ao, .slice ab w.out.length cb].toArray 67 (0, 0)) :: .row ab cb 5 1 (bCs w.out) :: .blk bm (mapO .i64 (kv M)) :: .blk bm2 (mapO .i64 (kv N)) :: H ∧ (i ≤ X.length) ∧ (wvGo X Y Z M N (X.drop i) i w = F) ∧ (MSt X Y M i w.q) ∧ (MSt X Z N i w.r) ∧ (w.p ≤ i) ∧ (w.out.length ≤ i * 131072) ∧ (w.l.length ≤ i) ∧ (ao = none ∨ ao = some ⟨bb, 0, none⟩) ∧ (ab = none ∨ 0 < cb)) (X.length - (0)) ⟨0, ⟨[], [], 0, 0, 0⟩, none, 0, none, none, 0, rfl, rfl, rfl, rfl, rfl, by omega, hF, hM, hN, Nat.le_refl _, Nat.zero_le _, Nat.zero_le _, .inl rfl, .inl rfl⟩ ?_
  · (repeat (first | exact Env.Sub.nil | refine Env.Sub.cons rfl ?_))
  · exact zpk
  rintro j r ds m' H' ⟨i, w, al, cl, ao, ab, cb, rfl, rfl, rfl, rfl, rfl, hi, hgo, hM, hN, hp, hout, hL, hao, hab⟩
  by_cases hlt : i < X.length
  · obtain ⟨t, ht⟩ : ∃ t, X[i]? = some t := ⟨_, List.getElem?_eq_getElem hlt⟩
    have hgt := strs_get ht
    have htl : t.length ≤ 65536 := by have := mem_le_flat (List.mem_of_getElem? ht); omega
    rw [drop_get ht] at hgo
    obtain ⟨hM1, hM2⟩ := hM.next hlt
    obtain ⟨hN1, hN2⟩ := hN.next hlt
    have hkM := kv_lookup i M
    have hkN := kv_lookup i N
    generalize hKM : kv M = KM at *
    generalize hKN : kv N = KN at *
    generalize hSX : strs X = SX at *
    refine WC.rowSome (a := ax) (es := SX) zhs (by omega) ?_
    rintro a0 rfl
    rcases hM2 with hM2 | ⟨p, hM2, hqp, hpY, ⟨x, hx1, hx2⟩, hM3⟩
    · rw [hM2] at hkM
      rw [wvGo_skip (.inl hM2)] at hgo
      rcases hN2 with hN2 | ⟨q, hN2, _⟩
      all_goals
        rw [hN2] at hkN
        (try (refine st ?_; intros))
        refine WL.lookOk (q := .i64) (q' := .i64) (z := .int .i64 0) rfl rfl zhs rfl rfl (run_zero rfl) rfl ?_
        rw [hkM]
        simp only [Option.map_none, Option.map_some, Option.getD_none, Option.getD_some, Option.isSome_none, Option.isSome_some]
        (try (refine st ?_; intros))
        refine WL.lookOk (q := .i64) (q' := .i64) (z := .int .i64 0) rfl rfl zhs rfl rfl (run_zero rfl) rfl ?_
        rw [hkN]
        simp only [Option.map_none, Option.map_some, Option.getD_none, Option.getD_some, Option.isSome_none, Option.isSome_some]
        (try (refine st ?_; intros))
        subst hKM hKN hSX
        refine WQ.next (X.length - (i + 1)) ⟨i + 1, w, al, cl, ao, ab, cb, rfl, rfl, rfl, rfl, rfl, ?_, ?_, ?_, ?_, ?_, ?_, ?_, ?_, ?_⟩ (by omega) zsb zpk
        · omega
        · exact hgo
        · exact hM1
        · exact hN1
        · omega
        · exact Nat.le_trans hout (Nat.mul_le_mul_right _ (Nat.le_succ i))
        · omega
        · exact hao
        · exact hab
    · rw [hM2] at hkM
      rcases hN2 with hN2 | ⟨q, hN2, hrq, hqZ, ⟨y, hy1, hy2⟩, hN3⟩
      · rw [wvGo_skip (.inr hN2)] at hgo
        rw [hN2] at hkN
        (try (refine st ?_; intros))
        refine WL.lookOk (q := .i64) (q' := .i64) (z := .int .i64 0) rfl rfl zhs rfl rfl (run_zero rfl) rfl ?_
        rw [hkM]
        simp only [Option.map_none, Option.map_some, Option.getD_none, Option.getD_some, Option.isSome_none, Option.isSome_some]
        (try (refine st ?_; intros))
        refine WL.lookOk (q := .i64) (q' := .i64) (z := .int .i64 0) rfl rfl zhs rfl rfl (run_zero rfl) rfl ?_
        rw [hkN]
        simp only [Option.map_none, Option.map_some, Option.getD_none, Option.getD_some, Option.isSome_none, Option.isSome_some]
        (try (refine st ?_; intros))
        subst hKM hKN hSX
        refine WQ.next (X.length - (i + 1)) ⟨i + 1, w, al, cl, ao, ab, cb, rfl, rfl, rfl, rfl, rfl, ?_, ?_, ?_, ?_, ?_, ?_, ?_, ?_, ?_⟩ (by omega) zsb zpk
        · omega
        · exact hgo
        · exact hM1
        · exact hN1
        · omega
        · exact Nat.le_trans hout (Nat.mul_le_mul_right _ (Nat.le_succ i))
        · omega
        · exact hao
        · exact hab
      · rw [wvGo_both hM2 hN2] at hgo
        rw [hN2] at hkN
        (try (refine st ?_; intros))
        refine WL.lookOk (q := .i64) (q' := .i64) (z := .int .i64 0) rfl rfl zhs rfl rfl (run_zero rfl) rfl ?_
        rw [hkM]
        simp only [Option.map_none, Option.map_some, Option.getD_none, Option.getD_some, Option.isSome_none, Option.isSome_some]
        (try (refine st ?_; intros))
        refine WL.lookOk (q := .i64) (q' := .i64) (z := .int .i64 0) rfl rfl zhs rfl rfl (run_zero rfl) rfl ?_
        rw [hkN]
        simp only [Option.map_none, Option.map_some, Option.getD_none, Option.getD_some, Option.isSome_none, Option.isSome_some]
        (try (refine st ?_; intros))
        have hout2 : w.out.length ≤ 8589934592 := Nat.le_trans hout (Nat.le_trans (Nat.mul_le_mul_right _ (Nat.le_of_lt (Nat.lt_of_lt_of_le hlt hX.1))) (by decide))
        have hsl : (w.side X Y Z i p q).out.length ≤ w.out.length + 65536 := by
          show (w.out ++ sideT (jn X w.p i) (jn Y w.q p) (jn Z w.r q)).length ≤ _
          have h1 := sideT_le (jn X w.p i) (jn Y w.q p) (jn Z w.r q)
          have h2 := jn_le Y w.q p
          have h3 := jn_le Z w.r q
          rw [List.length_append]; omega
        have hcl : (w.side X Y Z i p q).l.length ≤ w.l.length + 1 := by
          show (w.l ++ sideC w.out.length (jn X w.p i) (jn Y w.q p) (jn Z w.r q)).length ≤ _
          have h1 := sideC_le w.out.length (jn X w.p i) (jn Y w.q p) (jn Z w.r q)
          rw [List.length_append]; omega
        have hsp : (w.side X Y Z i p q).p = i + 1 ∧ (w.side X Y Z i p q).q = p + 1 ∧ (w.side X Y Z i p q).r = q + 1 := ⟨rfl, rfl, rfl⟩
        subst hKM hKN hSX
        refine WL.heap (H' := [.blk bx (.cells [.slice (some a0) X.length cx].toArray 49 (0, 0)), .row (some a0) cx 9 1 (strs X), .blk by_ (.cells [.slice ay Y.length cy].toArray 49 (0, 0)), .row ay cy 9 1 (strs Y), .blk bz (.cells [.slice az Z.length cz].toArray 49 (0, 0)), .row az cz 9 1 (strs Z), .blk bat (.cells [.int .i64 (w.p : Int), .int .i64 (w.q : Int), .int .i64 (w.r : Int)].toArray 68 (0, 0)), .blk bl (.cells [.slice al w.l.length cl].toArray 23 (0, 0)), .row al cl 36 5 (cfs w.l), .blk bb (.cells [.pointer ao, .slice ab w.out.length cb].toArray 67 (0, 0)), .row ab cb 5 1 (bCs w.out)] ++ (.blk bm (mapO .i64 (kv M)) :: .blk bm2 (mapO .i64 (kv N)) :: H)) zpk ?_
        refine WL.callV rfl Try.func26 rfl rfl (by exact rfl) (by exact rfl) (side_any (X := X) (Y := Y) (Z := Z) (w := w) (n := i) (k1 := p) (k2 := q) ⟨by omega, by omega, hX.2.2⟩ ⟨by omega, by omega, hY.2.2⟩ ⟨by omega, by omega, hZ.2.2⟩ ⟨hp, by omega⟩ ⟨hqp, by omega⟩ ⟨hrq, by omega⟩ (by omega) (by omega) hao hab) ?_
        rintro v m9 H9 ⟨rfl, al2, cl2, ao2, ab2, cb2, hao2, hab2, rfl⟩
        obtain ⟨h1, h2, h3⟩ := hsp
        obtain ⟨w2, hw2⟩ : ∃ w2, w2 = w.side X Y Z i p q := ⟨_, rfl⟩
        rw [← hw2] at hsl hcl h1 h2 h3 hgo ⊢
        clear hw2
        simp only [List.cons_append, List.nil_append]
        (try (refine st ?_; intros))
        refine WL.heap (H' := .blk bb (.cells [.pointer ao2, .slice ab2 w2.out.length cb2].toArray 67 (0, 0)) :: .row ab2 cb2 5 1 (bCs w2.out) :: (.blk bx (.cells [.slice (some a0) X.length cx].toArray 49 (0, 0)) :: .row (some a0) cx 9 1 (strs X) :: .blk by_ (.cells [.slice ay Y.length cy].toArray 49 (0, 0)) :: .row ay cy 9 1 (strs Y) :: .blk bz (.cells [.slice az Z.length cz].toArray 49 (0, 0)) :: .row az cz 9 1 (strs Z) :: .blk bat (.cells [.int .i64 (w2.p : Int), .int .i64 (w2.q : Int), .int .i64 (w2.r : Int)].toArray 68 (0, 0)) :: .blk bl (.cells [.slice al2 w2.l.length cl2].toArray 23 (0, 0)) :: .row al2 cl2 36 5 (cfs w2.l) :: .blk bm (mapO .i64 (kv M)) :: .blk bm2 (mapO .i64 (kv N)) :: H)) zpk ?_
        refine w_callF Try.func29 ?_ (hs := writeString_any hao2 hab2 (by unfold FitsB; omega) _ _ _)
        rintro v m9 H9 ⟨rfl, rfl, ao3, ab3, cb3, hao3, hab3, rfl⟩
        obtain ⟨w3, hw3⟩ : ∃ w3, w3 = w2.add t := ⟨_, rfl⟩
        have e1 : w3.out = w2.out ++ t := by rw [hw3]; rfl
        have e2 : w3.l = w2.l := by rw [hw3]; rfl
        have e3 : w3.p = w2.p := by rw [hw3]; rfl
        have e4 : w3.q = w2.q := by rw [hw3]; rfl
        have e5 : w3.r = w2.r := by rw [hw3]; rfl
        have e6 : w3.out.length = w2.out.length + t.length := by rw [e1, List.length_append]
        rw [← hw3] at hgo
        rw [← e1, ← e2, ← e3, ← e4, ← e5]
        (try (refine st ?_; intros))
        refine WQ.next (X.length - (i + 1)) ⟨i + 1, w3, al2, cl2, ao3, ab3, cb3, rfl, rfl, rfl, rfl, rfl, ?_, ?_, ?_, ?_, ?_, ?_, ?_, ?_, ?_⟩ (by omega) zsb zpk
        · omega
        · exact hgo
        · rw [e4, h2]; exact hM3
        · rw [e5, h3]; exact hN3
        · omega
        · rw [Nat.succ_mul]
          generalize i * 131072 = I at *
          omega
        · rw [e2]; omega
        · exact hao3
        · exact hab3
  · rw [List.drop_of_length_le (by omega)] at hgo
    have hfin := hK w al cl ao ab cb hgo (by omega) hM.le hN.le (Nat.le_trans hout (Nat.le_trans (Nat.mul_le_mul_right _ (by omega : i ≤ 65536)) (by decide))) (by omega) hao hab
    (try (refine st ?_; intros))
    exact WQ.weak zsb zpk hfin
end Go.Proofs.Ytieangfnjflfmaa

/-
  The walk of draft.Weave. No condition.
-/
namespace Go.Eng
open Go
theorem PrOk.len {a b : List Tx} : ∀ {l : List (Nat × Nat)} {i k n m : Nat}, PrOk a b i k l n m → l.length ≤ n - i
  | [], _, _, _, _, _ => Nat.zero_le _
  | p :: l, i, k, n, m, ⟨h1, h2, h3, h4, _, h6⟩ => by
    have := PrOk.len h6
    rw [List.length_cons]; omega
end Go.Eng
namespace Go.Proofs.Ytieangfnjflfmaa
open Go Go.Eng
set_option maxRecDepth 100000
set_option maxHeartbeats 4000000
set_option linter.all false
attribute [local irreducible] WL WC WQ QFun QLoop Does Q1 QRound QAssign Go.Addr.add
/-- what draft.Weave answers -/
def wres (s t u : Tx) : Tx × List Cf × Nat := if Long [s, t, u] then ([], [], 3) else if 65536 < (weaveL s t u).out.length then ([], [], 3) else ((weaveL s t u).out, (weaveL s t u).l, 0)
theorem wres_long {s t u : Tx} (h : Long [s, t, u] ∨ 65536 < (weaveL s t u).out.length) : wres s t u = ([], [], 3) := by
  unfold wres
  rcases h with h | h
  · rw [if_pos h]
  · rw [if_pos h]; exact ite_self _
theorem wres_ok {s t u : Tx} (h1 : ¬ Long [s, t, u]) (h2 : ¬ 65536 < (weaveL s t u).out.length) : wres s t u = ((weaveL s t u).out, (weaveL s t u).l, 0) := by
  unfold wres
  rw [if_neg h1, if_neg h2]
def WeaveP (s t u : Tx) (m : Mem) (H : SHeap) (v : Value) (m' : Mem) (H' : SHeap) : Prop :=
  m.le m' ∧ ∃ al cl, v = .tuple #[str (wres s t u).1, .slice al (wres s t u).2.1.length cl, .int .i64 ((wres s t u).2.2 : Int)] ∧ H' = .row al cl 36 5 (cfs (wres s t u).2.1) :: H
attribute [local irreducible] kv mapO jn strs sideT sideC weaveL wvGo matchL toks
theorem sq_D17_1 {G : Prop} (h : G := by (repeat (first | (refine sp ?_; (repeat intro zzc)) | (refine WL.makeMap .i64 rfl ?_; intro zzc))); exact WQ.q1 rfl) : G := h
theorem cm_D17_1 {G G' : Prop} (next : G') (h : Bx G' → G := by intro zzn; (try (refine wcal 0 ?_ (hwl := by intro zm zF zle; exact sq_D17_1))); (try (refine wcal 1 ?_ (hwl := by intro zm zF zle; exact sq_D17_1))); (try (refine wcal 2 ?_ (hwl := by intro zm zF zle; exact sq_D17_1))); (try (refine wcal 3 ?_ (hwl := by intro zm zF zle; exact sq_D17_1))); (try (refine wcal 4 ?_ (hwl := by intro zm zF zle; exact sq_D17_1))); (try (refine wcal 5 ?_ (hwl := by intro zm zF zle; exact sq_D17_1))); (try (refine wcal 6 ?_ (hwl := by intro zm zF zle; exact sq_D17_1))); (try (refine wcal 7 ?_ (hwl := by intro zm zF zle; exact sq_D17_1))); (try (refine wcal 8 ?_ (hwl := by intro zm zF zle; exact sq_D17_1))); (try (refine wcal 9 ?_ (hwl := by intro zm zF zle; exact sq_D17_1))); (try (refine wcal 10 ?_ (hwl := by intro zm zF zle; exact sq_D17_1))); (try (refine wcal 11 ?_ (hwl := by intro zm zF zle; exact sq_D17_1))); (try (refine wcal 12 ?_ (hwl := by intro zm zF zle; exact sq_D17_1))); (try (refine wcal 13 ?_ (hwl := by intro zm zF zle; exact sq_D17_1))); (try (refine wcal 14 ?_ (hwl := by intro zm zF zle; exact sq_D17_1))); (try (refine wcal 15 ?_ (hwl := by intro zm zF zle; exact sq_D17_1))); (try (refine wcal 16 ?_ (hwl := by intro zm zF zle; exact sq_D17_1))); (try (refine wcal 17 ?_ (hwl := by intro zm zF zle; exact sq_D17_1))); (try (refine wcal 18 ?_ (hwl := by intro zm zF zle; exact sq_D17_1))); (try (refine wcal 19 ?_ (hwl := by intro zm zF zle; exact sq_D17_1))); (try (refine wcal 20 ?_ (hwl := by intro zm zF zle; exact sq_D17_1))); (try (refine wcal 21 ?_ (hwl := by intro zm zF zle; exact sq_D17_1))); (try (refine wcal 22 ?_ (hwl := by intro zm zF zle; exact sq_D17_1))); (try (refine wcal 23 ?_ (hwl := by intro zm zF zle; exact sq_D17_1))); (try (refine wcal 24 ?_ (hwl := by intro zm zF zle; exact sq_D17_1))); (try (refine wcal 25 ?_ (hwl := by intro zm zF zle; exact sq_D17_1))); (try (refine wcal 26 ?_ (hwl := by intro zm zF zle; exact sq_D17_1))); (try (refine wcal 27 ?_ (hwl := by intro zm zF zle; exact sq_D17_1))); (try (refine wcal 28 ?_ (hwl := by intro zm zF zle; exact sq_D17_1))); (try (refine wcal 29 ?_ (hwl := by intro zm zF zle; exact sq_D17_1))); (try (refine wcal 30 ?_ (hwl := by intro zm zF zle; exact sq_D17_1))); (try (refine wcal 31 ?_ (hwl := by intro zm zF zle; exact sq_D17_1))); (try (refine wcal 32 ?_ (hwl := by intro zm zF zle; exact sq_D17_1))); (try (refine wcal 33 ?_ (hwl := by intro zm zF zle; exact sq_D17_1))); (try (refine wcal 34 ?_ (hwl := by intro zm zF zle; exact sq_D17_1))); (try (refine wcal 35 ?_ (hwl := by intro zm zF zle; exact sq_D17_1))); (try (refine wcal 36 ?_ (hwl := by intro zm zF zle; exact sq_D17_1))); (try (refine wcal 37 ?_ (hwl := by intro zm zF zle; exact sq_D17_1))); (try (refine wcal 38 ?_ (hwl := by intro zm zF zle; exact sq_D17_1))); (try (refine wcal 39 ?_ (hwl := by intro zm zF zle; exact sq_D17_1))); (try (refine wcal 40 ?_ (hwl := by intro zm zF zle; exact sq_D17_1))); (try (refine wcal 41 ?_ (hwl := by intro zm zF zle; exact sq_D17_1))); exact zzn.out) : G := h ⟨next⟩
theorem st_D17_1 {G G' : Prop} (next : G') (h : Bx G' → G := by intro zzn; (first | ((refine st ?_; (repeat intro zzc)); (try ((first | (refine WL.makeMap .i64 rfl ?_; intro zzc) | ((refine iDraw ?_; (first | refine WC.drawAll rfl (by decide +kernel) ?_ | refine WC.draw 1 rfl (by decide +kernel) ?_ | refine WC.draw 2 rfl (by decide +kernel) ?_ | refine WC.draw 3 rfl (by decide +kernel) ?_ | refine WC.draw 4 rfl (by decide +kernel) ?_ | refine WC.draw 5 rfl (by decide +kernel) ?_ | refine WC.draw 6 rfl (by decide +kernel) ?_ | refine WC.draw 7 rfl (by decide +kernel) ?_ | refine WC.draw 8 rfl (by decide +kernel) ?_ | refine WC.draw 9 rfl (by decide +kernel) ?_ | refine WC.draw 10 rfl (by decide +kernel) ?_ | refine WC.draw 11 rfl (by decide +kernel) ?_ | refine WC.draw 12 rfl (by decide +kernel) ?_ | refine WC.draw 13 rfl (by decide +kernel) ?_ | refine WC.draw 14 rfl (by decide +kernel) ?_ | refine WC.draw 15 rfl (by decide +kernel) ?_ | refine WC.draw 16 rfl (by decide +kernel) ?_ | refine WC.draw 17 rfl (by decide +kernel) ?_ | refine WC.draw 18 rfl (by decide +kernel) ?_ | refine WC.draw 19 rfl (by decide +kernel) ?_ | refine WC.draw 20 rfl (by decide +kernel) ?_ | refine WC.draw 21 rfl (by decide +kernel) ?_ | refine WC.draw 22 rfl (by decide +kernel) ?_ | refine WC.draw 23 rfl (by decide +kernel) ?_ | refine WC.draw 24 rfl (by decide +kernel) ?_)); (repeat (refine WD.cons rfl (fun c h => by cases h) sq_D17_1 ?_)); refine WD.nil ?_)); (try (refine st ?_; (repeat intro zzc)))))) | ((first | (refine WL.makeMap .i64 rfl ?_; intro zzc) | ((refine iDraw ?_; (first | refine WC.drawAll rfl (by decide +kernel) ?_ | refine WC.draw 1 rfl (by decide +kernel) ?_ | refine WC.draw 2 rfl (by decide +kernel) ?_ | refine WC.draw 3 rfl (by decide +kernel) ?_ | refine WC.draw 4 rfl (by decide +kernel) ?_ | refine WC.draw 5 rfl (by decide +kernel) ?_ | refine WC.draw 6 rfl (by decide +kernel) ?_ | refine WC.draw 7 rfl (by decide +kernel) ?_ | refine WC.draw 8 rfl (by decide +kernel) ?_ | refine WC.draw 9 rfl (by decide +kernel) ?_ | refine WC.draw 10 rfl (by decide +kernel) ?_ | refine WC.draw 11 rfl (by decide +kernel) ?_ | refine WC.draw 12 rfl (by decide +kernel) ?_ | refine WC.draw 13 rfl (by decide +kernel) ?_ | refine WC.draw 14 rfl (by decide +kernel) ?_ | refine WC.draw 15 rfl (by decide +kernel) ?_ | refine WC.draw 16 rfl (by decide +kernel) ?_ | refine WC.draw 17 rfl (by decide +kernel) ?_ | refine WC.draw 18 rfl (by decide +kernel) ?_ | refine WC.draw 19 rfl (by decide +kernel) ?_ | refine WC.draw 20 rfl (by decide +kernel) ?_ | refine WC.draw 21 rfl (by decide +kernel) ?_ | refine WC.draw 22 rfl (by decide +kernel) ?_ | refine WC.draw 23 rfl (by decide +kernel) ?_ | refine WC.draw 24 rfl (by decide +kernel) ?_)); (repeat (refine WD.cons rfl (fun c h => by cases h) sq_D17_1 ?_)); refine WD.nil ?_)); (try (refine st ?_; (repeat intro zzc))))); (repeat ((first | (refine WL.makeMap .i64 rfl ?_; intro zzc) | ((refine iDraw ?_; (first | refine WC.drawAll rfl (by decide +kernel) ?_ | refine WC.draw 1 rfl (by decide +kernel) ?_ | refine WC.draw 2 rfl (by decide +kernel) ?_ | refine WC.draw 3 rfl (by decide +kernel) ?_ | refine WC.draw 4 rfl (by decide +kernel) ?_ | refine WC.draw 5 rfl (by decide +kernel) ?_ | refine WC.draw 6 rfl (by decide +kernel) ?_ | refine WC.draw 7 rfl (by decide +kernel) ?_ | refine WC.draw 8 rfl (by decide +kernel) ?_ | refine WC.draw 9 rfl (by decide +kernel) ?_ | refine WC.draw 10 rfl (by decide +kernel) ?_ | refine WC.draw 11 rfl (by decide +kernel) ?_ | refine WC.draw 12 rfl (by decide +kernel) ?_ | refine WC.draw 13 rfl (by decide +kernel) ?_ | refine WC.draw 14 rfl (by decide +kernel) ?_ | refine WC.draw 15 rfl (by decide +kernel) ?_ | refine WC.draw 16 rfl (by decide +kernel) ?_ | refine WC.draw 17 rfl (by decide +kernel) ?_ | refine WC.draw 18 rfl (by decide +kernel) ?_ | refine WC.draw 19 rfl (by decide +kernel) ?_ | refine WC.draw 20 rfl (by decide +kernel) ?_ | refine WC.draw 21 rfl (by decide +kernel) ?_ | refine WC.draw 22 rfl (by decide +kernel) ?_ | refine WC.draw 23 rfl (by decide +kernel) ?_ | refine WC.draw 24 rfl (by decide +kernel) ?_)); (repeat (refine WD.cons rfl (fun c h => by cases h) sq_D17_1 ?_)); refine WD.nil ?_)); (try (refine st ?_; (repeat intro zzc))))); (repeat revert zzc); exact zzn.out) : G := h ⟨next⟩
theorem weave_any (s t u : Tx) (w0 : World) (m : Mem) (H : SHeap) : Does Try.prog 8 #[str s, str t, str u] w0 m H (WeaveP s t u m H) := by
  refine Does.of_body (args := [str s, str t, str u]) Try.func8 rfl Try.ntmps8 rfl ?_
  by_cases hlong : Long [s, t, u]
  · have hw := wres_long (.inl hlong)
    refine WC.newRow (T := 36) (sz := 5) ?_
    (refine st_D17_1 ?_; intros; rename_i b3)
    refine w_callF Try.func23 ?_ (hs := long_any (L := [s, t, u]) (by simp) (rowR_blk (T := 9) (fz := (0, 0)) (L := [str s, str t, str u]) zhs (by unfold strs; rfl) (by simp [strs])))
    rintro v m H9 ⟨rfl, rfl, rfl⟩
    rw [dcd_true hlong]
    (try (refine st_D17_1 ?_; intros))
    exact q_fin0 (H0 := .row none 0 36 5 [] :: H) ⟨Mem.le.refl _, none, 0, by rw [hw], by rw [hw]; rfl⟩ (hd := zpk)
  · have hls : s.length ≤ 65536 := Nat.le_of_not_lt fun h => hlong ⟨s, by simp, h⟩
    have hlt : t.length ≤ 65536 := Nat.le_of_not_lt fun h => hlong ⟨t, by simp, h⟩
    have hlu : u.length ≤ 65536 := Nat.le_of_not_lt fun h => hlong ⟨u, by simp, h⟩
    (refine st_D17_1 ?_; intros; rename_i b3)
    refine w_callF Try.func23 ?_ (hs := long_any (L := [s, t, u]) (by simp) (rowR_blk (T := 9) (fz := (0, 0)) (L := [str s, str t, str u]) zhs (by unfold strs; rfl) (by simp [strs])))
    rintro v m H9 ⟨rfl, rfl, rfl⟩
    rw [dcd_false hlong]
    (try (refine st_D17_1 ?_; intros))
    refine w_callF Try.func24 ?_ (hs := toks_any s (by omega) _ _ _)
    rintro v m1 H1 ⟨hle1, ax, cx, rfl, rfl⟩
    (try (refine st_D17_1 ?_; intros))
    refine w_callF Try.func24 ?_ (hs := toks_any t (by omega) _ _ _)
    rintro v m2 H1 ⟨hle2, ay, cy, rfl, rfl⟩
    (try (refine st_D17_1 ?_; intros))
    refine w_callF Try.func24 ?_ (hs := toks_any u (by omega) _ _ _)
    rintro v m3 H1 ⟨hle3, az, cz, rfl, rfl⟩
    have hXl := toks_length s
    have hYl := toks_length t
    have hZl := toks_length u
    have hXf := congrArg List.length (toks_join s)
    have hYf := congrArg List.length (toks_join t)
    have hZf := congrArg List.length (toks_join u)
    have hW : wvGo (toks s) (toks t) (toks u) (matchL (toks s) (toks t)) (matchL (toks s) (toks u)) (toks s) 0 ⟨[], [], 0, 0, 0⟩ = weaveL s t u := by unfold weaveL; rfl
    generalize toks s = X at *
    generalize toks t = Y at *
    generalize toks u = Z at *
    refine WL.rowCap (a := ax) (cap := cx) (T := 9) (sz := 1) (es := strs X) zhs ?_
    intro hcx
    refine WL.rowCap (a := ay) (cap := cy) (T := 9) (sz := 1) (es := strs Y) zhs ?_
    intro hcy
    refine WL.rowCap (a := az) (cap := cz) (T := 9) (sz := 1) (es := strs Z) zhs ?_
    intro hcz
    rw [strs_length] at hcx hcy hcz
    (refine st_D17_1 ?_; intros; rename_i bx by_ bz bm bm2)
    refine w_callF Try.func25 ?_ (hs := match_any (A := X) (B := Y) (by omega) (by omega) hcx hcy (RowR.row (T := 9) (cap := cx) zhs) (RowR.row (T := 9) (cap := cy) zhs))
    rintro v m9 H9 ⟨rfl, a1, c1, rfl, rfl⟩
    have hM := match_ok X Y
    have hMl := hM.len
    (try (refine st_D17_1 ?_; intros))
    refine WC.weak zsb zpk (fill_own (bm := bm) (bm2 := bm2) (bx := bx) (by_ := by_) (bz := bz) (H := .blk bx (.cells [.slice ax X.length cx].toArray 49 (0, 0)) :: .row ax cx 9 1 (strs X) :: .blk by_ (.cells [.slice ay Y.length cy].toArray 49 (0, 0)) :: .row ay cy 9 1 (strs Y) :: .blk bz (.cells [.slice az Z.length cz].toArray 49 (0, 0)) :: .row az cz 9 1 (strs Z) :: .blk bm2 (mapO .i64 []) :: H) hM (by omega) ⟨by omega, by omega⟩ ?_)
    (try (refine st_D17_1 ?_; intros))
    refine w_callF Try.func25 ?_ (hs := match_any (A := X) (B := Z) (by omega) (by omega) hcx hcz (RowR.row (T := 9) (cap := cx) zhs) (RowR.row (T := 9) (cap := cz) zhs))
    rintro v m9 H9 ⟨rfl, a2, c2, rfl, rfl⟩
    have hN := match_ok X Z
    have hNl := hN.len
    (try (refine st_D17_1 ?_; intros))
    refine WC.weak zsb zpk (fill_other (bm := bm2) (bm2 := bm) (bx := bx) (by_ := by_) (bz := bz) (H := .blk bx (.cells [.slice ax X.length cx].toArray 49 (0, 0)) :: .row ax cx 9 1 (strs X) :: .blk by_ (.cells [.slice ay Y.length cy].toArray 49 (0, 0)) :: .row ay cy 9 1 (strs Y) :: .blk bz (.cells [.slice az Z.length cz].toArray 49 (0, 0)) :: .row az cz 9 1 (strs Z) :: .blk bm (mapO .i64 (kv (matchL X Y))) :: H) hN (by omega) ⟨by omega, by omega⟩ ?_)
    (refine st_D17_1 ?_; intros; rename_i bb bl bat)
    refine WC.newRow (T := 36) (sz := 5) ?_
    refine WC.newRow (T := 5) (sz := 1) ?_
    refine WC.weak zsb zpk (weave_loop (X := X) (Y := Y) (Z := Z) (M := matchL X Y) (N := matchL X Z) (F := weaveL s t u) (bx := bx) (by_ := by_) (bz := bz) (bat := bat) (bl := bl) (bb := bb) (bm := bm) (bm2 := bm2) (H := H) ⟨by omega, by omega, hcx⟩ ⟨by omega, by omega, hcy⟩ ⟨by omega, by omega, hcz⟩ MSt.start MSt.start hW ?_)
    intro w al cl ao ab cb hF hp hq hr hout hL hao hab
    have hFl : (w.side X Y Z X.length Y.length Z.length).out.length ≤ w.out.length + 65536 := by
      show (w.out ++ sideT (jn X w.p X.length) (jn Y w.q Y.length) (jn Z w.r Z.length)).length ≤ _
      have h1 := sideT_le (jn X w.p X.length) (jn Y w.q Y.length) (jn Z w.r Z.length)
      have h2 := jn_le Y w.q Y.length
      have h3 := jn_le Z w.r Z.length
      rw [List.length_append]; omega
    rw [hF] at hFl
    (try (refine st_D17_1 ?_; intros))
    refine WL.heap (H' := [.blk bx (.cells [.slice ax X.length cx].toArray 49 (0, 0)), .row ax cx 9 1 (strs X), .blk by_ (.cells [.slice ay Y.length cy].toArray 49 (0, 0)), .row ay cy 9 1 (strs Y), .blk bz (.cells [.slice az Z.length cz].toArray 49 (0, 0)), .row az cz 9 1 (strs Z), .blk bat (.cells [.int .i64 (w.p : Int), .int .i64 (w.q : Int), .int .i64 (w.r : Int)].toArray 68 (0, 0)), .blk bl (.cells [.slice al w.l.length cl].toArray 23 (0, 0)), .row al cl 36 5 (cfs w.l), .blk bb (.cells [.pointer ao, .slice ab w.out.length cb].toArray 67 (0, 0)), .row ab cb 5 1 (bCs w.out)] ++ H) zpk ?_
    refine WL.callV rfl Try.func26 rfl rfl (by exact rfl) (by exact rfl) (side_any (X := X) (Y := Y) (Z := Z) (w := w) (n := X.length) (k1 := Y.length) (k2 := Z.length) ⟨by omega, by omega, hcx⟩ ⟨by omega, by omega, hcy⟩ ⟨by omega, by omega, hcz⟩ ⟨hp, by omega⟩ ⟨hq, by omega⟩ ⟨hr, by omega⟩ (by omega) (by omega) hao hab) ?_
    rintro v m4 H9 ⟨rfl, al2, cl2, ao2, ab2, cb2, hao2, hab2, rfl⟩
    rw [hF]
    simp only [List.cons_append, List.nil_append]
    generalize hG : weaveL s t u = G at *
    (try (refine st_D17_1 ?_; intros))
    refine WL.heap (H' := .blk bb (.cells [.pointer ao2, .slice ab2 G.out.length cb2].toArray 67 (0, 0)) :: .row ab2 cb2 5 1 (bCs G.out) :: .blk bl (.cells [.slice al2 G.l.length cl2].toArray 23 (0, 0)) :: .row al2 cl2 36 5 (cfs G.l) :: H) zpk ?_
    refine w_callF Try.func30 ?_ (hs := bStr1_any hab2 (by omega) _ _ _)
    rintro v m5 H9 ⟨rfl, rfl, it, hk, rfl⟩
    (refine st_D17_1 ?_; intros; rename_i b8)
    refine w_callF Try.func23 ?_ (hs := long_any (L := [G.out]) (by simp) (rowR_blk (T := 9) (fz := (0, 0)) (L := [str G.out]) zhs (by unfold strs; rfl) (by simp [strs])))
    rintro v m6 H9 ⟨rfl, rfl, rfl⟩
    by_cases hbig : 65536 < G.out.length
    · have hw := wres_long (s := s) (t := t) (u := u) (.inr (by rw [hG]; exact hbig))
      rw [dcd_true (show Long [G.out] from ⟨G.out, by simp, hbig⟩)]
      refine WL.newRow (T := 36) (sz := 5) ?_
      (try (refine st_D17_1 ?_; intros))
      exact q_fin0 (H0 := .row none 0 36 5 [] :: H) ⟨hle1.trans (hle2.trans hle3), none, 0, by rw [hw], by rw [hw]; rfl⟩ (hd := zpk)
    · have hw := wres_ok (s := s) (t := t) (u := u) hlong (by rw [hG]; exact hbig)
      rw [hG] at hw
      rw [dcd_false (show ¬ Long [G.out] from by rintro ⟨x, hx, hx2⟩; rw [List.mem_singleton] at hx; subst hx; exact hbig hx2)]
      (try (refine st_D17_1 ?_; intros))
      refine WC.drawE 3 ([.blk bl (.cells [.slice al2 G.l.length cl2].toArray 23 (0, 0))]) (.blk bb (.cells [.pointer ao2, .slice ab2 G.out.length cb2].toArray 67 (0, 0)) :: it :: .row al2 cl2 36 5 (cfs G.l) :: H) rfl (by decide +kernel) zpk ?_
      (refine cm_D17_1 ?_)
      refine WE.act1 0 (by decide +kernel) rfl rfl (fun c h => by cases h) ?_
      refine WL.heap (H' := .blk bb (.cells [.pointer ao2, .slice ab2 G.out.length cb2].toArray 67 (0, 0)) :: it :: .blk bl (.cells [.slice al2 G.l.length cl2].toArray 23 (0, 0)) :: .row al2 cl2 36 5 (cfs G.l) :: H) zpk ?_
      refine w_callF Try.func30 ?_ (hs := bStr2_any hab2 (by omega) hk _ _ _)
      rintro v m7 H9 ⟨rfl, rfl, it2, hk2, rfl⟩
      (try (refine st_D17_1 ?_; intros))
      refine WQ.acted (B := []) (U := .row al2 cl2 36 5 (cfs G.l) :: H) rfl (Mem.le.refl _) zpk ?_
      (refine cm_D17_1 ?_)
      refine WE.done (by decide +kernel) ?_
      (try (refine st_D17_1 ?_; intros))
      exact q_fin0 (H0 := .row al2 cl2 36 5 (cfs G.l) :: H) ⟨hle1.trans (hle2.trans hle3), al2, cl2, by rw [hw], by rw [hw]⟩ (hd := zpk)
end Go.Proofs.Ytieangfnjflfmaa

/-
  Plain facts on changes of texts: steps, and what stands between the bytes that are kept. No condition.
-/
namespace Go.Eng
open Go
/-- a step as it came in -/
structure Stp where
  k : Int
  d : List UInt8
  p : List UInt8
  deriving DecidableEq
/-- what is put and what is dropped ahead of a byte that is kept, or at the end -/
structure Gap where
  p : List UInt8
  d : List UInt8
  deriving DecidableEq
/-- may it be: just one of the three -/
def stpOk (s : Stp) : Prop := (0 < s.k ∧ s.d = [] ∧ s.p = []) ∨ (s.k = 0 ∧ s.d ≠ [] ∧ s.p = []) ∨ (s.k = 0 ∧ s.d = [] ∧ s.p ≠ [])
instance (s : Stp) : Decidable (stpOk s) := by unfold stpOk; infer_instance
def maxT : Nat := 65536
/-- how many bytes a change is of, and makes, if it may be -/
def sizesF : List Stp → Int → Int → Option (Int × Int)
  | [], f, t => some (f, t)
  | s :: l, f, t => if stpOk s ∧ s.k ≤ maxT ∧ f + s.k + s.d.length ≤ maxT ∧ t + s.k + s.p.length ≤ maxT then sizesF l (f + s.k + s.d.length) (t + s.k + s.p.length) else none
def sizesOf (l : List Stp) : Option (Int × Int) := sizesF l 0 0
/-- the builder: what is done, and what is put and dropped since -/
structure Bld where
  l : List Stp
  p : List UInt8
  d : List UInt8
def Bld.close (b : Bld) : Bld := ⟨b.l ++ (if b.p = [] then [] else [⟨0, [], b.p⟩]) ++ (if b.d = [] then [] else [⟨0, b.d, []⟩]), [], []⟩
/-- a row is kept behind what is done -/
def addKeep (l : List Stp) (n : Int) : List Stp := match l.getLast? with
  | some s => if 0 < s.k then l.dropLast ++ [⟨s.k + n, s.d, s.p⟩] else l ++ [⟨n, [], []⟩]
  | none => [⟨n, [], []⟩]
def Bld.keep (b : Bld) (n : Int) : Bld := if n = 0 then b else ⟨addKeep b.close.l n, [], []⟩
def Bld.step (b : Bld) (s : Stp) : Bld := if 0 < s.k then b.keep s.k else if s.d ≠ [] then ⟨b.l, b.p, b.d ++ s.d⟩ else ⟨b.l, b.p ++ s.p, b.d⟩
def Bld.start : Bld := ⟨[], [], []⟩
def plainOf (l : List Stp) : List Stp := (l.foldl Bld.step Bld.start).close.l
/-- the gaps of a change -/
structure Gs where
  done : List Gap
  cur : Gap
def Gs.step (g : Gs) (s : Stp) : Gs := if 0 < s.k then ⟨g.done ++ g.cur :: List.replicate (s.k.toNat - 1) ⟨[], []⟩, ⟨[], []⟩⟩ else if s.d ≠ [] then ⟨g.done, ⟨g.cur.p, g.cur.d ++ s.d⟩⟩ else ⟨g.done, ⟨g.cur.p ++ s.p, g.cur.d⟩⟩
def Gs.start : Gs := ⟨[], ⟨[], []⟩⟩
def gapsOf (l : List Stp) : Gs := l.foldl Gs.step Gs.start
/-- the builder over gaps: each is laid, and a byte kept behind it -/
def bldGap (b : Bld) (g : Gap) : Bld := (⟨b.l, b.p ++ g.p, b.d ++ g.d⟩ : Bld).keep 1
def bldGs (g : Gs) : Bld := let b := g.done.foldl bldGap Bld.start; ⟨b.l, b.p ++ g.cur.p, b.d ++ g.cur.d⟩
theorem keep_pd (b : Bld) (n : Int) (hn : n ≠ 0) : (b.keep n).p = [] ∧ (b.keep n).d = [] := by unfold Bld.keep; rw [if_neg hn]; exact ⟨rfl, rfl⟩
theorem addKeep_add (l : List Stp) (m n : Int) (hm : 0 < m) : addKeep (addKeep l m) n = addKeep l (m + n) := by
  unfold addKeep
  cases h : l.getLast? with
  | none => simp [hm]
  | some s =>
    by_cases hs : 0 < s.k
    · simp only [hs, if_true]
      have : 0 < s.k + m := by omega
      simp [this, Int.add_assoc]
    · simp only [hs, if_false]
      simp [hm]
theorem close_keep (b : Bld) (n : Int) (hn : 0 < n) : (b.keep n).close = b.keep n := by
  unfold Bld.close
  obtain ⟨h1, h2⟩ := keep_pd b n (by omega)
  rw [h1, h2]
  cases hb : b.keep n with
  | mk l p d =>
    rw [hb] at h1 h2
    simp only at h1 h2
    subst h1; subst h2
    simp
theorem keep_keep (b : Bld) (m n : Int) (hm : 0 < m) (hn : 0 < n) : (b.keep m).keep n = b.keep (m + n) := by
  have h1 : (b.keep m).keep n = ⟨addKeep (b.keep m).close.l n, [], []⟩ := by
    conv => lhs; unfold Bld.keep
    rw [if_neg (by omega)]; rfl
  rw [h1, close_keep b m hm]
  unfold Bld.keep
  rw [if_neg (by omega), if_neg (by omega)]
  simp only []
  rw [addKeep_add _ _ _ hm]
theorem keeps_rep (b : Bld) : ∀ n : Nat, (List.replicate n (⟨[], []⟩ : Gap)).foldl bldGap (b.keep 1) = b.keep ((n : Int) + 1)
  | 0 => rfl
  | n + 1 => by
    rw [List.replicate_succ', List.foldl_append, keeps_rep b n]
    simp only [List.foldl_cons, List.foldl_nil, bldGap, List.append_nil]
    have h := keep_pd b ((n : Int) + 1) (by omega)
    rw [show (⟨(b.keep ((n : Int) + 1)).l, (b.keep ((n : Int) + 1)).p, (b.keep ((n : Int) + 1)).d⟩ : Bld) = b.keep ((n : Int) + 1) from rfl]
    rw [keep_keep b _ 1 (by omega) (by omega)]
    congr 1
/-- the builder sees a change's gaps alone -/
theorem bld_gaps : ∀ (l : List Stp) (g : Gs), l.foldl Bld.step (bldGs g) = bldGs (l.foldl Gs.step g)
  | [], _ => rfl
  | s :: l, g => by
    rw [List.foldl_cons, List.foldl_cons, ← bld_gaps l]
    congr 1
    unfold Bld.step Gs.step
    by_cases h1 : 0 < s.k
    · simp only [h1, if_true]
      rw [bldGs, bldGs]
      simp only [List.foldl_append, List.foldl_cons, List.append_nil]
      have := keeps_rep (⟨(g.done.foldl bldGap Bld.start).l, (g.done.foldl bldGap Bld.start).p ++ g.cur.p, (g.done.foldl bldGap Bld.start).d ++ g.cur.d⟩ : Bld) (s.k.toNat - 1)
      rw [show bldGap (g.done.foldl bldGap Bld.start) g.cur = (⟨(g.done.foldl bldGap Bld.start).l, (g.done.foldl bldGap Bld.start).p ++ g.cur.p, (g.done.foldl bldGap Bld.start).d ++ g.cur.d⟩ : Bld).keep 1 from rfl, this]
      rw [show ((s.k.toNat - 1 : Nat) : Int) + 1 = s.k by omega]
    · simp only [h1, if_false]
      by_cases h2 : s.d = []
      · simp [h2, bldGs]
      · simp [h2, bldGs]
theorem plain_gaps (l : List Stp) : plainOf l = (bldGs (gapsOf l)).close.l := by
  rw [plainOf, gapsOf, ← bld_gaps]; rfl
end Go.Eng

/-
  Plain facts on changes, said place by place. No condition.
-/
namespace Go.Eng
open Go
/-- a change said place by place: what it puts at each place; of each byte, whether it drops it, and which it is -/
def putsG (g : Gap) : List (List UInt8) := g.p :: List.replicate g.d.length []
def dropsG (g : Gap) : List Bool := List.replicate g.d.length true ++ [false]
def bytesG (g : Gap) : List UInt8 := g.d ++ [0]
def putsOf (g : Gs) : List (List UInt8) := g.done.flatMap putsG ++ putsG g.cur
def dropsOf (g : Gs) : List Bool := g.done.flatMap dropsG ++ List.replicate g.cur.d.length true
def bytesOf (g : Gs) : List UInt8 := g.done.flatMap bytesG ++ g.cur.d
theorem dropsG_len (g : Gap) : (dropsG g).length = g.d.length + 1 := by simp [dropsG]
theorem bytesG_len (g : Gap) : (bytesG g).length = g.d.length + 1 := by simp [bytesG]
theorem putsG_len (g : Gap) : (putsG g).length = g.d.length + 1 := by simp [putsG]
theorem said_len (g : Gs) : (bytesOf g).length = (dropsOf g).length ∧ (putsOf g).length = (dropsOf g).length + 1 := by
  have h : ∀ l : List Gap, (l.flatMap bytesG).length = (l.flatMap dropsG).length ∧ (l.flatMap putsG).length = (l.flatMap dropsG).length := by
    intro l
    induction l with
    | nil => exact ⟨rfl, rfl⟩
    | cons a l ih => simp only [List.flatMap_cons, List.length_append, bytesG_len, putsG_len, dropsG_len]; omega
  obtain ⟨h1, h2⟩ := h g.done
  simp only [bytesOf, dropsOf, putsOf, List.length_append, List.length_replicate, putsG_len]
  omega
/-- one place of it -/
def posStep (b : Bld) (x : List UInt8 × Bool × UInt8) : Bld := if x.2.1 then ⟨b.l, b.p ++ x.1, b.d ++ [x.2.2]⟩ else (⟨b.l, b.p ++ x.1, b.d⟩ : Bld).keep 1
def posOf (g : Gs) : List (List UInt8 × Bool × UInt8) := (putsOf g).zip ((dropsOf g).zip (bytesOf g))
theorem pos_drops (b : Bld) : ∀ d : List UInt8, ((List.replicate d.length ([] : List UInt8)).zip ((List.replicate d.length true).zip d)).foldl posStep b = ⟨b.l, b.p, b.d ++ d⟩
  | [] => by cases b; simp
  | x :: d => by
    simp only [List.length_cons, List.replicate_succ, List.zip_cons_cons, List.foldl_cons]
    rw [pos_drops _ d]
    simp [posStep]
theorem pos_gap (b : Bld) (g : Gap) : ((putsG g).zip ((dropsG g).zip (bytesG g))).foldl posStep b = bldGap b g := by
  unfold putsG dropsG bytesG bldGap
  cases hd : g.d with
  | nil => simp [posStep]
  | cons x d =>
    have e1 : (List.replicate (x :: d).length true ++ [false]).zip (x :: d ++ [0]) = (true, x) :: ((List.replicate d.length true).zip d ++ [(false, (0 : UInt8))]) := by
      simp only [List.length_cons, List.replicate_succ, List.cons_append, List.zip_cons_cons]
      rw [List.zip_append (by simp)]
      simp
    rw [e1]
    have e2 : (g.p :: List.replicate (x :: d).length ([] : List UInt8)).zip ((true, x) :: ((List.replicate d.length true).zip d ++ [(false, (0 : UInt8))])) =
        (g.p, true, x) :: ((List.replicate d.length ([] : List UInt8)).zip ((List.replicate d.length true).zip d) ++ [([], false, 0)]) := by
      rw [List.zip_cons_cons, List.length_cons, List.replicate_succ', List.zip_append (by simp)]
      simp
    rw [e2, List.foldl_cons, List.foldl_append, pos_drops]
    simp [posStep]
theorem pos_done : ∀ (l : List Gap) (b : Bld), ((l.flatMap putsG).zip ((l.flatMap dropsG).zip (l.flatMap bytesG))).foldl posStep b = l.foldl bldGap b
  | [], _ => rfl
  | g :: l, b => by
    rw [List.flatMap_cons, List.flatMap_cons, List.flatMap_cons, List.zip_append (by rw [dropsG_len, bytesG_len]), List.zip_append (by rw [putsG_len, List.length_zip, dropsG_len, bytesG_len]; simp), List.foldl_append, pos_gap, pos_done l, List.foldl_cons]
/-- a text put together place by place is the builder over gaps -/
theorem pos_all (g : Gs) : let b := (posOf g).foldl posStep Bld.start; (⟨b.l, b.p ++ (putsOf g).getD (dropsOf g).length [], b.d⟩ : Bld) = bldGs g := by
  have hl := said_len ⟨g.done, ⟨[], []⟩⟩
  have h : ∀ l : List Gap, (l.flatMap bytesG).length = (l.flatMap dropsG).length ∧ (l.flatMap putsG).length = (l.flatMap dropsG).length := by
    intro l
    induction l with
    | nil => exact ⟨rfl, rfl⟩
    | cons a l ih => simp only [List.flatMap_cons, List.length_append, bytesG_len, putsG_len, dropsG_len]; omega
  obtain ⟨h1, h2⟩ := h g.done
  have e : posOf g = (g.done.flatMap putsG).zip ((g.done.flatMap dropsG).zip (g.done.flatMap bytesG)) ++ (putsG g.cur).zip ((List.replicate g.cur.d.length true).zip g.cur.d) := by
    rw [posOf, putsOf, dropsOf, bytesOf, List.zip_append (by omega), List.zip_append (by rw [List.length_zip]; omega)]
  simp only []
  rw [e, List.foldl_append, pos_done]
  unfold bldGs
  simp only []
  have hlen : (dropsOf g).length = (g.done.flatMap putsG).length + g.cur.d.length := by rw [dropsOf, List.length_append, List.length_replicate]; omega
  have hget : (putsOf g).getD (dropsOf g).length [] = (putsG g.cur).getD g.cur.d.length [] := by
    rw [hlen, putsOf, List.getD_eq_getElem?_getD, List.getD_eq_getElem?_getD, List.getElem?_append_right (by omega)]
    congr 2; omega
  rw [hget]
  cases hd : g.cur.d with
  | nil => simp [putsG, hd]
  | cons x d =>
    have e2 : (putsG g.cur).zip ((List.replicate (x :: d).length true).zip (x :: d)) = (g.cur.p, true, x) :: (List.replicate d.length ([] : List UInt8)).zip ((List.replicate d.length true).zip d) := by
      have e3 : (List.replicate (x :: d).length true).zip (x :: d) = (true, x) :: (List.replicate d.length true).zip d := by rw [List.length_cons, List.replicate_succ, List.zip_cons_cons]
      rw [e3, putsG, hd, List.zip_cons_cons]
      congr 1
      rw [List.length_cons, List.replicate_succ']
      have hz : (List.replicate d.length true).zip d = (List.replicate d.length true).zip d ++ [] := by simp
      conv => lhs; rw [hz]
      rw [List.zip_append (by simp)]
      simp
    rw [e2, List.foldl_cons, pos_drops]
    simp [posStep, putsG, hd]
theorem plain_pos (l : List Stp) : let b := (posOf (gapsOf l)).foldl posStep Bld.start; plainOf l = (⟨b.l, b.p ++ (putsOf (gapsOf l)).getD (dropsOf (gapsOf l)).length [], b.d⟩ : Bld).close.l := by
  simp only []
  rw [plain_gaps, ← pos_all]
end Go.Eng

/-
  Plain facts on changes: the lists that say a change place by place, while they are filled. No condition.
-/
namespace Go.Eng
open Go
def pad {α : Type} (l : List α) (n : Nat) (x : α) : List α := l ++ List.replicate (n - l.length) x
def gapAt (g : Gs) : Nat := (g.done.flatMap dropsG).length
def atOf (g : Gs) : Nat := gapAt g + g.cur.d.length
def putsPad (N : Nat) (g : Gs) : List (List UInt8) := pad (g.done.flatMap putsG ++ [g.cur.p]) (N + 1) []
def dropsPad (N : Nat) (g : Gs) : List Bool := pad (dropsOf g) N false
def bytesPad (N : Nat) (g : Gs) : List UInt8 := pad (bytesOf g) N 0
theorem flat_lens (l : List Gap) : (l.flatMap bytesG).length = (l.flatMap dropsG).length ∧ (l.flatMap putsG).length = (l.flatMap dropsG).length := by
  induction l with
  | nil => exact ⟨rfl, rfl⟩
  | cons a l ih => simp only [List.flatMap_cons, List.length_append, bytesG_len, putsG_len, dropsG_len]; omega
/-- one more byte is dropped -/
def Gs.byte (g : Gs) (b : UInt8) : Gs := ⟨g.done, ⟨g.cur.p, g.cur.d ++ [b]⟩⟩
/-- something more is put -/
def Gs.put (g : Gs) (s : List UInt8) : Gs := ⟨g.done, ⟨g.cur.p ++ s, g.cur.d⟩⟩
/-- a row is kept -/
def Gs.keeps (g : Gs) (n : Nat) : Gs := ⟨g.done ++ g.cur :: List.replicate (n - 1) ⟨[], []⟩, ⟨[], []⟩⟩
end Go.Eng

/-
  Plain facts on changes: byte by byte. No condition.
-/
namespace Go.Eng
open Go
/-- one byte of a change -/
inductive Atm where
  | k
  | d (b : UInt8)
  | p (b : UInt8)
  deriving DecidableEq
def Stp.atoms (s : Stp) : List Atm := List.replicate s.k.toNat .k ++ s.d.map .d ++ s.p.map .p
def atomsOf (l : List Stp) : List Atm := l.flatMap Stp.atoms
def Bld.atom (b : Bld) : Atm → Bld
  | .k => b.keep 1
  | .d c => ⟨b.l, b.p, b.d ++ [c]⟩
  | .p c => ⟨b.l, b.p ++ [c], b.d⟩
def Bld.run (b : Bld) (l : List Atm) : Bld := l.foldl Bld.atom b
theorem run_append (b : Bld) (x y : List Atm) : b.run (x ++ y) = (b.run x).run y := List.foldl_append ..
theorem run_d (b : Bld) : ∀ ds : List UInt8, b.run (ds.map .d) = ⟨b.l, b.p, b.d ++ ds⟩
  | [] => by cases b; simp [Bld.run]
  | x :: ds => by
    have h := run_d (b.atom (.d x)) ds
    simp only [Bld.run, List.map_cons, List.foldl_cons] at h ⊢
    rw [h]; simp [Bld.atom]
theorem run_p (b : Bld) : ∀ ds : List UInt8, b.run (ds.map .p) = ⟨b.l, b.p ++ ds, b.d⟩
  | [] => by cases b; simp [Bld.run]
  | x :: ds => by
    have h := run_p (b.atom (.p x)) ds
    simp only [Bld.run, List.map_cons, List.foldl_cons] at h ⊢
    rw [h]; simp [Bld.atom]
theorem run_k (b : Bld) : ∀ n : Nat, b.run (List.replicate n .k) = b.keep (n : Int)
  | 0 => rfl
  | n + 1 => by
    rw [List.replicate_succ', run_append, run_k b n]
    show (b.keep (n : Int)).keep 1 = _
    by_cases hn : n = 0
    · subst hn; rfl
    · rw [keep_keep b _ 1 (by omega) (by omega)]; rfl
theorem run_step (b : Bld) (s : Stp) (h : stpOk s) : b.run s.atoms = b.step s := by
  obtain ⟨k, d, p⟩ := s
  rcases h with ⟨h1, h2, h3⟩ | ⟨h1, h2, h3⟩ | ⟨h1, h2, h3⟩
  · simp only at h1 h2 h3
    subst h2; subst h3
    simp only [Stp.atoms, List.map_nil, List.append_nil, Bld.step, h1, if_true]
    rw [run_k, Int.toNat_of_nonneg (by omega)]
  · simp only at h1 h2 h3
    subst h1; subst h3
    simp [Stp.atoms, Bld.step, h2, run_d]
  · simp only at h1 h2 h3
    subst h1; subst h2
    simp [Stp.atoms, Bld.step, run_p]
/-- what a builder has laid, byte by byte -/
def gapA (g : Gap) : List Atm := g.p.map .p ++ g.d.map .d
def Bld.atoms (b : Bld) : List Atm := atomsOf b.l ++ gapA ⟨b.p, b.d⟩
def nfOf (g : Gs) : List Atm := g.done.flatMap (fun x => gapA x ++ [.k]) ++ gapA g.cur
theorem atoms_append (x y : List Stp) : atomsOf (x ++ y) = atomsOf x ++ atomsOf y := List.flatMap_append ..
theorem atoms_one (s : Stp) : atomsOf [s] = s.atoms := by simp [atomsOf]
theorem atoms_cons (s : Stp) (l : List Stp) : atomsOf (s :: l) = s.atoms ++ atomsOf l := rfl
theorem close_atoms (b : Bld) : atomsOf b.close.l = b.atoms := by
  unfold Bld.close Bld.atoms gapA
  simp only [atoms_append]
  rw [List.append_assoc]
  congr 1
  congr 1
  · by_cases h : b.p = [] <;> simp [h, atomsOf, Stp.atoms]
  · by_cases h : b.d = [] <;> simp [h, atomsOf, Stp.atoms]
theorem close_ok (b : Bld) (h : ∀ s ∈ b.l, stpOk s) : ∀ s ∈ b.close.l, stpOk s := by
  intro s hs
  unfold Bld.close at hs
  simp only [List.mem_append] at hs
  rcases hs with (hs | hs) | hs
  · exact h s hs
  · by_cases hp : b.p = []
    · simp [hp] at hs
    · simp [hp] at hs; subst hs; exact .inr (.inr ⟨rfl, rfl, hp⟩)
  · by_cases hp : b.d = []
    · simp [hp] at hs
    · simp [hp] at hs; subst hs; exact .inr (.inl ⟨rfl, hp, rfl⟩)
theorem addKeep_atoms (l : List Stp) (n : Int) (hn : 0 < n) (h : ∀ s ∈ l, stpOk s) : atomsOf (addKeep l n) = atomsOf l ++ List.replicate n.toNat .k ∧ ∀ s ∈ addKeep l n, stpOk s := by
  unfold addKeep
  cases hl : l.getLast? with
  | none =>
    have : l = [] := by simpa using hl
    subst this
    refine ⟨by simp [atomsOf, Stp.atoms], fun s hs => ?_⟩
    simp at hs; subst hs; exact .inl ⟨hn, rfl, rfl⟩
  | some s =>
    obtain ⟨ys, e⟩ := List.getLast?_eq_some_iff.1 hl
    have e2 : l.dropLast = ys := by rw [e]; simp
    rw [e2]
    have hs := h s (by rw [e]; simp)
    by_cases h0 : 0 < s.k
    · simp only [h0, if_true]
      rcases hs with ⟨_, h2, h3⟩ | ⟨h1, _, _⟩ | ⟨h1, _, _⟩
      · refine ⟨?_, fun x hx => ?_⟩
        · conv => rhs; rw [e]
          rw [atoms_append, atoms_append, atoms_one, atoms_one, List.append_assoc]
          congr 1
          simp only [Stp.atoms, h2, h3, List.map_nil, List.append_nil]
          rw [List.replicate_append_replicate]
          congr 1; omega
        · simp only [List.mem_append, List.mem_singleton] at hx
          rcases hx with hx | rfl
          · exact h x (by rw [e]; simp [hx])
          · exact .inl ⟨by simp only; omega, h2, h3⟩
      · omega
      · omega
    · simp only [h0, if_false]
      refine ⟨by rw [atoms_append, atoms_one]; simp [Stp.atoms], fun x hx => ?_⟩
      simp only [List.mem_append, List.mem_singleton] at hx
      rcases hx with hx | rfl
      · exact h x hx
      · exact .inl ⟨hn, rfl, rfl⟩
theorem keep_atoms (b : Bld) (n : Int) (hn : 0 < n) (h : ∀ s ∈ b.l, stpOk s) : (b.keep n).atoms = b.atoms ++ List.replicate n.toNat .k ∧ ∀ s ∈ (b.keep n).l, stpOk s := by
  unfold Bld.keep
  rw [if_neg (by omega)]
  obtain ⟨h1, h2⟩ := addKeep_atoms b.close.l n hn (close_ok b h)
  refine ⟨?_, h2⟩
  unfold Bld.atoms
  simp only [gapA, List.map_nil, List.append_nil]
  rw [h1, close_atoms]; rfl
theorem bldGap_atoms (b : Bld) (g : Gap) (h : ∀ s ∈ b.l, stpOk s) (hp : b.p = []) (hd : b.d = []) : (bldGap b g).atoms = b.atoms ++ (gapA g ++ [.k]) ∧ (∀ s ∈ (bldGap b g).l, stpOk s) ∧ (bldGap b g).p = [] ∧ (bldGap b g).d = [] := by
  obtain ⟨h1, h2⟩ := keep_atoms ⟨b.l, b.p ++ g.p, b.d ++ g.d⟩ 1 (by omega) h
  have h3 := keep_pd ⟨b.l, b.p ++ g.p, b.d ++ g.d⟩ 1 (by omega)
  refine ⟨?_, h2, h3.1, h3.2⟩
  rw [bldGap, h1]
  unfold Bld.atoms
  simp [hp, hd, gapA]
theorem bldGs_done : ∀ (l : List Gap) (b : Bld), (∀ s ∈ b.l, stpOk s) → b.p = [] → b.d = [] → (l.foldl bldGap b).atoms = b.atoms ++ l.flatMap (fun x => gapA x ++ [.k]) ∧ (∀ s ∈ (l.foldl bldGap b).l, stpOk s) ∧ (l.foldl bldGap b).p = [] ∧ (l.foldl bldGap b).d = []
  | [], b, h, hp, hd => ⟨by simp, h, hp, hd⟩
  | g :: l, b, h, hp, hd => by
    obtain ⟨h1, h2, h3, h4⟩ := bldGap_atoms b g h hp hd
    obtain ⟨k1, k2, k3, k4⟩ := bldGs_done l (bldGap b g) h2 h3 h4
    refine ⟨?_, k2, k3, k4⟩
    rw [List.foldl_cons, k1, h1, List.flatMap_cons, List.append_assoc]
theorem bldGs_atoms (g : Gs) : (bldGs g).atoms = nfOf g ∧ ∀ s ∈ (bldGs g).l, stpOk s := by
  obtain ⟨h1, h2, h3, h4⟩ := bldGs_done g.done Bld.start (by simp [Bld.start]) rfl rfl
  refine ⟨?_, h2⟩
  unfold bldGs nfOf
  simp only []
  rw [show (Bld.atoms ⟨(g.done.foldl bldGap Bld.start).l, (g.done.foldl bldGap Bld.start).p ++ g.cur.p, (g.done.foldl bldGap Bld.start).d ++ g.cur.d⟩) = (g.done.foldl bldGap Bld.start).atoms ++ gapA g.cur by simp [Bld.atoms, h3, h4, gapA], h1]
  simp [Bld.atoms, Bld.start, atomsOf, gapA]
theorem plain_atoms (l : List Stp) : atomsOf (plainOf l) = nfOf (gapsOf l) := by rw [plain_gaps, close_atoms, (bldGs_atoms _).1]
theorem plain_ok (l : List Stp) : ∀ s ∈ plainOf l, stpOk s := by rw [plain_gaps]; exact close_ok _ (bldGs_atoms _).2
/-- the said change, as a list of places -/
abbrev Pos := List UInt8 × Bool × UInt8
def Pos.atoms (x : Pos) : List Atm := x.1.map .p ++ [if x.2.1 then .d x.2.2 else .k]
def lastOf (g : Gs) : List UInt8 := (putsOf g).getD (dropsOf g).length []
def sdA (ps : List Pos) (last : List UInt8) : List Atm := ps.flatMap Pos.atoms ++ last.map .p
theorem run_pos (b : Bld) (x : Pos) : b.run x.atoms = posStep b x := by
  rw [Pos.atoms, run_append, run_p, posStep]
  cases h : x.2.1 <;> simp [Bld.run, Bld.atom]
theorem sd_drops : ∀ d : List UInt8, ((List.replicate d.length ([] : List UInt8)).zip ((List.replicate d.length true).zip d)).flatMap Pos.atoms = d.map .d
  | [] => rfl
  | x :: d => by
    simp only [List.length_cons, List.replicate_succ, List.zip_cons_cons, List.flatMap_cons, sd_drops d]
    rfl
theorem sd_gap (g : Gap) : ((putsG g).zip ((dropsG g).zip (bytesG g))).flatMap Pos.atoms = gapA g ++ [.k] := by
  unfold putsG dropsG bytesG gapA
  cases hd : g.d with
  | nil => simp [Pos.atoms]
  | cons x d =>
    have e1 : (List.replicate (x :: d).length true ++ [false]).zip (x :: d ++ [0]) = (true, x) :: ((List.replicate d.length true).zip d ++ [(false, (0 : UInt8))]) := by
      simp only [List.length_cons, List.replicate_succ, List.cons_append, List.zip_cons_cons]
      rw [List.zip_append (by simp)]
      simp
    rw [e1]
    have e2 : (g.p :: List.replicate (x :: d).length ([] : List UInt8)).zip ((true, x) :: ((List.replicate d.length true).zip d ++ [(false, (0 : UInt8))])) =
        (g.p, true, x) :: ((List.replicate d.length ([] : List UInt8)).zip ((List.replicate d.length true).zip d) ++ [([], false, 0)]) := by
      rw [List.zip_cons_cons, List.length_cons, List.replicate_succ', List.zip_append (by simp)]
      simp
    rw [e2, List.flatMap_cons, List.flatMap_append, sd_drops]
    simp [Pos.atoms]
theorem sd_done : ∀ l : List Gap, ((l.flatMap putsG).zip ((l.flatMap dropsG).zip (l.flatMap bytesG))).flatMap Pos.atoms = l.flatMap (fun x => gapA x ++ [.k])
  | [] => rfl
  | g :: l => by
    rw [List.flatMap_cons, List.flatMap_cons, List.flatMap_cons, List.zip_append (by rw [dropsG_len, bytesG_len]), List.zip_append (by rw [putsG_len, List.length_zip, dropsG_len, bytesG_len]; simp), List.flatMap_append, sd_gap, sd_done l, List.flatMap_cons]
theorem sd_atoms (g : Gs) : sdA (posOf g) (lastOf g) = nfOf g := by
  have hl := flat_lens g.done
  have e : posOf g = (g.done.flatMap putsG).zip ((g.done.flatMap dropsG).zip (g.done.flatMap bytesG)) ++ (putsG g.cur).zip ((List.replicate g.cur.d.length true).zip g.cur.d) := by
    rw [posOf, putsOf, dropsOf, bytesOf, List.zip_append (by omega), List.zip_append (by rw [List.length_zip]; omega)]
  have hlen : (dropsOf g).length = (g.done.flatMap putsG).length + g.cur.d.length := by rw [dropsOf, List.length_append, List.length_replicate]; omega
  have hget : lastOf g = (putsG g.cur).getD g.cur.d.length [] := by
    rw [lastOf, hlen, putsOf, List.getD_eq_getElem?_getD, List.getD_eq_getElem?_getD, List.getElem?_append_right (by omega)]
    congr 2; omega
  unfold sdA nfOf
  rw [e, hget, List.flatMap_append, sd_done, List.append_assoc]
  congr 1
  cases hd : g.cur.d with
  | nil => simp [putsG, hd, gapA]
  | cons x d =>
    have e2 : (putsG g.cur).zip ((List.replicate (x :: d).length true).zip (x :: d)) = (g.cur.p, true, x) :: (List.replicate d.length ([] : List UInt8)).zip ((List.replicate d.length true).zip d) := by
      have e3 : (List.replicate (x :: d).length true).zip (x :: d) = (true, x) :: (List.replicate d.length true).zip d := by rw [List.length_cons, List.replicate_succ, List.zip_cons_cons]
      rw [e3, putsG, hd, List.zip_cons_cons]
      congr 1
      rw [List.length_cons, List.replicate_succ']
      have hz : (List.replicate d.length true).zip d = (List.replicate d.length true).zip d ++ [] := by simp
      conv => lhs; rw [hz]
      rw [List.zip_append (by simp)]
      simp
    rw [e2, List.flatMap_cons, sd_drops]
    simp [Pos.atoms, putsG, hd, gapA]
/-- the builder over a said change -/
theorem plain_run (l : List Stp) : plainOf l = (Bld.start.run (nfOf (gapsOf l))).close.l := by
  rw [← sd_atoms, sdA, run_append, run_p]
  have h : ∀ (ps : List Pos) (b : Bld), b.run (ps.flatMap Pos.atoms) = ps.foldl posStep b := by
    intro ps
    induction ps with
    | nil => intro b; rfl
    | cons x ps ih => intro b; rw [List.flatMap_cons, run_append, run_pos, ih, List.foldl_cons]
  rw [h]
  exact plain_pos l
end Go.Eng

/-
  Plain facts on changes: where a place goes. No condition.
-/
namespace Go.Eng
open Go
/-- one step of the program's way -/
def moveStep (at_ : Int) (b : Bool) (st : Int × Int) (s : Stp) : Int × Int :=
  if s.p ≠ [] then (if st.2 < at_ ∨ (st.2 = at_ ∧ b = true) then st.1 + s.p.length else st.1, st.2)
  else if s.d ≠ [] then (st.1, st.2 + s.d.length)
  else (st.1 + max 0 (min s.k (at_ - st.2)), st.2 + s.k)
def moveAtm (at_ : Int) (b : Bool) (st : Int × Int) : Atm → Int × Int
  | .p _ => (if st.2 < at_ ∨ (st.2 = at_ ∧ b = true) then st.1 + 1 else st.1, st.2)
  | .d _ => (st.1, st.2 + 1)
  | .k => (if st.2 < at_ then st.1 + 1 else st.1, st.2 + 1)
/-- the reference's way -/
def mvF : List Pos → List UInt8 → Nat → Bool → Nat
  | [], last, _, b => if b then last.length else 0
  | x :: _, _, 0, b => if b then x.1.length else 0
  | x :: ps, last, at_ + 1, b => x.1.length + (if x.2.1 then 0 else 1) + mvF ps last at_ b
/-- the program's answer is the reference's -/
def moveOf (l : List Stp) (at_ : Int) (b : Bool) : Int := (l.foldl (moveStep at_ b) (0, 0)).1
def movedF (l : List Stp) (at_ : Nat) (b : Bool) : Nat := mvF (posOf (gapsOf l)) (lastOf (gapsOf l)) at_ b
end Go.Eng

/-
  Plain facts on changes: one behind the other. No condition.
-/
namespace Go.Eng
open Go
/-- two changes byte by byte, one behind the other; none: they are apart -/
def compA : List Atm → List Atm → Option (List Atm)
  | xs, .p b :: ys => (compA xs ys).map (.p b :: ·)
  | .d b :: xs, [] => (compA xs []).map (.d b :: ·)
  | .d b :: xs, .k :: ys => (compA xs (.k :: ys)).map (.d b :: ·)
  | .d b :: xs, .d c :: ys => (compA xs (.d c :: ys)).map (.d b :: ·)
  | [], [] => some []
  | [], .k :: _ => some []
  | [], .d _ :: _ => some []
  | .k :: _, [] => some []
  | .p _ :: _, [] => some []
  | .k :: xs, .k :: ys => (compA xs ys).map (.k :: ·)
  | .k :: xs, .d c :: ys => (compA xs ys).map (.d c :: ·)
  | .p b :: xs, .k :: ys => (compA xs ys).map (.p b :: ·)
  | .p b :: xs, .d c :: ys => if b = c then compA xs ys else none
termination_by xs ys => xs.length + ys.length
def notPut : List Atm → Bool
  | .p _ :: _ => false
  | _ => true
/-- how many bytes a change is of, and makes -/
def fromA : List Atm → Nat
  | [] => 0
  | .k :: l => fromA l + 1
  | .d _ :: l => fromA l + 1
  | .p _ :: l => fromA l
def toA : List Atm → Nat
  | [] => 0
  | .k :: l => toA l + 1
  | .d _ :: l => toA l
  | .p _ :: l => toA l + 1
theorem fromA_append : ∀ x y : List Atm, fromA (x ++ y) = fromA x + fromA y
  | [], y => by simp [fromA]
  | .k :: x, y => by simp only [List.cons_append, fromA, fromA_append x y]; omega
  | .d _ :: x, y => by simp only [List.cons_append, fromA, fromA_append x y]; omega
  | .p _ :: x, y => by simp only [List.cons_append, fromA, fromA_append x y]
theorem toA_append : ∀ x y : List Atm, toA (x ++ y) = toA x + toA y
  | [], y => by simp [toA]
  | .k :: x, y => by simp only [List.cons_append, toA, toA_append x y]; omega
  | .d _ :: x, y => by simp only [List.cons_append, toA, toA_append x y]
  | .p _ :: x, y => by simp only [List.cons_append, toA, toA_append x y]; omega
theorem fromA_d (l : List UInt8) : fromA (l.map .d) = l.length := by induction l with
  | nil => rfl
  | cons a l ih => simp [fromA, ih]
theorem fromA_p (l : List UInt8) : fromA (l.map .p) = 0 := by induction l with
  | nil => rfl
  | cons a l ih => simp [fromA, ih]
theorem toA_d (l : List UInt8) : toA (l.map .d) = 0 := by induction l with
  | nil => rfl
  | cons a l ih => simp [toA, ih]
theorem toA_p (l : List UInt8) : toA (l.map .p) = l.length := by induction l with
  | nil => rfl
  | cons a l ih => simp [toA, ih]
theorem fromA_k (n : Nat) : fromA (List.replicate n .k) = n := by induction n with
  | zero => rfl
  | succ n ih => simp [List.replicate_succ, fromA, ih]
theorem toA_k (n : Nat) : toA (List.replicate n .k) = n := by induction n with
  | zero => rfl
  | succ n ih => simp [List.replicate_succ, toA, ih]
theorem from_step (s : Stp) : fromA s.atoms = s.k.toNat + s.d.length := by simp [Stp.atoms, fromA_append, fromA_k, fromA_d, fromA_p]
theorem to_step (s : Stp) : toA s.atoms = s.k.toNat + s.p.length := by simp [Stp.atoms, toA_append, toA_k, toA_d, toA_p]
/-- sizes of a change that may be -/
theorem sizesF_some : ∀ (l : List Stp) (f t a b : Int), 0 ≤ f → 0 ≤ t → sizesF l f t = some (a, b) → (∀ s ∈ l, stpOk s ∧ s.k ≤ maxT) ∧ a = f + (fromA (atomsOf l) : Int) ∧ b = t + (toA (atomsOf l) : Int) ∧ (l ≠ [] → a ≤ maxT ∧ b ≤ maxT)
  | [], f, t, a, b, _, _, h => by
    simp only [sizesF, Option.some.injEq, Prod.mk.injEq] at h
    obtain ⟨rfl, rfl⟩ := h
    simp [atomsOf, fromA, toA]
  | s :: l, f, t, a, b, hf, ht, h => by
    rw [sizesF] at h
    split at h
    · rename_i hc
      obtain ⟨h1, h2, h3, h4⟩ := hc
      have hk : 0 ≤ s.k := by rcases h1 with ⟨h, _, _⟩ | ⟨h, _, _⟩ | ⟨h, _, _⟩ <;> omega
      obtain ⟨g1, g2, g3, g4⟩ := sizesF_some l _ _ a b (by omega) (by omega) h
      refine ⟨?_, ?_, ?_, fun _ => ?_⟩
      · intro x hx
        rcases List.mem_cons.1 hx with rfl | hx
        · exact ⟨h1, h2⟩
        · exact g1 x hx
      · rw [g2, atoms_cons, fromA_append, from_step]; omega
      · rw [g3, atoms_cons, toA_append, to_step]; omega
      · by_cases hl : l = []
        · subst hl
          simp only [sizesF, Option.some.injEq, Prod.mk.injEq] at h
          omega
        · exact g4 hl
    · cases h
theorem sizesOf_some {l : List Stp} {a b : Int} (h : sizesOf l = some (a, b)) : (∀ s ∈ l, stpOk s ∧ s.k ≤ maxT) ∧ a = (fromA (atomsOf l) : Int) ∧ b = (toA (atomsOf l) : Int) ∧ a ≤ maxT ∧ b ≤ maxT := by
  obtain ⟨h1, h2, h3, h4⟩ := sizesF_some l 0 0 a b (by omega) (by omega) h
  refine ⟨h1, by omega, by omega, ?_⟩
  by_cases hl : l = []
  · subst hl
    simp only [sizesOf, sizesF, Option.some.injEq, Prod.mk.injEq] at h
    unfold maxT; omega
  · exact h4 hl
/-- the gaps of a change, byte by byte -/
def Gs.atom (g : Gs) : Atm → Gs
  | .k => ⟨g.done ++ [g.cur], ⟨[], []⟩⟩
  | .d c => ⟨g.done, ⟨g.cur.p, g.cur.d ++ [c]⟩⟩
  | .p c => ⟨g.done, ⟨g.cur.p ++ [c], g.cur.d⟩⟩
def Gs.run (g : Gs) (l : List Atm) : Gs := l.foldl Gs.atom g
theorem grun_append (b : Gs) (x y : List Atm) : b.run (x ++ y) = (b.run x).run y := List.foldl_append ..
theorem grun_d (b : Gs) : ∀ ds : List UInt8, b.run (ds.map .d) = ⟨b.done, ⟨b.cur.p, b.cur.d ++ ds⟩⟩
  | [] => by cases b; simp [Gs.run]
  | x :: ds => by
    have h := grun_d (b.atom (.d x)) ds
    simp only [Gs.run, List.map_cons, List.foldl_cons] at h ⊢
    rw [h]; simp [Gs.atom]
theorem grun_p (b : Gs) : ∀ ds : List UInt8, b.run (ds.map .p) = ⟨b.done, ⟨b.cur.p ++ ds, b.cur.d⟩⟩
  | [] => by cases b; simp [Gs.run]
  | x :: ds => by
    have h := grun_p (b.atom (.p x)) ds
    simp only [Gs.run, List.map_cons, List.foldl_cons] at h ⊢
    rw [h]; simp [Gs.atom]
theorem grun_k (b : Gs) : ∀ n : Nat, b.run (List.replicate (n + 1) .k) = b.keeps (n + 1)
  | 0 => by simp [Gs.run, Gs.atom, Gs.keeps, List.replicate]
  | n + 1 => by
    rw [List.replicate_succ', grun_append, grun_k b n]
    simp only [Gs.run, List.foldl_cons, List.foldl_nil, Gs.atom, Gs.keeps]
    simp [List.replicate_succ']
theorem grun_step (g : Gs) (s : Stp) (h : stpOk s) : g.run s.atoms = g.step s := by
  obtain ⟨k, d, p⟩ := s
  rcases h with ⟨h1, h2, h3⟩ | ⟨h1, h2, h3⟩ | ⟨h1, h2, h3⟩
  · simp only at h1 h2 h3
    subst h2; subst h3
    simp only [Stp.atoms, List.map_nil, List.append_nil, Gs.step, h1, if_true]
    obtain ⟨n, hn⟩ : ∃ n, k.toNat = n + 1 := ⟨k.toNat - 1, by omega⟩
    rw [hn, grun_k]; simp [Gs.keeps]
  · simp only at h1 h2 h3
    subst h1; subst h3
    simp [Stp.atoms, Gs.step, h2, grun_d]
  · simp only at h1 h2 h3
    subst h1; subst h2
    simp [Stp.atoms, Gs.step, grun_p]
theorem gaps_run : ∀ (l : List Stp) (g : Gs), (∀ s ∈ l, stpOk s) → g.run (atomsOf l) = l.foldl Gs.step g
  | [], g, _ => rfl
  | s :: l, g, h => by
    rw [atoms_cons, grun_append, grun_step g s (h s List.mem_cons_self), gaps_run l _ (fun x hx => h x (List.mem_cons_of_mem _ hx)), List.foldl_cons]
theorem gapsOf_run (l : List Stp) (h : ∀ s ∈ l, stpOk s) : gapsOf l = Gs.start.run (atomsOf l) := (gaps_run l _ h).symm
/-- what a change is of, and makes, by its gaps -/
theorem nf_from (g : Gs) (a : Atm) : fromA (nfOf (g.atom a)) = fromA (nfOf g) + fromA [a] ∧ toA (nfOf (g.atom a)) = toA (nfOf g) + toA [a] := by
  cases a <;> simp only [Gs.atom, nfOf, gapA, List.flatMap_append, List.flatMap_cons, List.flatMap_nil, fromA_append, toA_append, List.map_append, fromA_p, fromA_d, toA_p, toA_d, fromA, toA, List.map_cons, List.map_nil, List.append_nil] <;> omega
theorem nf_run : ∀ (l : List Atm) (g : Gs), fromA (nfOf (g.run l)) = fromA (nfOf g) + fromA l ∧ toA (nfOf (g.run l)) = toA (nfOf g) + toA l
  | [], g => ⟨rfl, rfl⟩
  | a :: l, g => by
    obtain ⟨h1, h2⟩ := nf_run l (g.atom a)
    obtain ⟨h3, h4⟩ := nf_from g a
    have e1 : fromA (a :: l) = fromA [a] + fromA l := fromA_append [a] l
    have e2 : toA (a :: l) = toA [a] + toA l := toA_append [a] l
    rw [show g.run (a :: l) = (g.atom a).run l from rfl, h1, h2, h3, h4, e1, e2]
    omega
theorem nf_sizes (l : List Stp) (h : ∀ s ∈ l, stpOk s) : fromA (nfOf (gapsOf l)) = fromA (atomsOf l) ∧ toA (nfOf (gapsOf l)) = toA (atomsOf l) := by
  obtain ⟨h1, h2⟩ := nf_run (atomsOf l) Gs.start
  rw [gapsOf_run l h, h1, h2]
  simp [Gs.start, nfOf, gapA, fromA, toA]
end Go.Eng

/-
  Plain facts on changes: how large a builder grows. No condition.
-/
namespace Go.Eng
open Go
/-- no number of it is above N -/
structure BFit (N : Nat) (B : Bld) : Prop where
  len : B.l.length ≤ N
  k : ∀ s ∈ B.l, 0 ≤ s.k ∧ s.k ≤ N
  p : B.p.length ≤ N
  d : B.d.length ≤ N
theorem BFit.mono {N M : Nat} {B : Bld} (h : BFit N B) (hm : N ≤ M) : BFit M B :=
  ⟨by have := h.len; omega, fun s hs => by have := h.k s hs; omega, by have := h.p; omega, by have := h.d; omega⟩
theorem BFit.start : BFit 0 Bld.start := ⟨Nat.le_refl _, fun s hs => by simp [Bld.start] at hs, Nat.le_refl _, Nat.le_refl _⟩
theorem BFit.close {N : Nat} {B : Bld} (h : BFit N B) : BFit (N + 2) B.close := by
  refine ⟨?_, fun s hs => ?_, by simp [Bld.close], by simp [Bld.close]⟩
  · have := h.len
    unfold Bld.close
    split <;> split <;> simp <;> omega
  · unfold Bld.close at hs
    simp only [List.mem_append] at hs
    rcases hs with (hs | hs) | hs
    · have := h.k s hs; omega
    · split at hs <;> simp at hs; subst hs; simp; omega
    · split at hs <;> simp at hs; subst hs; simp; omega
theorem addKeep_k {N : Nat} {l : List Stp} {n : Nat} (h : ∀ s ∈ l, 0 ≤ s.k ∧ s.k ≤ N) : (∀ s ∈ addKeep l n, 0 ≤ s.k ∧ s.k ≤ ((N + n : Nat) : Int)) ∧ (addKeep l n).length ≤ l.length + 1 := by
  unfold addKeep
  cases hl : l.getLast? with
  | none => simp; omega
  | some s =>
    obtain ⟨ys, e⟩ := List.getLast?_eq_some_iff.1 hl
    have hs := h s (by rw [e]; simp)
    have e2 : l.dropLast = ys := by rw [e]; simp
    simp only [e2]
    split
    · refine ⟨fun x hx => ?_, by rw [e]; simp⟩
      simp only [List.mem_append, List.mem_singleton] at hx
      rcases hx with hx | rfl
      · have := h x (by rw [e]; simp [hx]); omega
      · simp; omega
    · refine ⟨fun x hx => ?_, by simp⟩
      simp only [List.mem_append, List.mem_singleton] at hx
      rcases hx with hx | rfl
      · have := h x hx; omega
      · simp; omega
theorem BFit.keep {N n : Nat} {B : Bld} (h : BFit N B) : BFit (N + n + 3) (B.keep n) := by
  unfold Bld.keep
  split
  · exact h.mono (by omega)
  · have hc := h.close
    obtain ⟨h1, h2⟩ := addKeep_k (n := n) hc.k
    exact ⟨by have := hc.len; simp only; omega, fun s hs => by have := h1 s hs; omega, by simp, by simp⟩
theorem BFit.atom {N : Nat} {B : Bld} (h : BFit N B) (a : Atm) : BFit (N + 4) (B.atom a) := by
  cases a with
  | k => exact h.keep (n := 1)
  | d c => exact ⟨by have := h.len; simp only [Bld.atom]; omega, fun s hs => by have := h.k s hs; omega, by have := h.p; simp only [Bld.atom]; omega, by have := h.d; simp [Bld.atom]; omega⟩
  | p c => exact ⟨by have := h.len; simp only [Bld.atom]; omega, fun s hs => by have := h.k s hs; omega, by have := h.p; simp [Bld.atom]; omega, by have := h.d; simp only [Bld.atom]; omega⟩
theorem BFit.run : ∀ (l : List Atm) {N : Nat} {B : Bld}, BFit N B → BFit (N + 4 * l.length) (B.run l)
  | [], _, _, h => h
  | a :: l, N, B, h => by
    have := BFit.run l (h.atom a)
    exact this.mono (by simp; omega)
theorem BFit.runs (l : List Atm) : BFit (4 * l.length) (Bld.start.run l) := (BFit.run l BFit.start).mono (by omega)
theorem atoms_len (s : Stp) : s.atoms.length = s.k.toNat + s.d.length + s.p.length := by simp [Stp.atoms]; omega
theorem atoms_le : ∀ l : List Atm, l.length ≤ fromA l + toA l
  | [] => Nat.le_refl _
  | .k :: l => by have := atoms_le l; simp only [fromA, toA, List.length_cons]; omega
  | .d _ :: l => by have := atoms_le l; simp only [fromA, toA, List.length_cons]; omega
  | .p _ :: l => by have := atoms_le l; simp only [fromA, toA, List.length_cons]; omega
theorem steps_le : ∀ l : List Stp, (∀ s ∈ l, stpOk s) → l.length ≤ (atomsOf l).length
  | [], _ => Nat.le_refl _
  | s :: l, h => by
    have := steps_le l (fun x hx => h x (List.mem_cons_of_mem _ hx))
    have h1 : 1 ≤ s.atoms.length := by
      rw [atoms_len]
      rcases h s List.mem_cons_self with ⟨h, _, _⟩ | ⟨_, h, _⟩ | ⟨_, _, h⟩
      · omega
      · have := List.length_pos_iff.2 h; omega
      · have := List.length_pos_iff.2 h; omega
    rw [atoms_cons, List.length_append, List.length_cons]; omega
theorem snoc_cases {α : Type} (l : List α) : l = [] ∨ ∃ ys s, l = ys ++ [s] := by
  rcases List.eq_nil_or_concat l with h | ⟨ys, s, h⟩
  · exact .inl h
  · exact .inr ⟨ys, s, by simpa using h⟩
end Go.Eng

/-
  Plain facts on changes: what a change makes of a text. No condition.
-/
namespace Go.Eng
open Go
/-- what a change makes of a text; none: they are apart -/
def applyA : List UInt8 → List Atm → Option (List UInt8)
  | _, [] => some []
  | s, .p b :: l => (applyA s l).map (b :: ·)
  | c :: s, .k :: l => (applyA s l).map (c :: ·)
  | c :: s, .d b :: l => if c = b then applyA s l else none
  | [], .k :: _ => none
  | [], .d _ :: _ => none
theorem applyA_p (s : List UInt8) (b : UInt8) (l : List Atm) : applyA s (.p b :: l) = (applyA s l).map (b :: ·) := by cases s <;> rfl
theorem applyA_nil (s : List UInt8) : applyA s [] = some [] := by cases s <;> rfl
theorem applyA_ps (s : List UInt8) : ∀ (ds : List UInt8) (l : List Atm), applyA s (ds.map .p ++ l) = (applyA s l).map (ds ++ ·)
  | [], l => by simp
  | b :: ds, l => by rw [List.map_cons, List.cons_append, applyA_p, applyA_ps s ds l, Option.map_map]; rfl
theorem applyA_ks : ∀ (n : Nat) (s : List UInt8) (l : List Atm), n ≤ s.length → applyA s (List.replicate n .k ++ l) = (applyA (s.drop n) l).map (s.take n ++ ·)
  | 0, s, l, _ => by simp
  | n + 1, [], l, h => by simp at h
  | n + 1, c :: s, l, h => by
    rw [List.replicate_succ, List.cons_append, applyA, applyA_ks n s l (by simpa using h), Option.map_map]; rfl
theorem applyA_ds : ∀ (ds s : List UInt8) (l : List Atm), ds.length ≤ s.length → applyA s (ds.map .d ++ l) = if s.take ds.length = ds then applyA (s.drop ds.length) l else none
  | [], s, l, _ => by simp
  | b :: ds, [], l, h => by simp at h
  | b :: ds, c :: s, l, h => by
    rw [List.map_cons, List.cons_append, applyA, applyA_ds ds s l (by simpa using h)]
    by_cases hb : c = b
    · subst hb; simp
    · simp [hb]
end Go.Eng

/-
  Plain facts on changes: parts of a step. No condition.
-/
namespace Go.Eng
open Go
def takeS (s : Stp) (n : Nat) : Stp := if 0 < s.k then ⟨n, [], []⟩ else if s.d ≠ [] then ⟨0, s.d.take n, []⟩ else ⟨0, [], s.p.take n⟩
def dropS (s : Stp) (n : Nat) : Stp := if 0 < s.k then ⟨s.k - n, [], []⟩ else if s.d ≠ [] then ⟨0, s.d.drop n, []⟩ else ⟨0, [], s.p.drop n⟩
def restS (s : Stp) (n : Nat) (X : List Stp) : List Stp := if n = s.atoms.length then X else dropS s n :: X
end Go.Eng

/-
  Plain facts on changes: composing them by parts of steps. No condition.
-/
namespace Go.Eng
open Go
/-- what two changes come to, one behind the other -/
def compP (a b : List Stp) : Int ⊕ List Stp := match sizesOf a, sizesOf b with
  | some (_, mid), some (from_, _) => if mid ≠ from_ then .inl 5 else match compA (nfOf (gapsOf a)) (nfOf (gapsOf b)) with
    | none => .inl 270
    | some o => .inr (Bld.start.run o).close.l
  | _, _ => .inl 2
end Go.Eng

/-
  Plain facts on changes: composing, with the builder at hand. No condition.
-/
namespace Go.Eng
open Go
/-- the answer, from here on -/
def cmpT (B : Bld) (xs ys : List Atm) : Option (List Stp) := (compA xs ys).map fun o => (B.run o).close.l
theorem stp_bounds {s : Stp} (h : stpOk s) : 0 ≤ s.k ∧ s.k ≤ s.atoms.length ∧ s.d.length ≤ s.atoms.length ∧ s.p.length ≤ s.atoms.length := by
  have := atoms_len s
  rcases h with ⟨h, _, _⟩ | ⟨h, _, _⟩ | ⟨h, _, _⟩ <;> omega
/-- the bytes of what a change makes: where each was, or what was put -/
def midsA : Nat → List Atm → List (Int × UInt8)
  | _, [] => []
  | i, .k :: l => ((i : Int), 0) :: midsA (i + 1) l
  | i, .d _ :: l => midsA (i + 1) l
  | i, .p c :: l => (-1, c) :: midsA i l
def bytesA : List Atm → List UInt8
  | [] => []
  | .k :: l => 0 :: bytesA l
  | .d c :: l => c :: bytesA l
  | .p _ :: l => bytesA l
/-- the bytes that are made, up to a place -/
def midsTo (P : List (List UInt8)) (D : List Bool) : Nat → List (Int × UInt8)
  | 0 => []
  | p + 1 => midsTo P D p ++ (P.getD p []).map (fun c => (-1, c)) ++ (if D.getD p true = false then [((p : Int), 0)] else [])
end Go.Eng

/-
  Plain facts on changes: two changes carried over each other. No condition.
-/
namespace Go.Eng
open Go
/-- two changes byte by byte, carried over each other; none: they are apart -/
def carA : List Atm → List Atm → Option (List Atm × List Atm)
  | .p b :: xs, ys => (carA xs ys).map fun o => (.p b :: o.1, .k :: o.2)
  | [], .p b :: ys => (carA [] ys).map fun o => (.k :: o.1, .p b :: o.2)
  | .k :: xs, .p b :: ys => (carA (.k :: xs) ys).map fun o => (.k :: o.1, .p b :: o.2)
  | .d c :: xs, .p b :: ys => (carA (.d c :: xs) ys).map fun o => (.k :: o.1, .p b :: o.2)
  | .k :: xs, .k :: ys => (carA xs ys).map fun o => (.k :: o.1, .k :: o.2)
  | .d b :: xs, .k :: ys => (carA xs ys).map fun o => (.d b :: o.1, o.2)
  | .k :: xs, .d b :: ys => (carA xs ys).map fun o => (o.1, .d b :: o.2)
  | .d b :: xs, .d c :: ys => if b = c then carA xs ys else none
  | [], [] => some ([], [])
  | [], .k :: _ => some ([], [])
  | [], .d _ :: _ => some ([], [])
  | .k :: _, [] => some ([], [])
  | .d _ :: _, [] => some ([], [])
termination_by xs ys => xs.length + ys.length
/-- the answer, from here on, with both builders at hand -/
def carT (U V : Bld) (n : Nat) (xs ys : List Atm) : Option (List Stp × List Stp × Nat) := (carA xs ys).map fun o => ((U.run o.1).close.l, (V.run o.2).close.l, n + toA o.1)
/-- what two changes carried over each other come to -/
def carP (a b : List Stp) : Int ⊕ (List Stp × List Stp) := match sizesOf a, sizesOf b with
  | some (from_, _), some (same, _) => if from_ ≠ same then .inl 5 else match carT Bld.start Bld.start 0 (nfOf (gapsOf a)) (nfOf (gapsOf b)) with
    | none => .inl 270
    | some (u, v, n) => if 65536 < n then .inl 3 else .inr (u, v)
  | _, _ => .inl 2
end Go.Eng

/-
  Plain facts on changes: carried over each other they come to one text; one behind the other the same. No condition.
-/
namespace Go.Eng
open Go
/-- what a change makes does not depend on the order of what is put and dropped -/
theorem apply_congr (X Y : List Atm) (h : ∀ s, applyA s X = applyA s Y) : ∀ (pre : List Atm) (s : List UInt8), applyA s (pre ++ X) = applyA s (pre ++ Y)
  | [], s => h s
  | .p b :: pre, s => by rw [List.cons_append, List.cons_append, applyA_p, applyA_p, apply_congr X Y h pre s]
  | .k :: pre, [] => rfl
  | .k :: pre, c :: s => by rw [List.cons_append, List.cons_append, applyA, applyA, apply_congr X Y h pre s]
  | .d b :: pre, [] => rfl
  | .d b :: pre, c :: s => by rw [List.cons_append, List.cons_append, applyA, applyA, apply_congr X Y h pre s]
theorem applyA_dc (c b : UInt8) (s : List UInt8) (l : List Atm) : applyA (c :: s) (.d b :: l) = if c = b then applyA s l else none := rfl
theorem apply_swap (c : UInt8) (L : List Atm) : ∀ (ds s : List UInt8), applyA s (ds.map .d ++ .p c :: L) = applyA s (.p c :: (ds.map .d ++ L))
  | [], s => rfl
  | b :: ds, [] => by rw [applyA_p]; rfl
  | b :: ds, e :: s => by
    rw [List.map_cons, List.cons_append, List.cons_append, applyA_dc, apply_swap c L ds s, applyA_p, applyA_p, applyA_dc]
    split <;> rfl
theorem apply_atom (g : Gs) (a : Atm) (L : List Atm) (s : List UInt8) : applyA s (nfOf (g.atom a) ++ L) = applyA s (nfOf g ++ a :: L) := by
  cases a with
  | k => simp [Gs.atom, nfOf, gapA]
  | d c => simp [Gs.atom, nfOf, gapA]
  | p c =>
    simp only [Gs.atom, nfOf, gapA, List.map_append, List.map_cons, List.map_nil, List.append_assoc, List.cons_append, List.nil_append]
    rw [← List.append_assoc, ← List.append_assoc (g.done.flatMap _)]
    exact apply_congr _ _ (fun s => (apply_swap c L g.cur.d s).symm) _ s
theorem apply_run : ∀ (L : List Atm) (g : Gs) (s : List UInt8), applyA s (nfOf (g.run L)) = applyA s (nfOf g ++ L)
  | [], g, s => by rw [List.append_nil]; rfl
  | a :: L, g, s => by
    rw [show g.run (a :: L) = (g.atom a).run L from rfl, apply_run L (g.atom a) s, apply_atom]
theorem apply_start (L : List Atm) (s : List UInt8) : applyA s (nfOf (Gs.start.run L)) = applyA s L := apply_run L Gs.start s
theorem apply_nf (l : List Stp) (h : ∀ s ∈ l, stpOk s) (s : List UInt8) : applyA s (nfOf (gapsOf l)) = applyA s (atomsOf l) := by rw [gapsOf_run l h, apply_start]
/-- the builder over bytes is the builder over gaps -/
theorem bld_atom (g : Gs) (a : Atm) : (bldGs g).atom a = bldGs (g.atom a) := by
  cases a with
  | k => simp [Bld.atom, bldGs, Gs.atom, bldGap]
  | d c => simp [Bld.atom, bldGs, Gs.atom]
  | p c => simp [Bld.atom, bldGs, Gs.atom]
theorem bld_run : ∀ (L : List Atm) (g : Gs), (bldGs g).run L = bldGs (g.run L)
  | [], _ => rfl
  | a :: L, g => by
    rw [show g.run (a :: L) = (g.atom a).run L from rfl, ← bld_run L (g.atom a), ← bld_atom]; rfl
theorem start_run (L : List Atm) : Bld.start.run L = bldGs (Gs.start.run L) := bld_run L Gs.start
/-- the list that a builder makes of bytes -/
def listOf (L : List Atm) : List Stp := (Bld.start.run L).close.l
theorem list_ok (L : List Atm) : (∀ s ∈ listOf L, stpOk s) ∧ atomsOf (listOf L) = nfOf (Gs.start.run L) := by
  unfold listOf
  rw [start_run]
  exact ⟨close_ok _ (bldGs_atoms _).2, by rw [close_atoms, (bldGs_atoms _).1]⟩
theorem list_sizes (L : List Atm) : fromA (atomsOf (listOf L)) = fromA L ∧ toA (atomsOf (listOf L)) = toA L := by
  obtain ⟨h1, h2⟩ := nf_run L Gs.start
  rw [(list_ok L).2, h1, h2]
  simp [Gs.start, nfOf, gapA, fromA, toA]
theorem plain_list (l : List Stp) : plainOf l = listOf (nfOf (gapsOf l)) := plain_run l
/-- sizes of a change that may be, the other way round -/
theorem sizesF_of : ∀ (l : List Stp) (f t : Int), (∀ s ∈ l, stpOk s) → 0 ≤ f → 0 ≤ t → f + (fromA (atomsOf l) : Int) ≤ maxT → t + (toA (atomsOf l) : Int) ≤ maxT → sizesF l f t = some (f + (fromA (atomsOf l) : Int), t + (toA (atomsOf l) : Int))
  | [], f, t, _, _, _, _, _ => by simp [sizesF, atomsOf, fromA, toA]
  | s :: l, f, t, h, h1, h2, h3, h4 => by
    have hs := h s List.mem_cons_self
    have hk : 0 ≤ s.k := by rcases hs with ⟨h, _, _⟩ | ⟨h, _, _⟩ | ⟨h, _, _⟩ <;> omega
    rw [atoms_cons] at h3 h4 ⊢
    rw [fromA_append, from_step] at h3 ⊢
    rw [toA_append, to_step] at h4 ⊢
    rw [sizesF, if_pos ⟨hs, by omega, by omega, by omega⟩, sizesF_of l _ _ (fun x hx => h x (List.mem_cons_of_mem _ hx)) (by omega) (by omega) (by omega) (by omega)]
    simp only [Option.some.injEq, Prod.mk.injEq]
    omega
theorem sizesOf_of {l : List Stp} (h : ∀ s ∈ l, stpOk s) (h1 : fromA (atomsOf l) ≤ 65536) (h2 : toA (atomsOf l) ≤ 65536) : sizesOf l = some ((fromA (atomsOf l) : Int), (toA (atomsOf l) : Int)) := by
  unfold sizesOf
  rw [sizesF_of l 0 0 h (by omega) (by omega) (by unfold maxT; omega) (by unfold maxT; omega)]
  simp
theorem sizes_list (L : List Atm) (h1 : fromA L ≤ 65536) (h2 : toA L ≤ 65536) : sizesOf (listOf L) = some ((fromA L : Int), (toA L : Int)) := by
  obtain ⟨e1, e2⟩ := list_sizes L
  rw [sizesOf_of (list_ok L).1 (by omega) (by omega), e1, e2]
theorem apply_list (L : List Atm) (s : List UInt8) : applyA s (atomsOf (listOf L)) = applyA s L := by rw [(list_ok L).2, apply_start]
/-- how many bytes a change makes of a text -/
theorem apply_len : ∀ (A : List Atm) (s t : List UInt8), applyA s A = some t → t.length = toA A
  | [], s, t, h => by rw [applyA_nil] at h; cases h; rfl
  | .p b :: A, s, t, h => by
    rw [applyA_p] at h
    obtain ⟨t', h', rfl⟩ := Option.map_eq_some_iff.1 h
    simp [toA, apply_len A s t' h']
  | .k :: A, [], t, h => by cases h
  | .k :: A, c :: s, t, h => by
    rw [applyA] at h
    obtain ⟨t', h', rfl⟩ := Option.map_eq_some_iff.1 h
    simp [toA, apply_len A s t' h']
  | .d b :: A, [], t, h => by cases h
  | .d b :: A, c :: s, t, h => by
    rw [applyA] at h
    split at h
    · simpa [toA] using apply_len A s t h
    · cases h
end Go.Eng

/-
  Plain facts on changes: how much composing and carrying make. No condition.
-/
namespace Go.Eng
open Go
end Go.Eng

/-
  Plain facts on changes that are said and made plain. No condition.
-/
namespace Go.Eng
open Go
end Go.Eng

/-
  Plain facts on changes: turned about; their one form. No condition.
-/
namespace Go.Eng
open Go
def Atm.inv : Atm → Atm
  | .k => .k
  | .d b => .p b
  | .p b => .d b
def Stp.inv (s : Stp) : Stp := ⟨s.k, s.p, s.d⟩
def Gap.inv (g : Gap) : Gap := ⟨g.d, g.p⟩
def Gs.inv (g : Gs) : Gs := ⟨g.done.map Gap.inv, g.cur.inv⟩
theorem inv_ok {s : Stp} (h : stpOk s) : stpOk s.inv := by
  rcases h with ⟨h1, h2, h3⟩ | ⟨h1, h2, h3⟩ | ⟨h1, h2, h3⟩
  · exact .inl ⟨h1, h3, h2⟩
  · exact .inr (.inr ⟨h1, h3, h2⟩)
  · exact .inr (.inl ⟨h1, h3, h2⟩)
theorem inv_atoms {s : Stp} (h : stpOk s) : s.inv.atoms = s.atoms.map Atm.inv := by
  have hk : ∀ n, (List.replicate n Atm.k).map Atm.inv = List.replicate n Atm.k := fun n => by simp [Atm.inv]
  have hd : ∀ l : List UInt8, (l.map Atm.d).map Atm.inv = l.map Atm.p := fun l => by rw [List.map_map]; rfl
  have hp : ∀ l : List UInt8, (l.map Atm.p).map Atm.inv = l.map Atm.d := fun l => by rw [List.map_map]; rfl
  rcases h with ⟨h1, h2, h3⟩ | ⟨h1, h2, h3⟩ | ⟨h1, h2, h3⟩ <;> simp only [Stp.atoms, Stp.inv, h1, h2, h3, List.map_append, hk, hd, hp, List.map_nil, List.append_nil, List.nil_append]
  all_goals simp
theorem inv_from : ∀ L : List Atm, fromA (L.map Atm.inv) = toA L ∧ toA (L.map Atm.inv) = fromA L
  | [] => ⟨rfl, rfl⟩
  | .k :: L => by simp [Atm.inv, fromA, toA, inv_from L]
  | .d _ :: L => by simp [Atm.inv, fromA, toA, inv_from L]
  | .p _ :: L => by simp [Atm.inv, fromA, toA, inv_from L]
/-- what is turned about undoes it -/
theorem inv_apply : ∀ (L : List Atm) (s t : List UInt8), applyA s L = some t → fromA L = s.length → applyA t (L.map Atm.inv) = some s
  | [], s, t, h, hf => by
    rw [applyA_nil] at h
    cases h
    rw [List.map_nil, applyA_nil, List.eq_nil_of_length_eq_zero hf.symm]
  | .p b :: L, s, t, h, hf => by
    rw [applyA_p] at h
    obtain ⟨t', h', rfl⟩ := Option.map_eq_some_iff.1 h
    rw [List.map_cons, show Atm.inv (.p b) = .d b from rfl, applyA_dc, if_pos rfl]
    exact inv_apply L s t' h' hf
  | .k :: L, [], t, h, hf => by cases h
  | .k :: L, c :: s, t, h, hf => by
    rw [applyA] at h
    obtain ⟨t', h', rfl⟩ := Option.map_eq_some_iff.1 h
    rw [List.map_cons, show Atm.inv .k = .k from rfl, applyA, inv_apply L s t' h' (by simpa [fromA] using hf)]; rfl
  | .d b :: L, [], t, h, hf => by cases h
  | .d b :: L, c :: s, t, h, hf => by
    rw [applyA_dc] at h
    split at h
    · rename_i hc
      subst hc
      rw [List.map_cons, show Atm.inv (.d c) = .p c from rfl, applyA_p, inv_apply L s t h (by simpa [fromA] using hf)]; rfl
    · cases h
/-- the one form makes the same -/
theorem plain_apply (l : List Stp) (h : ∀ s ∈ l, stpOk s) (s : List UInt8) : applyA s (atomsOf (plainOf l)) = applyA s (atomsOf l) := by rw [plain_atoms, apply_nf l h]
theorem plain_sizes {l : List Stp} {f t : Int} (hs : sizesOf l = some (f, t)) : sizesOf (plainOf l) = some (f, t) := by
  obtain ⟨h1, h2, h3, h4, h5⟩ := sizesOf_some hs
  have hok : ∀ s ∈ l, stpOk s := fun s hs => (h1 s hs).1
  obtain ⟨n1, n2⟩ := nf_sizes l hok
  unfold maxT at h4 h5
  rw [sizesOf_of (plain_ok l) (by rw [plain_atoms]; omega) (by rw [plain_atoms]; omega), plain_atoms, n1, n2, h2, h3]
theorem applyA_kc (c : UInt8) (s : List UInt8) (l : List Atm) : applyA (c :: s) (.k :: l) = (applyA s l).map (c :: ·) := rfl
end Go.Eng

/-
  What a change between two lists of tokens does. No condition.
-/
namespace Go.Eng
open Go
theorem apply_puts (s : List UInt8) (L : List Atm) : ∀ t : List UInt8, applyA s (t.map .p ++ L) = (applyA s L).map (t ++ ·)
  | [] => by cases h : applyA s L <;> simp [h]
  | b :: t => by
    rw [List.map_cons, List.cons_append, applyA_p, apply_puts s L t]
    cases applyA s L <;> rfl
theorem apply_drops (s : List UInt8) (L : List Atm) : ∀ t : List UInt8, applyA (t ++ s) (t.map .d ++ L) = applyA s L
  | [] => rfl
  | b :: t => by rw [List.map_cons, List.cons_append, List.cons_append, applyA_dc, if_pos rfl, apply_drops s L t]
theorem apply_keeps (s : List UInt8) (L : List Atm) : ∀ t : List UInt8, applyA (t ++ s) (List.replicate t.length .k ++ L) = (applyA s L).map (t ++ ·)
  | [] => by cases h : applyA s L <;> simp [h]
  | b :: t => by
    rw [List.length_cons, List.replicate_succ, List.cons_append, List.cons_append, applyA_kc, apply_keeps s L t]
    cases applyA s L <;> rfl
/-- a text that is put, if there is one -/
def putT (t : List UInt8) : List Stp := if t = [] then [] else [⟨0, [], t⟩]
def dropT (t : List UInt8) : List Stp := if t = [] then [] else [⟨0, t, []⟩]
def keepT (t : List UInt8) : List Stp := [⟨(t.length : Int), [], []⟩]
theorem putT_atoms (t : List UInt8) : atomsOf (putT t) = t.map .p := by
  unfold putT
  split
  · next h => rw [h]; rfl
  · simp [atomsOf, Stp.atoms]
theorem dropT_atoms (t : List UInt8) : atomsOf (dropT t) = t.map .d := by
  unfold dropT
  split
  · next h => rw [h]; rfl
  · simp [atomsOf, Stp.atoms]
theorem keepT_atoms (t : List UInt8) : atomsOf (keepT t) = List.replicate t.length .k := by
  simp [keepT, atomsOf, Stp.atoms]
theorem putT_ok {t : List UInt8} {x : Stp} (h : x ∈ putT t) : stpOk x := by
  unfold putT at h
  split at h
  · cases h
  · next h1 => rw [List.mem_singleton] at h; subst h; exact .inr (.inr ⟨rfl, rfl, h1⟩)
theorem dropT_ok {t : List UInt8} {x : Stp} (h : x ∈ dropT t) : stpOk x := by
  unfold dropT at h
  split at h
  · cases h
  · next h1 => rw [List.mem_singleton] at h; subst h; exact .inr (.inl ⟨rfl, h1, rfl⟩)
theorem keepT_ok {t : List UInt8} {x : Stp} (ht : t ≠ []) (h : x ∈ keepT t) : stpOk x := by
  unfold keepT at h
  rw [List.mem_singleton] at h
  subst h
  have := List.length_pos_iff.2 ht
  exact .inl ⟨by simp only; omega, rfl, rfl⟩
/-- the steps of a change between two lists -/
def chGo (x y : List Tx) : List (Nat × Nat) → Nat → Nat → List Stp
  | [], i, k => putT (jn y k y.length) ++ dropT (jn x i x.length)
  | p :: l, i, k => putT (jn y k p.2) ++ (dropT (jn x i p.1) ++ (keepT (x.getD p.1 []) ++ chGo x y l (p.1 + 1) (p.2 + 1)))
theorem chGo_cons {x y : List Tx} {p : Nat × Nat} {l : List (Nat × Nat)} {i k : Nat} : chGo x y (p :: l) i k = putT (jn y k p.2) ++ (dropT (jn x i p.1) ++ (keepT (x.getD p.1 []) ++ chGo x y l (p.1 + 1) (p.2 + 1))) := rfl
theorem putT_le (t : List UInt8) : (putT t).length ≤ 1 := by unfold putT; split <;> simp
theorem dropT_le (t : List UInt8) : (dropT t).length ≤ 1 := by unfold dropT; split <;> simp
def chL (s t : List UInt8) : List Stp := chGo (toks s) (toks t) (matchL (toks s) (toks t)) 0 0
theorem jn_split {x : List Tx} {i n : Nat} (h : i ≤ n) : (x.drop i).flatten = jn x i n ++ (x.drop n).flatten := by
  unfold jn
  rw [← List.flatten_append]
  congr 1
  rw [List.drop_take, show x.drop n = (x.drop i).drop (n - i) by rw [List.drop_drop]; congr 1; omega, List.take_append_drop]
theorem jn_toEnd {x : List Tx} {i : Nat} : jn x i x.length = (x.drop i).flatten := by unfold jn; rw [List.take_length]
theorem drop_tok {x : List Tx} {n : Nat} {t : Tx} (h : x[n]? = some t) : (x.drop n).flatten = t ++ (x.drop (n + 1)).flatten := by
  obtain ⟨h1, h2⟩ := List.getElem?_eq_some_iff.1 h
  rw [List.drop_eq_getElem_cons h1, h2, List.flatten_cons]
theorem getD_of {x : List Tx} {n : Nat} {t : Tx} (h : x[n]? = some t) : x.getD n [] = t := by rw [List.getD_eq_getElem?_getD, h]; rfl
theorem ch_apply {x y : List Tx} : ∀ (l : List (Nat × Nat)) (i k : Nat), PrOk x y i k l x.length y.length → applyA (x.drop i).flatten (atomsOf (chGo x y l i k)) = some (y.drop k).flatten
  | [], i, k, _ => by
    rw [chGo, atoms_append, putT_atoms, dropT_atoms, jn_toEnd, jn_toEnd, apply_puts]
    have := apply_drops [] [] (x.drop i).flatten
    rw [List.append_nil, List.append_nil] at this
    rw [this, applyA_nil]
    simp
  | p :: l, i, k, ⟨h1, h2, h3, h4, ⟨t, e1, e2⟩, h6⟩ => by
    have ih := ch_apply l (p.1 + 1) (p.2 + 1) h6
    rw [chGo, atoms_append, atoms_append, atoms_append, putT_atoms, dropT_atoms, keepT_atoms, getD_of e1, apply_puts, jn_split h1, apply_drops, drop_tok e1, apply_keeps, ih, jn_split h2, drop_tok e2]
    rfl
theorem ch_from {x y : List Tx} : ∀ (l : List (Nat × Nat)) (i k : Nat), PrOk x y i k l x.length y.length → fromA (atomsOf (chGo x y l i k)) = (x.drop i).flatten.length
  | [], i, k, _ => by
    rw [chGo, atoms_append, putT_atoms, dropT_atoms, fromA_append, fromA_p, fromA_d, Nat.zero_add, jn_toEnd]
  | p :: l, i, k, ⟨h1, h2, h3, h4, ⟨t, e1, e2⟩, h6⟩ => by
    have ih := ch_from l (p.1 + 1) (p.2 + 1) h6
    rw [chGo, atoms_append, atoms_append, atoms_append, putT_atoms, dropT_atoms, keepT_atoms, getD_of e1, fromA_append, fromA_append, fromA_append, fromA_p, fromA_d, fromA_k, ih, jn_split h1, drop_tok e1]
    simp only [List.length_append]; omega
theorem ch_ok {x y : List Tx} (hx : ∀ t ∈ x, t ≠ []) : ∀ (l : List (Nat × Nat)) (i k : Nat), PrOk x y i k l x.length y.length → ∀ s ∈ chGo x y l i k, stpOk s
  | [], i, k, _, s, hs => by
    rw [chGo] at hs
    rcases List.mem_append.1 hs with hs | hs
    · exact putT_ok hs
    · exact dropT_ok hs
  | p :: l, i, k, ⟨h1, h2, h3, h4, ⟨t, e1, e2⟩, h6⟩, s, hs => by
    rw [chGo, getD_of e1] at hs
    rcases List.mem_append.1 hs with hs | hs
    · exact putT_ok hs
    rcases List.mem_append.1 hs with hs | hs
    · exact dropT_ok hs
    rcases List.mem_append.1 hs with hs | hs
    · exact keepT_ok (hx t (List.mem_of_getElem? e1)) hs
    · exact ch_ok hx l _ _ h6 s hs
theorem chL_apply (s t : List UInt8) : applyA s (atomsOf (chL s t)) = some t := by
  have := ch_apply _ 0 0 (match_ok (toks s) (toks t))
  rw [List.drop_zero, List.drop_zero, toks_join, toks_join] at this
  exact this
theorem chL_ok (s t : List UInt8) : ∀ x ∈ chL s t, stpOk x := ch_ok (toks_some s) _ 0 0 (match_ok (toks s) (toks t))
theorem chL_sizes {s t : List UInt8} (hs : s.length ≤ 65536) (ht : t.length ≤ 65536) : sizesOf (chL s t) = some ((s.length : Int), (t.length : Int)) := by
  have h1 := ch_from _ 0 0 (match_ok (toks s) (toks t))
  rw [List.drop_zero, toks_join] at h1
  have h2 := apply_len _ _ _ (chL_apply s t)
  have h3 : fromA (atomsOf (chL s t)) = s.length := h1
  rw [sizesOf_of (chL_ok s t) (by omega) (by omega), h3, ← h2]
end Go.Eng

/-
  A walk's engine, sixteenth part: how a law's arguments are read, ahead of the call and behind it. No condition.
-/
set_option linter.all false
namespace Go.Eng
open Go Go.RowKit Go.ChangeShapes Go.WideShapes Go.ChangeMaps
section
variable {H : Type} {enc : TypeId × Value → H} {P : Program}
theorem same_below {W W' : World} (hb : Below W.heap.size W W') {p : MemPlace} (hp : p.block < W.heap.size) : W.sameAt W' p := by
  cases p with
  | cell b off =>
    have h := hb.block b hp
    show W'.cell? ⟨b, off, none⟩ = W.cell? ⟨b, off, none⟩
    simp only [World.cell?, h]
  | map b => exact hb.block b hp
theorem trod_again {W W' : World} {sp : Nat → Bool} {t : TypeId} {v : Value} {d : DataW H} {p : List MemPlace} (hl : laidOutB P = true) (ht : t < P.types.size) (hr : P.readableRec t = true)
    (h : DataW.Trod enc P W 0 (fun _ => true) true t v d p) (hlt : ∀ q ∈ p, q.block < W.heap.size) (hb : Below W.heap.size W W') (hs : ∀ q ∈ p, sp q.block = true) : DataW.Trod enc P W' 0 sp true t v d p := by
  obtain ⟨n, hn⟩ := h
  have h1 := DataW.trod_carry (w' := W') n _ _ _ hn (fun q hq => same_below hb (hlt q hq))
  exact ⟨n, DataW.trod_respare (kids_book hl hr) (fun t e hT hu => book_sized hr hT hu) n _ _ _ ⟨ht, book_self t⟩ h1 hs⟩
theorem args_again {W W' : World} {sp : Nat → Bool} (hl : laidOutB P = true) (hb : Below W.heap.size W W') : ∀ {ts : List TypeId} {vs : List Value} {ds : List (DataW H)} {p : List MemPlace},
    (∀ t ∈ ts, t < P.types.size ∧ P.readableRec t = true) → DataW.TrodAll enc P W 0 (fun _ => true) true ts vs ds p → (∀ q ∈ p, sp q.block = true) → DataW.TrodAll enc P W' 0 sp true ts vs ds p
  | [], [], [], _, _, h, _ => h
  | t :: ts, v :: vs, d :: ds, p, hts, h, hs => by
    have hlt := DataW.TrodAll.lt h
    obtain ⟨a, b, h1, h2, e⟩ := h
    subst e
    obtain ⟨g1, g2⟩ := hts t List.mem_cons_self
    exact ⟨a, b, trod_again hl g1 g2 h1 (fun q hq => hlt q (List.mem_append_left _ hq)) hb (fun q hq => hs q (List.mem_append_left _ hq)),
      args_again hl hb (fun t ht => hts t (List.mem_cons_of_mem _ ht)) h2 (fun q hq => hs q (List.mem_append_right _ hq)), rfl⟩
/-- a law that says true, and leaves all that it was handed -/
theorem post_true {f : Func} {s : ChangeSpec} {apart fresh handsOn again : Bool} {W W' : World} {args : Array Value} {ds gs : List (DataW H)} {before : List MemPlace} {tb : TypeId}
    (hW : DataW.Whole enc P f.params.toList s.vars apart W args.toList ds gs before) (hvars : s.vars = []) (hfn : s.fn H (ds ++ gs) = { results := [.lit (.bool true)], args := ds })
    (hres : f.resultTypes = #[tb]) (htb : P.underlying tb = some .bool) (hl : laidOutB P = true) (hts : (f.params.toList.all fun t => decide (t < P.types.size) && P.readableRec t) = true) (hb : Below W.heap.size W W') :
    s.post enc P f apart fresh handsOn again W args (.bool true) W' := by
  have hW2 := hW
  obtain ⟨p, q, hA, hV, e, _, _⟩ := hW
  rw [hvars] at hV
  obtain ⟨rfl, rfl⟩ := trodVars_none hV
  rw [List.append_nil] at e
  subst e
  have hts' : ∀ t ∈ f.params.toList, t < P.types.size ∧ P.readableRec t = true := fun t ht => by simpa using List.all_eq_true.1 hts t ht
  refine post_below (pa := before) (pv := []) hW2 (fun _ _ _ => ?_) (fun sp hs => ?_) (fun _ _ => ?_) (by simp) hb ?_
  · rw [hfn, hres]; exact trodAll_cons_mk (shut_bool htb _) trodAll_mk0
  · rw [hfn]; exact args_again hl hb hts' hA hs
  · rw [hfn, hvars]; rfl
  · intro j t r h1 h2
    rw [hres] at h1 h2
    match j, h1 with
    | 0, h1 =>
      simp at h1; subst h1
      simp [Value.resultList] at h2
      subst h2
      exact okWide_bool_mk htb _
/-- a slice that came in, of elements of one cell -/
theorem RowR.came {w0 W : World} {Hp : SHeap} {sz : Nat} {a : Option Addr} {es : List (List Value)} (h1 : ∀ e ∈ es, e.length = sz)
    (h2 : match a with | .none => es = [] | .some b => ∀ j v, es.flatten[j]? = .some v → W.cell? (b.add j) = .some v) : RowR w0 (memOf W) Hp sz a es := by
  intro w hs
  refine ⟨h1, ?_⟩
  cases a with
  | none => exact h2
  | some b =>
    intro j v hj
    have hc := h2 j v hj
    generalize b.add j = c at hc ⊢
    obtain ⟨b, o, s⟩ := c
    cases hh : W.heap[b]? with
    | none => cases s <;> simp [World.cell?, hh] at hc
    | some ob =>
      have := hs.pers b ob hh
      cases s <;> simpa [World.cell?, this, hh] using hc
end
end Go.Eng

