/-
  Parts of a walk, joined: D14 D15 D16 D17 EngMD D18 DT8 D19 EngIX D50 D51 EngQ. No condition.
-/
import Derived.Test.YtgckeelnhafgaaaGreatDoorP4
import Derived.Test.YtgckeelnhafgaaaGreatDoorP6
import Derived.Test.YtgckeelnhafgaaaGreatDoorP5
import Derived.Test.YtgckeelnhafgaaaGreatDoorP2
import Derived.ChangeMaps5
import Derived.ReadAgain
import Derived.ChangeBook
import Derived.Deep.Slices
import Derived.WalkKit
import Derived.ProofKit
import Derived.OpenShut
import Derived.JoinedCond
set_option linter.all false
/-
  The walk of draft.Weave's side. No condition.
-/
namespace Go.Eng
open Go Go.RowKit
theorem Does.gives_memD {P : Program} {w0 : World} {m : Mem} {H : SHeap} {f : FuncId} {args : Array Value} {v : Value} {i : Item} (hm : i ∈ H) (h : ∀ H1, Does P f args w0 m (i :: H1) (Gives v m (i :: H1))) : Does P f args w0 m H (Gives v m H) := by
  intro w hs
  obtain ⟨H1, hp⟩ := hs.at_ hm
  refine (h H1 w (hs.perm hp)).mono ?_
  rintro e w' ⟨v', m', H', he, ⟨rfl, rfl, rfl⟩, hs'⟩
  exact ⟨_, _, _, he, ⟨rfl, rfl, rfl⟩, hs'.perm hp.symm⟩
/-- conflicts' cells -/
def cfs (l : List Cf) : List (List Value) := l.map Cf.cs
theorem cfs_length (l : List Cf) : (cfs l).length = l.length := List.length_map _
end Go.Eng
namespace Go.Proofs.YtgckeelnhafgaaaGreatDoor
open Go Go.Eng
set_option maxRecDepth 100000
set_option maxHeartbeats 4000000
set_option linter.all false
attribute [local irreducible] WL WC WQ QFun QLoop Does Q1 QRound QAssign Go.Addr.add
theorem bLen_mem {b cap : Nat} {ao a : Option Addr} {t : List UInt8} {w0 : World} {m : Mem} {H : SHeap} (hm : Eng.Item.blk b (.cells [.pointer ao, .slice a t.length cap].toArray 111 (0, 0)) ∈ H) :
    Does Tryz.prog 70 #[.pointer (some ⟨b, 0, none⟩)] w0 m H (Gives (.int .i64 (t.length : Int)) m H) := Does.gives_memD hm fun H1 => bLen_any w0 m H1
attribute [local irreducible] jn strs bCs cfs
theorem sq_D14_1 {G : Prop} (h : G := by (repeat (first | (refine sp ?_; (repeat intro zzc)) | (refine WL.append1 (by':=64) rfl rfl rfl rfl (by (repeat (first | exact Out.here | apply Out.there))) zhs (by exact rfl) (by exact rfl) (by exact rfl) (by exact rfl) (by exact rfl) (by exact rfl) (by first | exact rfl | omega) (by first | omega | (simp; omega)) (by decide) (by exact rfl) ?_; intro zzc zzc) | (refine WL.indexAddrA rfl rfl (by (first | with_reducible exact natz _ | with_reducible exact natz0 | with_reducible exact natz1 | with_reducible exact natz2 | with_reducible exact natz3 | with_reducible exact natz4 | with_reducible exact natz8 | (apply natz_add; (· first | with_reducible exact natz _ | with_reducible exact natz0 | with_reducible exact natz1 | with_reducible exact natz2 | with_reducible exact natz3 | with_reducible exact natz4 | with_reducible exact natz8); (· first | with_reducible exact natz _ | with_reducible exact natz0 | with_reducible exact natz1 | with_reducible exact natz2 | with_reducible exact natz3 | with_reducible exact natz4 | with_reducible exact natz8)) | (apply natz_sub; (· first | with_reducible exact natz _ | with_reducible exact natz0 | with_reducible exact natz1 | with_reducible exact natz2 | with_reducible exact natz3 | with_reducible exact natz4 | with_reducible exact natz8); (· first | with_reducible exact natz _ | with_reducible exact natz0 | with_reducible exact natz1 | with_reducible exact natz2 | with_reducible exact natz3 | with_reducible exact natz4 | with_reducible exact natz8); (· omega)) | exact (Int.toNat_of_nonneg (by omega)).symm)) rfl rfl (by omega) rfl rfl ?_))); exact WQ.q1 rfl) : G := h
theorem cm_D14_1 {G G' : Prop} (next : G') (h : Bx G' → G := by intro zzn; (try (refine wcal 0 ?_ (hwl := by intro zm zF zle; exact sq_D14_1))); (try (refine wcal 1 ?_ (hwl := by intro zm zF zle; exact sq_D14_1))); (try (refine wcal 2 ?_ (hwl := by intro zm zF zle; exact sq_D14_1))); (try (refine wcal 3 ?_ (hwl := by intro zm zF zle; exact sq_D14_1))); (try (refine wcal 4 ?_ (hwl := by intro zm zF zle; exact sq_D14_1))); (try (refine wcal 5 ?_ (hwl := by intro zm zF zle; exact sq_D14_1))); (try (refine wcal 6 ?_ (hwl := by intro zm zF zle; exact sq_D14_1))); (try (refine wcal 7 ?_ (hwl := by intro zm zF zle; exact sq_D14_1))); (try (refine wcal 8 ?_ (hwl := by intro zm zF zle; exact sq_D14_1))); (try (refine wcal 9 ?_ (hwl := by intro zm zF zle; exact sq_D14_1))); (try (refine wcal 10 ?_ (hwl := by intro zm zF zle; exact sq_D14_1))); (try (refine wcal 11 ?_ (hwl := by intro zm zF zle; exact sq_D14_1))); (try (refine wcal 12 ?_ (hwl := by intro zm zF zle; exact sq_D14_1))); (try (refine wcal 13 ?_ (hwl := by intro zm zF zle; exact sq_D14_1))); (try (refine wcal 14 ?_ (hwl := by intro zm zF zle; exact sq_D14_1))); (try (refine wcal 15 ?_ (hwl := by intro zm zF zle; exact sq_D14_1))); (try (refine wcal 16 ?_ (hwl := by intro zm zF zle; exact sq_D14_1))); (try (refine wcal 17 ?_ (hwl := by intro zm zF zle; exact sq_D14_1))); (try (refine wcal 18 ?_ (hwl := by intro zm zF zle; exact sq_D14_1))); (try (refine wcal 19 ?_ (hwl := by intro zm zF zle; exact sq_D14_1))); (try (refine wcal 20 ?_ (hwl := by intro zm zF zle; exact sq_D14_1))); (try (refine wcal 21 ?_ (hwl := by intro zm zF zle; exact sq_D14_1))); (try (refine wcal 22 ?_ (hwl := by intro zm zF zle; exact sq_D14_1))); (try (refine wcal 23 ?_ (hwl := by intro zm zF zle; exact sq_D14_1))); (try (refine wcal 24 ?_ (hwl := by intro zm zF zle; exact sq_D14_1))); (try (refine wcal 25 ?_ (hwl := by intro zm zF zle; exact sq_D14_1))); (try (refine wcal 26 ?_ (hwl := by intro zm zF zle; exact sq_D14_1))); (try (refine wcal 27 ?_ (hwl := by intro zm zF zle; exact sq_D14_1))); (try (refine wcal 28 ?_ (hwl := by intro zm zF zle; exact sq_D14_1))); (try (refine wcal 29 ?_ (hwl := by intro zm zF zle; exact sq_D14_1))); (try (refine wcal 30 ?_ (hwl := by intro zm zF zle; exact sq_D14_1))); (try (refine wcal 31 ?_ (hwl := by intro zm zF zle; exact sq_D14_1))); (try (refine wcal 32 ?_ (hwl := by intro zm zF zle; exact sq_D14_1))); (try (refine wcal 33 ?_ (hwl := by intro zm zF zle; exact sq_D14_1))); (try (refine wcal 34 ?_ (hwl := by intro zm zF zle; exact sq_D14_1))); (try (refine wcal 35 ?_ (hwl := by intro zm zF zle; exact sq_D14_1))); (try (refine wcal 36 ?_ (hwl := by intro zm zF zle; exact sq_D14_1))); (try (refine wcal 37 ?_ (hwl := by intro zm zF zle; exact sq_D14_1))); (try (refine wcal 38 ?_ (hwl := by intro zm zF zle; exact sq_D14_1))); (try (refine wcal 39 ?_ (hwl := by intro zm zF zle; exact sq_D14_1))); (try (refine wcal 40 ?_ (hwl := by intro zm zF zle; exact sq_D14_1))); (try (refine wcal 41 ?_ (hwl := by intro zm zF zle; exact sq_D14_1))); exact zzn.out) : G := h ⟨next⟩
theorem st_D14_1 {G G' : Prop} (next : G') (h : Bx G' → G := by intro zzn; (first | ((refine st ?_; (repeat intro zzc)); (try ((first | (refine WL.append1 (by':=64) rfl rfl rfl rfl (by (repeat (first | exact Out.here | apply Out.there))) zhs (by exact rfl) (by exact rfl) (by exact rfl) (by exact rfl) (by exact rfl) (by exact rfl) (by first | exact rfl | omega) (by first | omega | (simp; omega)) (by decide) (by exact rfl) ?_; intro zzc zzc) | (refine WL.indexAddrA rfl rfl (by (first | with_reducible exact natz _ | with_reducible exact natz0 | with_reducible exact natz1 | with_reducible exact natz2 | with_reducible exact natz3 | with_reducible exact natz4 | with_reducible exact natz8 | (apply natz_add; (· first | with_reducible exact natz _ | with_reducible exact natz0 | with_reducible exact natz1 | with_reducible exact natz2 | with_reducible exact natz3 | with_reducible exact natz4 | with_reducible exact natz8); (· first | with_reducible exact natz _ | with_reducible exact natz0 | with_reducible exact natz1 | with_reducible exact natz2 | with_reducible exact natz3 | with_reducible exact natz4 | with_reducible exact natz8)) | (apply natz_sub; (· first | with_reducible exact natz _ | with_reducible exact natz0 | with_reducible exact natz1 | with_reducible exact natz2 | with_reducible exact natz3 | with_reducible exact natz4 | with_reducible exact natz8); (· first | with_reducible exact natz _ | with_reducible exact natz0 | with_reducible exact natz1 | with_reducible exact natz2 | with_reducible exact natz3 | with_reducible exact natz4 | with_reducible exact natz8); (· omega)) | exact (Int.toNat_of_nonneg (by omega)).symm)) rfl rfl (by omega) rfl rfl ?_) | ((refine iDraw ?_; (first | refine WC.drawAll rfl (by decide +kernel) ?_ | refine WC.draw 1 rfl (by decide +kernel) ?_ | refine WC.draw 2 rfl (by decide +kernel) ?_ | refine WC.draw 3 rfl (by decide +kernel) ?_ | refine WC.draw 4 rfl (by decide +kernel) ?_ | refine WC.draw 5 rfl (by decide +kernel) ?_ | refine WC.draw 6 rfl (by decide +kernel) ?_ | refine WC.draw 7 rfl (by decide +kernel) ?_ | refine WC.draw 8 rfl (by decide +kernel) ?_ | refine WC.draw 9 rfl (by decide +kernel) ?_ | refine WC.draw 10 rfl (by decide +kernel) ?_ | refine WC.draw 11 rfl (by decide +kernel) ?_ | refine WC.draw 12 rfl (by decide +kernel) ?_ | refine WC.draw 13 rfl (by decide +kernel) ?_ | refine WC.draw 14 rfl (by decide +kernel) ?_ | refine WC.draw 15 rfl (by decide +kernel) ?_ | refine WC.draw 16 rfl (by decide +kernel) ?_ | refine WC.draw 17 rfl (by decide +kernel) ?_ | refine WC.draw 18 rfl (by decide +kernel) ?_ | refine WC.draw 19 rfl (by decide +kernel) ?_ | refine WC.draw 20 rfl (by decide +kernel) ?_ | refine WC.draw 21 rfl (by decide +kernel) ?_ | refine WC.draw 22 rfl (by decide +kernel) ?_ | refine WC.draw 23 rfl (by decide +kernel) ?_ | refine WC.draw 24 rfl (by decide +kernel) ?_)); (repeat (refine WD.cons rfl (fun c h => by cases h) sq_D14_1 ?_)); refine WD.nil ?_)); (try (refine st ?_; (repeat intro zzc)))))) | ((first | (refine WL.append1 (by':=64) rfl rfl rfl rfl (by (repeat (first | exact Out.here | apply Out.there))) zhs (by exact rfl) (by exact rfl) (by exact rfl) (by exact rfl) (by exact rfl) (by exact rfl) (by first | exact rfl | omega) (by first | omega | (simp; omega)) (by decide) (by exact rfl) ?_; intro zzc zzc) | (refine WL.indexAddrA rfl rfl (by (first | with_reducible exact natz _ | with_reducible exact natz0 | with_reducible exact natz1 | with_reducible exact natz2 | with_reducible exact natz3 | with_reducible exact natz4 | with_reducible exact natz8 | (apply natz_add; (· first | with_reducible exact natz _ | with_reducible exact natz0 | with_reducible exact natz1 | with_reducible exact natz2 | with_reducible exact natz3 | with_reducible exact natz4 | with_reducible exact natz8); (· first | with_reducible exact natz _ | with_reducible exact natz0 | with_reducible exact natz1 | with_reducible exact natz2 | with_reducible exact natz3 | with_reducible exact natz4 | with_reducible exact natz8)) | (apply natz_sub; (· first | with_reducible exact natz _ | with_reducible exact natz0 | with_reducible exact natz1 | with_reducible exact natz2 | with_reducible exact natz3 | with_reducible exact natz4 | with_reducible exact natz8); (· first | with_reducible exact natz _ | with_reducible exact natz0 | with_reducible exact natz1 | with_reducible exact natz2 | with_reducible exact natz3 | with_reducible exact natz4 | with_reducible exact natz8); (· omega)) | exact (Int.toNat_of_nonneg (by omega)).symm)) rfl rfl (by omega) rfl rfl ?_) | ((refine iDraw ?_; (first | refine WC.drawAll rfl (by decide +kernel) ?_ | refine WC.draw 1 rfl (by decide +kernel) ?_ | refine WC.draw 2 rfl (by decide +kernel) ?_ | refine WC.draw 3 rfl (by decide +kernel) ?_ | refine WC.draw 4 rfl (by decide +kernel) ?_ | refine WC.draw 5 rfl (by decide +kernel) ?_ | refine WC.draw 6 rfl (by decide +kernel) ?_ | refine WC.draw 7 rfl (by decide +kernel) ?_ | refine WC.draw 8 rfl (by decide +kernel) ?_ | refine WC.draw 9 rfl (by decide +kernel) ?_ | refine WC.draw 10 rfl (by decide +kernel) ?_ | refine WC.draw 11 rfl (by decide +kernel) ?_ | refine WC.draw 12 rfl (by decide +kernel) ?_ | refine WC.draw 13 rfl (by decide +kernel) ?_ | refine WC.draw 14 rfl (by decide +kernel) ?_ | refine WC.draw 15 rfl (by decide +kernel) ?_ | refine WC.draw 16 rfl (by decide +kernel) ?_ | refine WC.draw 17 rfl (by decide +kernel) ?_ | refine WC.draw 18 rfl (by decide +kernel) ?_ | refine WC.draw 19 rfl (by decide +kernel) ?_ | refine WC.draw 20 rfl (by decide +kernel) ?_ | refine WC.draw 21 rfl (by decide +kernel) ?_ | refine WC.draw 22 rfl (by decide +kernel) ?_ | refine WC.draw 23 rfl (by decide +kernel) ?_ | refine WC.draw 24 rfl (by decide +kernel) ?_)); (repeat (refine WD.cons rfl (fun c h => by cases h) sq_D14_1 ?_)); refine WD.nil ?_)); (try (refine st ?_; (repeat intro zzc))))); (repeat ((first | (refine WL.append1 (by':=64) rfl rfl rfl rfl (by (repeat (first | exact Out.here | apply Out.there))) zhs (by exact rfl) (by exact rfl) (by exact rfl) (by exact rfl) (by exact rfl) (by exact rfl) (by first | exact rfl | omega) (by first | omega | (simp; omega)) (by decide) (by exact rfl) ?_; intro zzc zzc) | (refine WL.indexAddrA rfl rfl (by (first | with_reducible exact natz _ | with_reducible exact natz0 | with_reducible exact natz1 | with_reducible exact natz2 | with_reducible exact natz3 | with_reducible exact natz4 | with_reducible exact natz8 | (apply natz_add; (· first | with_reducible exact natz _ | with_reducible exact natz0 | with_reducible exact natz1 | with_reducible exact natz2 | with_reducible exact natz3 | with_reducible exact natz4 | with_reducible exact natz8); (· first | with_reducible exact natz _ | with_reducible exact natz0 | with_reducible exact natz1 | with_reducible exact natz2 | with_reducible exact natz3 | with_reducible exact natz4 | with_reducible exact natz8)) | (apply natz_sub; (· first | with_reducible exact natz _ | with_reducible exact natz0 | with_reducible exact natz1 | with_reducible exact natz2 | with_reducible exact natz3 | with_reducible exact natz4 | with_reducible exact natz8); (· first | with_reducible exact natz _ | with_reducible exact natz0 | with_reducible exact natz1 | with_reducible exact natz2 | with_reducible exact natz3 | with_reducible exact natz4 | with_reducible exact natz8); (· omega)) | exact (Int.toNat_of_nonneg (by omega)).symm)) rfl rfl (by omega) rfl rfl ?_) | ((refine iDraw ?_; (first | refine WC.drawAll rfl (by decide +kernel) ?_ | refine WC.draw 1 rfl (by decide +kernel) ?_ | refine WC.draw 2 rfl (by decide +kernel) ?_ | refine WC.draw 3 rfl (by decide +kernel) ?_ | refine WC.draw 4 rfl (by decide +kernel) ?_ | refine WC.draw 5 rfl (by decide +kernel) ?_ | refine WC.draw 6 rfl (by decide +kernel) ?_ | refine WC.draw 7 rfl (by decide +kernel) ?_ | refine WC.draw 8 rfl (by decide +kernel) ?_ | refine WC.draw 9 rfl (by decide +kernel) ?_ | refine WC.draw 10 rfl (by decide +kernel) ?_ | refine WC.draw 11 rfl (by decide +kernel) ?_ | refine WC.draw 12 rfl (by decide +kernel) ?_ | refine WC.draw 13 rfl (by decide +kernel) ?_ | refine WC.draw 14 rfl (by decide +kernel) ?_ | refine WC.draw 15 rfl (by decide +kernel) ?_ | refine WC.draw 16 rfl (by decide +kernel) ?_ | refine WC.draw 17 rfl (by decide +kernel) ?_ | refine WC.draw 18 rfl (by decide +kernel) ?_ | refine WC.draw 19 rfl (by decide +kernel) ?_ | refine WC.draw 20 rfl (by decide +kernel) ?_ | refine WC.draw 21 rfl (by decide +kernel) ?_ | refine WC.draw 22 rfl (by decide +kernel) ?_ | refine WC.draw 23 rfl (by decide +kernel) ?_ | refine WC.draw 24 rfl (by decide +kernel) ?_)); (repeat (refine WD.cons rfl (fun c h => by cases h) sq_D14_1 ?_)); refine WD.nil ?_)); (try (refine st ?_; (repeat intro zzc))))); (repeat revert zzc); exact zzn.out) : G := h ⟨next⟩
theorem side_any {X Y Z : List Tx} {w : Wv} {bx by_ bz bat bl bb cx cy cz cl cb n k1 k2 : Nat} {ax ay az al ao ab : Option Addr} {w0 : World} {m : Mem} {H : SHeap}
    (hX : X.length ≤ 4194304 ∧ X.flatten.length ≤ 4194304 ∧ X.length ≤ cx) (hY : Y.length ≤ 4194304 ∧ Y.flatten.length ≤ 4194304 ∧ Y.length ≤ cy) (hZ : Z.length ≤ 4194304 ∧ Z.flatten.length ≤ 4194304 ∧ Z.length ≤ cz)
    (hn : w.p ≤ n ∧ n ≤ X.length) (hk1 : w.q ≤ k1 ∧ k1 ≤ Y.length) (hk2 : w.r ≤ k2 ∧ k2 ≤ Z.length) (ho : w.out.length ≤ 1099511627776) (hL : w.l.length ≤ 4194304) (hao : ao = none ∨ ao = some ⟨bb, 0, none⟩) (hab : ab = none ∨ 0 < cb) :
    Does Tryz.prog 68 #[.int .i64 (n : Int), .int .i64 (k1 : Int), .int .i64 (k2 : Int), .pointer (some ⟨bx, 0, none⟩), .pointer (some ⟨bat, 0, none⟩), .pointer (some ⟨by_, 0, none⟩), .pointer (some ⟨bz, 0, none⟩), .pointer (some ⟨bl, 0, none⟩), .pointer (some ⟨bb, 0, none⟩)] w0 m
      ([.blk bx (.cells [.slice ax X.length cx].toArray 83 (0, 0)), .row ax cx 9 1 (strs X), .blk by_ (.cells [.slice ay Y.length cy].toArray 83 (0, 0)), .row ay cy 9 1 (strs Y), .blk bz (.cells [.slice az Z.length cz].toArray 83 (0, 0)), .row az cz 9 1 (strs Z), .blk bat (.cells [.int .i64 (w.p : Int), .int .i64 (w.q : Int), .int .i64 (w.r : Int)].toArray 135 (0, 0)), .blk bl (.cells [.slice al w.l.length cl].toArray 33 (0, 0)), .row al cl 138 5 (cfs w.l), .blk bb (.cells [.pointer ao, .slice ab w.out.length cb].toArray 111 (0, 0)), .row ab cb 5 1 (bCs w.out)] ++ H)
      (fun _ m' H' => m' = m ∧ ∃ (al2 : Option Addr) (cl2 : Nat) (ao2 ab2 : Option Addr) (cb2 : Nat), (ao2 = none ∨ ao2 = some ⟨bb, 0, none⟩) ∧ (ab2 = none ∨ 0 < cb2) ∧
        H' = [.blk bx (.cells [.slice ax X.length cx].toArray 83 (0, 0)), .row ax cx 9 1 (strs X), .blk by_ (.cells [.slice ay Y.length cy].toArray 83 (0, 0)), .row ay cy 9 1 (strs Y), .blk bz (.cells [.slice az Z.length cz].toArray 83 (0, 0)), .row az cz 9 1 (strs Z), .blk bat (.cells [.int .i64 ((w.side X Y Z n k1 k2).p : Int), .int .i64 ((w.side X Y Z n k1 k2).q : Int), .int .i64 ((w.side X Y Z n k1 k2).r : Int)].toArray 135 (0, 0)), .blk bl (.cells [.slice al2 (w.side X Y Z n k1 k2).l.length cl2].toArray 33 (0, 0)), .row al2 cl2 138 5 (cfs (w.side X Y Z n k1 k2).l),
          .blk bb (.cells [.pointer ao2, .slice ab2 (w.side X Y Z n k1 k2).out.length cb2].toArray 111 (0, 0)), .row ab2 cb2 5 1 (bCs (w.side X Y Z n k1 k2).out)] ++ H) := by
  refine Does.of_body Tryz.func68 rfl Tryz.ntmps68 rfl ?_
  simp only [List.cons_append, List.nil_append]
  have hja := jn_le X w.p n
  have hjb := jn_le Y w.q k1
  have hjc := jn_le Z w.r k2
  (try (refine st_D14_1 ?_; intros))
  refine WC.drawE 18 ([.blk bx (.cells [.slice ax X.length cx].toArray 83 (0, 0)), .row ax cx 9 1 (strs X), .blk by_ (.cells [.slice ay Y.length cy].toArray 83 (0, 0)), .row ay cy 9 1 (strs Y), .blk bz (.cells [.slice az Z.length cz].toArray 83 (0, 0)), .row az cz 9 1 (strs Z), .blk bat (.cells [.int .i64 (w.p : Int), .int .i64 (w.q : Int), .int .i64 (w.r : Int)].toArray 135 (0, 0))]) (.blk bl (.cells [.slice al w.l.length cl].toArray 33 (0, 0)) :: .row al cl 138 5 (cfs w.l) :: .blk bb (.cells [.pointer ao, .slice ab w.out.length cb].toArray 111 (0, 0)) :: .row ab cb 5 1 (bCs w.out) :: H) rfl (by decide +kernel) zpk ?_
  (refine cm_D14_1 ?_)
  (refine WE.calm 5 (by decide +kernel) rfl rfl (by decide +kernel) rfl (fun c h => by cases h) (by intro zm zF zle; refine w_callF Tryz.func69 ?_ (hs := joinSub_any (l := X) zhs hn (by omega) (by omega)); rintro _ _ _ ⟨rfl, rfl, rfl⟩; exact sq_D14_1) ?_)
  (refine WE.calm 11 (by decide +kernel) rfl rfl (by decide +kernel) rfl (fun c h => by cases h) (by intro zm zF zle; refine w_callF Tryz.func69 ?_ (hs := joinSub_any (l := Y) zhs hk1 (by omega) (by omega)); rintro _ _ _ ⟨rfl, rfl, rfl⟩; exact sq_D14_1) ?_)
  (refine WE.calm 17 (by decide +kernel) rfl rfl (by decide +kernel) rfl (fun c h => by cases h) (by intro zm zF zle; refine w_callF Tryz.func69 ?_ (hs := joinSub_any (l := Z) zhs hk2 (by omega) (by omega)); rintro _ _ _ ⟨rfl, rfl, rfl⟩; exact sq_D14_1) ?_)
  refine WE.done (by decide +kernel) ?_
  have hn1 : (n : Int) + 1 = ((n + 1 : Nat) : Int) := by omega
  have hk11 : (k1 : Int) + 1 = ((k1 + 1 : Nat) : Int) := by omega
  have hk21 : (k2 : Int) + 1 = ((k2 + 1 : Nat) : Int) := by omega
  have hcf := cfs_length w.l
  have hside : w.side X Y Z n k1 k2 = ⟨w.out ++ sideT (jn X w.p n) (jn Y w.q k1) (jn Z w.r k2), w.l ++ sideC w.out.length (jn X w.p n) (jn Y w.q k1) (jn Z w.r k2), n + 1, k1 + 1, k2 + 1⟩ := rfl
  generalize jn X w.p n = tO at *
  generalize jn Y w.q k1 = tA at *
  generalize jn Z w.r k2 = tC at *
  by_cases h1 : tC = tO
  · have hW : w.side X Y Z n k1 k2 = ⟨w.out ++ tA, w.l, n + 1, k1 + 1, k2 + 1⟩ := by rw [hside, show sideT tO tA tC = tA from if_neg (fun g => g.1 h1), show sideC w.out.length tO tA tC = [] from if_neg (fun g => g.1 h1), List.append_nil]
    (try (refine st_D14_1 ?_; intros))
    refine WL.heap (H' := .blk bb (.cells [.pointer ao, .slice ab w.out.length cb].toArray 111 (0, 0)) :: .row ab cb 5 1 (bCs w.out) :: ([.blk bx (.cells [.slice ax X.length cx].toArray 83 (0, 0)), .row ax cx 9 1 (strs X), .blk by_ (.cells [.slice ay Y.length cy].toArray 83 (0, 0)), .row ay cy 9 1 (strs Y), .blk bz (.cells [.slice az Z.length cz].toArray 83 (0, 0)), .row az cz 9 1 (strs Z), .blk bat (.cells [.int .i64 ((n : Int) + 1), .int .i64 ((k1 : Int) + 1), .int .i64 ((k2 : Int) + 1)].toArray 135 (0, 0)), .blk bl (.cells [.slice al w.l.length cl].toArray 33 (0, 0)), .row al cl 138 5 (cfs w.l)] ++ H)) zpk ?_
    refine w_callF Tryz.func48 ?_ (hs := writeString_any hao hab (by unfold FitsB; omega) _ _ _)
    rintro v m9 H9 ⟨rfl, rfl, ao2, ab2, cb2, hao2, hab2, rfl⟩
    (try (refine st_D14_1 ?_; intros))
    rw [hW, hn1, hk11, hk21]
    exact q_finNorm0 (H0 := [.blk bx (.cells [.slice ax X.length cx].toArray 83 (0, 0)), .row ax cx 9 1 (strs X), .blk by_ (.cells [.slice ay Y.length cy].toArray 83 (0, 0)), .row ay cy 9 1 (strs Y), .blk bz (.cells [.slice az Z.length cz].toArray 83 (0, 0)), .row az cz 9 1 (strs Z), .blk bat (.cells [.int .i64 ((n + 1 : Nat) : Int), .int .i64 ((k1 + 1 : Nat) : Int), .int .i64 ((k2 + 1 : Nat) : Int)].toArray 135 (0, 0)), .blk bl (.cells [.slice al w.l.length cl].toArray 33 (0, 0)), .row al cl 138 5 (cfs w.l), .blk bb (.cells [.pointer ao2, .slice ab2 (w.out ++ tA).length cb2].toArray 111 (0, 0)), .row ab2 cb2 5 1 (bCs (w.out ++ tA))] ++ H) ⟨rfl, al, cl, ao2, ab2, cb2, hao2, hab2, rfl⟩ (hd := zpk)
  by_cases h2 : tA = tO
  · have hW : w.side X Y Z n k1 k2 = ⟨w.out ++ tC, w.l, n + 1, k1 + 1, k2 + 1⟩ := by rw [hside, show sideT tO tA tC = tC from if_pos ⟨h1, h2⟩, show sideC w.out.length tO tA tC = [] from if_neg (fun g => g.2.1 h2), List.append_nil]
    (try (refine st_D14_1 ?_; intros))
    refine WL.heap (H' := .blk bb (.cells [.pointer ao, .slice ab w.out.length cb].toArray 111 (0, 0)) :: .row ab cb 5 1 (bCs w.out) :: ([.blk bx (.cells [.slice ax X.length cx].toArray 83 (0, 0)), .row ax cx 9 1 (strs X), .blk by_ (.cells [.slice ay Y.length cy].toArray 83 (0, 0)), .row ay cy 9 1 (strs Y), .blk bz (.cells [.slice az Z.length cz].toArray 83 (0, 0)), .row az cz 9 1 (strs Z), .blk bat (.cells [.int .i64 ((n : Int) + 1), .int .i64 ((k1 : Int) + 1), .int .i64 ((k2 : Int) + 1)].toArray 135 (0, 0)), .blk bl (.cells [.slice al w.l.length cl].toArray 33 (0, 0)), .row al cl 138 5 (cfs w.l)] ++ H)) zpk ?_
    refine w_callF Tryz.func48 ?_ (hs := writeString_any hao hab (by unfold FitsB; omega) _ _ _)
    rintro v m9 H9 ⟨rfl, rfl, ao2, ab2, cb2, hao2, hab2, rfl⟩
    (try (refine st_D14_1 ?_; intros))
    rw [hW, hn1, hk11, hk21]
    exact q_finNorm0 (H0 := [.blk bx (.cells [.slice ax X.length cx].toArray 83 (0, 0)), .row ax cx 9 1 (strs X), .blk by_ (.cells [.slice ay Y.length cy].toArray 83 (0, 0)), .row ay cy 9 1 (strs Y), .blk bz (.cells [.slice az Z.length cz].toArray 83 (0, 0)), .row az cz 9 1 (strs Z), .blk bat (.cells [.int .i64 ((n + 1 : Nat) : Int), .int .i64 ((k1 + 1 : Nat) : Int), .int .i64 ((k2 + 1 : Nat) : Int)].toArray 135 (0, 0)), .blk bl (.cells [.slice al w.l.length cl].toArray 33 (0, 0)), .row al cl 138 5 (cfs w.l), .blk bb (.cells [.pointer ao2, .slice ab2 (w.out ++ tC).length cb2].toArray 111 (0, 0)), .row ab2 cb2 5 1 (bCs (w.out ++ tC))] ++ H) ⟨rfl, al, cl, ao2, ab2, cb2, hao2, hab2, rfl⟩ (hd := zpk)
  by_cases h3 : tA = tC
  · have hW : w.side X Y Z n k1 k2 = ⟨w.out ++ tA, w.l, n + 1, k1 + 1, k2 + 1⟩ := by rw [hside, show sideT tO tA tC = tA from if_neg (fun g => h2 g.2), show sideC w.out.length tO tA tC = [] from if_neg (fun g => g.2.2 h3), List.append_nil]
    (try (refine st_D14_1 ?_; intros))
    refine WL.heap (H' := .blk bb (.cells [.pointer ao, .slice ab w.out.length cb].toArray 111 (0, 0)) :: .row ab cb 5 1 (bCs w.out) :: ([.blk bx (.cells [.slice ax X.length cx].toArray 83 (0, 0)), .row ax cx 9 1 (strs X), .blk by_ (.cells [.slice ay Y.length cy].toArray 83 (0, 0)), .row ay cy 9 1 (strs Y), .blk bz (.cells [.slice az Z.length cz].toArray 83 (0, 0)), .row az cz 9 1 (strs Z), .blk bat (.cells [.int .i64 ((n : Int) + 1), .int .i64 ((k1 : Int) + 1), .int .i64 ((k2 : Int) + 1)].toArray 135 (0, 0)), .blk bl (.cells [.slice al w.l.length cl].toArray 33 (0, 0)), .row al cl 138 5 (cfs w.l)] ++ H)) zpk ?_
    refine w_callF Tryz.func48 ?_ (hs := writeString_any hao hab (by unfold FitsB; omega) _ _ _)
    rintro v m9 H9 ⟨rfl, rfl, ao2, ab2, cb2, hao2, hab2, rfl⟩
    (try (refine st_D14_1 ?_; intros))
    rw [hW, hn1, hk11, hk21]
    exact q_finNorm0 (H0 := [.blk bx (.cells [.slice ax X.length cx].toArray 83 (0, 0)), .row ax cx 9 1 (strs X), .blk by_ (.cells [.slice ay Y.length cy].toArray 83 (0, 0)), .row ay cy 9 1 (strs Y), .blk bz (.cells [.slice az Z.length cz].toArray 83 (0, 0)), .row az cz 9 1 (strs Z), .blk bat (.cells [.int .i64 ((n + 1 : Nat) : Int), .int .i64 ((k1 + 1 : Nat) : Int), .int .i64 ((k2 + 1 : Nat) : Int)].toArray 135 (0, 0)), .blk bl (.cells [.slice al w.l.length cl].toArray 33 (0, 0)), .row al cl 138 5 (cfs w.l), .blk bb (.cells [.pointer ao2, .slice ab2 (w.out ++ tA).length cb2].toArray 111 (0, 0)), .row ab2 cb2 5 1 (bCs (w.out ++ tA))] ++ H) ⟨rfl, al, cl, ao2, ab2, cb2, hao2, hab2, rfl⟩ (hd := zpk)
  · have hW : w.side X Y Z n k1 k2 = ⟨w.out ++ tA, w.l ++ [⟨w.out.length, w.out.length + tA.length, tO, tA, tC⟩], n + 1, k1 + 1, k2 + 1⟩ := by rw [hside, show sideT tO tA tC = tA from if_neg (fun g => h2 g.2), show sideC w.out.length tO tA tC = [⟨w.out.length, w.out.length + tA.length, tO, tA, tC⟩] from if_pos ⟨h1, h2, h3⟩]
    (try (refine st_D14_1 ?_; intros))
    refine WC.drawE 13 ([.blk bx (.cells [.slice ax X.length cx].toArray 83 (0, 0)), .row ax cx 9 1 (strs X), .blk by_ (.cells [.slice ay Y.length cy].toArray 83 (0, 0)), .row ay cy 9 1 (strs Y), .blk bz (.cells [.slice az Z.length cz].toArray 83 (0, 0)), .row az cz 9 1 (strs Z), .blk bat (.cells [.int .i64 ((n : Int) + 1), .int .i64 ((k1 : Int) + 1), .int .i64 ((k2 : Int) + 1)].toArray 135 (0, 0)), .blk bl (.cells [.slice al w.l.length cl].toArray 33 (0, 0)), .blk bb (.cells [.pointer ao, .slice ab w.out.length cb].toArray 111 (0, 0))]) (.row al cl 138 5 (cfs w.l) :: .row ab cb 5 1 (bCs w.out) :: H) rfl (by decide +kernel) zpk ?_
    (refine cm_D14_1 ?_)
    (refine WE.calm 1 (by decide +kernel) rfl rfl (by decide +kernel) rfl (fun c h => by cases h) (by intro zm zF zle; refine w_callF Tryz.func70 ?_ (hs := bLen_mem zhs); rintro _ _ _ ⟨rfl, rfl, rfl⟩; exact sq_D14_1) ?_)
    (refine WE.calm 2 (by decide +kernel) rfl rfl (by decide +kernel) rfl (fun c h => by cases h) (by intro zm zF zle; refine w_callF Tryz.func70 ?_ (hs := bLen_mem zhs); rintro _ _ _ ⟨rfl, rfl, rfl⟩; exact sq_D14_1) ?_)
    (refine cm_D14_1 ?_)
    refine WE.act1 11 (by decide +kernel) rfl rfl (fun c h => by cases h) ?_
    (refine st_D14_1 ?_; intros; rename_i b9)
    refine WQ.acted (B := [.blk b9 (.cells [.int .i64 (w.out.length : Int), .int .i64 ((w.out.length : Int) + (tA.length : Int)), str tO, str tA, str tC].toArray 138 (0, 0))]) (U := .row al cl 138 5 (cfs w.l) :: .row ab cb 5 1 (bCs w.out) :: H) rfl (Mem.le.refl _) zpk ?_
    (refine cm_D14_1 ?_)
    refine WE.act1 12 (by decide +kernel) rfl rfl (fun c h => by cases h) ?_
    (refine st_D14_1 ?_; intros; rename_i al2 cl2)
    rw [hcf]
    refine WQ.acted (B := []) (U := .row al2 cl2 138 5 (cfs w.l ++ [[.int .i64 (w.out.length : Int), .int .i64 ((w.out.length : Int) + (tA.length : Int)), str tO, str tA, str tC]]) :: .row ab cb 5 1 (bCs w.out) :: H) rfl (Mem.le.refl _) zpk ?_
    refine WE.done (by decide +kernel) ?_
    have hll : w.l.length + 1 = (w.l ++ [(⟨w.out.length, w.out.length + tA.length, tO, tA, tC⟩ : Cf)]).length := by simp
    have hlc : cfs w.l ++ [[.int .i64 (w.out.length : Int), .int .i64 ((w.out.length : Int) + (tA.length : Int)), str tO, str tA, str tC]] = cfs (w.l ++ [⟨w.out.length, w.out.length + tA.length, tO, tA, tC⟩]) := by
      unfold cfs
      rw [List.map_append]
      simp [Cf.cs]
    (try (refine st_D14_1 ?_; intros))
    refine WL.heap (H' := .blk bb (.cells [.pointer ao, .slice ab w.out.length cb].toArray 111 (0, 0)) :: .row ab cb 5 1 (bCs w.out) :: ([.blk bx (.cells [.slice ax X.length cx].toArray 83 (0, 0)), .row ax cx 9 1 (strs X), .blk by_ (.cells [.slice ay Y.length cy].toArray 83 (0, 0)), .row ay cy 9 1 (strs Y), .blk bz (.cells [.slice az Z.length cz].toArray 83 (0, 0)), .row az cz 9 1 (strs Z), .blk bat (.cells [.int .i64 ((n : Int) + 1), .int .i64 ((k1 : Int) + 1), .int .i64 ((k2 : Int) + 1)].toArray 135 (0, 0)), .blk bl (.cells [.slice al2 (w.l.length + 1) cl2].toArray 33 (0, 0)), .row al2 cl2 138 5 (cfs w.l ++ [[.int .i64 (w.out.length : Int), .int .i64 ((w.out.length : Int) + (tA.length : Int)), str tO, str tA, str tC]])] ++ H)) zpk ?_
    refine w_callF Tryz.func48 ?_ (hs := writeString_any hao hab (by unfold FitsB; omega) _ _ _)
    rintro v m9 H9 ⟨rfl, rfl, ao2, ab2, cb2, hao2, hab2, rfl⟩
    (try (refine st_D14_1 ?_; intros))
    rw [hW, hn1, hk11, hk21, hll, hlc]
    exact q_finNorm0 (H0 := [.blk bx (.cells [.slice ax X.length cx].toArray 83 (0, 0)), .row ax cx 9 1 (strs X), .blk by_ (.cells [.slice ay Y.length cy].toArray 83 (0, 0)), .row ay cy 9 1 (strs Y), .blk bz (.cells [.slice az Z.length cz].toArray 83 (0, 0)), .row az cz 9 1 (strs Z), .blk bat (.cells [.int .i64 ((n + 1 : Nat) : Int), .int .i64 ((k1 + 1 : Nat) : Int), .int .i64 ((k2 + 1 : Nat) : Int)].toArray 135 (0, 0)), .blk bl (.cells [.slice al2 (w.l ++ [(⟨w.out.length, w.out.length + tA.length, tO, tA, tC⟩ : Cf)]).length cl2].toArray 33 (0, 0)), .row al2 cl2 138 5 (cfs (w.l ++ [⟨w.out.length, w.out.length + tA.length, tO, tA, tC⟩])), .blk bb (.cells [.pointer ao2, .slice ab2 (w.out ++ tA).length cb2].toArray 111 (0, 0)), .row ab2 cb2 5 1 (bCs (w.out ++ tA))] ++ H) ⟨rfl, al2, cl2, ao2, ab2, cb2, hao2, hab2, rfl⟩ (hd := zpk)
end Go.Proofs.YtgckeelnhafgaaaGreatDoor

/-
  The walk of draft.Weave: its maps. No condition.
-/
namespace Go.Eng
open Go Go.RowKit
/-- a match as a map's entries -/
def kv (M : List (Nat × Nat)) : List (Int × Value) := M.map fun p => ((p.1 : Int), .int .i64 (p.2 : Int))
theorem kv_lookup (n : Nat) : ∀ M : List (Nat × Nat), (kv M).lookup (n : Int) = (M.lookup n).map fun k => .int .i64 (k : Int)
  | [] => rfl
  | (a, b) :: M => by
    show List.lookup (n : Int) (((a : Int), Value.int .i64 (b : Int)) :: kv M) = _
    rw [List.lookup_cons, List.lookup_cons]
    by_cases h : n = a
    · subst h; simp
    · rw [show ((n : Int) == (a : Int)) = false by simp; omega, show (n == a) = false by simp; exact h]
      exact kv_lookup n M
theorem PrOk.fresh {a b : List Tx} : ∀ {M A B : List (Nat × Nat)} {p : Nat × Nat} {i k n m : Nat}, PrOk a b i k M n m → M = A ++ p :: B → A.lookup p.1 = Option.none
  | M, [], B, p, i, k, n, m, h, e => rfl
  | M, q :: A, B, p, i, k, n, m, h, e => by
    subst e
    obtain ⟨h1, h2, h3, h4, h5, h6⟩ := h
    obtain ⟨q1, q2⟩ := q
    have hlt : ∀ {A B : List (Nat × Nat)} {p : Nat × Nat} {i k : Nat}, PrOk a b i k (A ++ p :: B) n m → i ≤ p.1 := by
      intro A
      induction A with
      | nil => intro B p i k h; exact h.1
      | cons r A ih => intro B p i k h; obtain ⟨g1, _, _, _, _, g6⟩ := h; have := ih g6; omega
    have hl := hlt h6
    simp only at hl
    rw [List.lookup_cons, show (p.1 == q1) = false by simp; omega]
    exact PrOk.fresh h6 rfl
end Go.Eng
namespace Go.Proofs.YtgckeelnhafgaaaGreatDoor
open Go Go.Eng
set_option maxRecDepth 100000
set_option maxHeartbeats 4000000
set_option linter.all false
attribute [local irreducible] WL WC WQ QFun QLoop Does Q1 QRound QAssign Go.Addr.add
attribute [local irreducible] kv mapO
theorem sq_D15_1 {G : Prop} (h : G := by (repeat (first | (refine sp ?_; (repeat intro zzc)) | (refine WL.indexAddrA rfl rfl (by (first | with_reducible exact natz _ | with_reducible exact natz0 | with_reducible exact natz1 | with_reducible exact natz2 | with_reducible exact natz3 | with_reducible exact natz4 | with_reducible exact natz8 | (apply natz_add; (· first | with_reducible exact natz _ | with_reducible exact natz0 | with_reducible exact natz1 | with_reducible exact natz2 | with_reducible exact natz3 | with_reducible exact natz4 | with_reducible exact natz8); (· first | with_reducible exact natz _ | with_reducible exact natz0 | with_reducible exact natz1 | with_reducible exact natz2 | with_reducible exact natz3 | with_reducible exact natz4 | with_reducible exact natz8)) | (apply natz_sub; (· first | with_reducible exact natz _ | with_reducible exact natz0 | with_reducible exact natz1 | with_reducible exact natz2 | with_reducible exact natz3 | with_reducible exact natz4 | with_reducible exact natz8); (· first | with_reducible exact natz _ | with_reducible exact natz0 | with_reducible exact natz1 | with_reducible exact natz2 | with_reducible exact natz3 | with_reducible exact natz4 | with_reducible exact natz8); (· omega)) | exact (Int.toNat_of_nonneg (by omega)).symm)) rfl rfl (by omega) rfl rfl ?_))); exact WQ.q1 rfl) : G := h
theorem st_D15_1 {G G' : Prop} (next : G') (h : Bx G' → G := by intro zzn; (first | ((refine st ?_; (repeat intro zzc)); (try ((first | (refine WL.indexAddrA rfl rfl (by (first | with_reducible exact natz _ | with_reducible exact natz0 | with_reducible exact natz1 | with_reducible exact natz2 | with_reducible exact natz3 | with_reducible exact natz4 | with_reducible exact natz8 | (apply natz_add; (· first | with_reducible exact natz _ | with_reducible exact natz0 | with_reducible exact natz1 | with_reducible exact natz2 | with_reducible exact natz3 | with_reducible exact natz4 | with_reducible exact natz8); (· first | with_reducible exact natz _ | with_reducible exact natz0 | with_reducible exact natz1 | with_reducible exact natz2 | with_reducible exact natz3 | with_reducible exact natz4 | with_reducible exact natz8)) | (apply natz_sub; (· first | with_reducible exact natz _ | with_reducible exact natz0 | with_reducible exact natz1 | with_reducible exact natz2 | with_reducible exact natz3 | with_reducible exact natz4 | with_reducible exact natz8); (· first | with_reducible exact natz _ | with_reducible exact natz0 | with_reducible exact natz1 | with_reducible exact natz2 | with_reducible exact natz3 | with_reducible exact natz4 | with_reducible exact natz8); (· omega)) | exact (Int.toNat_of_nonneg (by omega)).symm)) rfl rfl (by omega) rfl rfl ?_) | ((refine iDraw ?_; (first | refine WC.drawAll rfl (by decide +kernel) ?_ | refine WC.draw 1 rfl (by decide +kernel) ?_ | refine WC.draw 2 rfl (by decide +kernel) ?_ | refine WC.draw 3 rfl (by decide +kernel) ?_ | refine WC.draw 4 rfl (by decide +kernel) ?_ | refine WC.draw 5 rfl (by decide +kernel) ?_ | refine WC.draw 6 rfl (by decide +kernel) ?_ | refine WC.draw 7 rfl (by decide +kernel) ?_ | refine WC.draw 8 rfl (by decide +kernel) ?_ | refine WC.draw 9 rfl (by decide +kernel) ?_ | refine WC.draw 10 rfl (by decide +kernel) ?_ | refine WC.draw 11 rfl (by decide +kernel) ?_ | refine WC.draw 12 rfl (by decide +kernel) ?_ | refine WC.draw 13 rfl (by decide +kernel) ?_ | refine WC.draw 14 rfl (by decide +kernel) ?_ | refine WC.draw 15 rfl (by decide +kernel) ?_ | refine WC.draw 16 rfl (by decide +kernel) ?_ | refine WC.draw 17 rfl (by decide +kernel) ?_ | refine WC.draw 18 rfl (by decide +kernel) ?_ | refine WC.draw 19 rfl (by decide +kernel) ?_ | refine WC.draw 20 rfl (by decide +kernel) ?_ | refine WC.draw 21 rfl (by decide +kernel) ?_ | refine WC.draw 22 rfl (by decide +kernel) ?_ | refine WC.draw 23 rfl (by decide +kernel) ?_ | refine WC.draw 24 rfl (by decide +kernel) ?_)); (repeat (refine WD.cons rfl (fun c h => by cases h) sq_D15_1 ?_)); refine WD.nil ?_)); (try (refine st ?_; (repeat intro zzc)))))) | ((first | (refine WL.indexAddrA rfl rfl (by (first | with_reducible exact natz _ | with_reducible exact natz0 | with_reducible exact natz1 | with_reducible exact natz2 | with_reducible exact natz3 | with_reducible exact natz4 | with_reducible exact natz8 | (apply natz_add; (· first | with_reducible exact natz _ | with_reducible exact natz0 | with_reducible exact natz1 | with_reducible exact natz2 | with_reducible exact natz3 | with_reducible exact natz4 | with_reducible exact natz8); (· first | with_reducible exact natz _ | with_reducible exact natz0 | with_reducible exact natz1 | with_reducible exact natz2 | with_reducible exact natz3 | with_reducible exact natz4 | with_reducible exact natz8)) | (apply natz_sub; (· first | with_reducible exact natz _ | with_reducible exact natz0 | with_reducible exact natz1 | with_reducible exact natz2 | with_reducible exact natz3 | with_reducible exact natz4 | with_reducible exact natz8); (· first | with_reducible exact natz _ | with_reducible exact natz0 | with_reducible exact natz1 | with_reducible exact natz2 | with_reducible exact natz3 | with_reducible exact natz4 | with_reducible exact natz8); (· omega)) | exact (Int.toNat_of_nonneg (by omega)).symm)) rfl rfl (by omega) rfl rfl ?_) | ((refine iDraw ?_; (first | refine WC.drawAll rfl (by decide +kernel) ?_ | refine WC.draw 1 rfl (by decide +kernel) ?_ | refine WC.draw 2 rfl (by decide +kernel) ?_ | refine WC.draw 3 rfl (by decide +kernel) ?_ | refine WC.draw 4 rfl (by decide +kernel) ?_ | refine WC.draw 5 rfl (by decide +kernel) ?_ | refine WC.draw 6 rfl (by decide +kernel) ?_ | refine WC.draw 7 rfl (by decide +kernel) ?_ | refine WC.draw 8 rfl (by decide +kernel) ?_ | refine WC.draw 9 rfl (by decide +kernel) ?_ | refine WC.draw 10 rfl (by decide +kernel) ?_ | refine WC.draw 11 rfl (by decide +kernel) ?_ | refine WC.draw 12 rfl (by decide +kernel) ?_ | refine WC.draw 13 rfl (by decide +kernel) ?_ | refine WC.draw 14 rfl (by decide +kernel) ?_ | refine WC.draw 15 rfl (by decide +kernel) ?_ | refine WC.draw 16 rfl (by decide +kernel) ?_ | refine WC.draw 17 rfl (by decide +kernel) ?_ | refine WC.draw 18 rfl (by decide +kernel) ?_ | refine WC.draw 19 rfl (by decide +kernel) ?_ | refine WC.draw 20 rfl (by decide +kernel) ?_ | refine WC.draw 21 rfl (by decide +kernel) ?_ | refine WC.draw 22 rfl (by decide +kernel) ?_ | refine WC.draw 23 rfl (by decide +kernel) ?_ | refine WC.draw 24 rfl (by decide +kernel) ?_)); (repeat (refine WD.cons rfl (fun c h => by cases h) sq_D15_1 ?_)); refine WD.nil ?_)); (try (refine st ?_; (repeat intro zzc))))); (repeat ((first | (refine WL.indexAddrA rfl rfl (by (first | with_reducible exact natz _ | with_reducible exact natz0 | with_reducible exact natz1 | with_reducible exact natz2 | with_reducible exact natz3 | with_reducible exact natz4 | with_reducible exact natz8 | (apply natz_add; (· first | with_reducible exact natz _ | with_reducible exact natz0 | with_reducible exact natz1 | with_reducible exact natz2 | with_reducible exact natz3 | with_reducible exact natz4 | with_reducible exact natz8); (· first | with_reducible exact natz _ | with_reducible exact natz0 | with_reducible exact natz1 | with_reducible exact natz2 | with_reducible exact natz3 | with_reducible exact natz4 | with_reducible exact natz8)) | (apply natz_sub; (· first | with_reducible exact natz _ | with_reducible exact natz0 | with_reducible exact natz1 | with_reducible exact natz2 | with_reducible exact natz3 | with_reducible exact natz4 | with_reducible exact natz8); (· first | with_reducible exact natz _ | with_reducible exact natz0 | with_reducible exact natz1 | with_reducible exact natz2 | with_reducible exact natz3 | with_reducible exact natz4 | with_reducible exact natz8); (· omega)) | exact (Int.toNat_of_nonneg (by omega)).symm)) rfl rfl (by omega) rfl rfl ?_) | ((refine iDraw ?_; (first | refine WC.drawAll rfl (by decide +kernel) ?_ | refine WC.draw 1 rfl (by decide +kernel) ?_ | refine WC.draw 2 rfl (by decide +kernel) ?_ | refine WC.draw 3 rfl (by decide +kernel) ?_ | refine WC.draw 4 rfl (by decide +kernel) ?_ | refine WC.draw 5 rfl (by decide +kernel) ?_ | refine WC.draw 6 rfl (by decide +kernel) ?_ | refine WC.draw 7 rfl (by decide +kernel) ?_ | refine WC.draw 8 rfl (by decide +kernel) ?_ | refine WC.draw 9 rfl (by decide +kernel) ?_ | refine WC.draw 10 rfl (by decide +kernel) ?_ | refine WC.draw 11 rfl (by decide +kernel) ?_ | refine WC.draw 12 rfl (by decide +kernel) ?_ | refine WC.draw 13 rfl (by decide +kernel) ?_ | refine WC.draw 14 rfl (by decide +kernel) ?_ | refine WC.draw 15 rfl (by decide +kernel) ?_ | refine WC.draw 16 rfl (by decide +kernel) ?_ | refine WC.draw 17 rfl (by decide +kernel) ?_ | refine WC.draw 18 rfl (by decide +kernel) ?_ | refine WC.draw 19 rfl (by decide +kernel) ?_ | refine WC.draw 20 rfl (by decide +kernel) ?_ | refine WC.draw 21 rfl (by decide +kernel) ?_ | refine WC.draw 22 rfl (by decide +kernel) ?_ | refine WC.draw 23 rfl (by decide +kernel) ?_ | refine WC.draw 24 rfl (by decide +kernel) ?_)); (repeat (refine WD.cons rfl (fun c h => by cases h) sq_D15_1 ?_)); refine WD.nil ?_)); (try (refine st ?_; (repeat intro zzc))))); (repeat revert zzc); exact zzn.out) : G := h ⟨next⟩
theorem fill_own {X Y : List Tx} {M : List (Nat × Nat)} {a : Option Addr} {cp bm bm2 bx by_ bz : Nat} {w0 : World} {m : Mem} {H : SHeap} {Q : Exit → Act → World → Prop} (hM : PrOk X Y 0 0 M X.length Y.length) (hl : M.length ≤ 4194304) (hX : X.length ≤ 4194304 ∧ Y.length ≤ 4194304)
    (hK : WQ 116 w0 Q (.exit 0) [(12, .map (some bm)), (9, .pointer (some ⟨bx, 0, none⟩)), (10, .pointer (some ⟨by_, 0, none⟩)), (11, .pointer (some ⟨bz, 0, none⟩)), (13, .map (some bm2))] [] m (.blk bm (mapO .i64 (kv M)) :: H)) :
    WC Tryz.prog none 116 w0 ((loopsIn (Tryz.f33.body.getD .skip)).getD 0 .skip) Q [(45, .int .i64 0), (44, .int .i64 (M.length : Int)), (43, .slice a M.length cp), (12, .map (some bm)), (9, .pointer (some ⟨bx, 0, none⟩)), (10, .pointer (some ⟨by_, 0, none⟩)), (11, .pointer (some ⟨bz, 0, none⟩)), (13, .map (some bm2))] [] m
      (.blk bm (mapO .i64 []) :: .row a cp 134 2 (M.map prE) :: H) := by
  have hml : (M.map prE).length = M.length := List.length_map _
  rw [show ([] : List (Int × Value)) = kv (M.take 0) from by unfold kv; rfl]
  refine WC.loopH [(45, .int .i64 ((0) : Int)), (44, .int .i64 (M.length : Int)), (43, .slice a M.length cp), (12, .map (some bm)), (9, .pointer (some ⟨bx, 0, none⟩)), (10, .pointer (some ⟨by_, 0, none⟩)), (11, .pointer (some ⟨bz, 0, none⟩)), (13, .map (some bm2))] ?_ ?_ (fun j r ds m' H' => ∃ i, j = M.length - i ∧ r = [(45, .int .i64 (i : Int)), (44, .int .i64 (M.length : Int)), (43, .slice a M.length cp), (12, .map (some bm)), (9, .pointer (some ⟨bx, 0, none⟩)), (10, .pointer (some ⟨by_, 0, none⟩)), (11, .pointer (some ⟨bz, 0, none⟩)), (13, .map (some bm2))] ∧ ds = [] ∧ m = m' ∧ H' = .blk bm (mapO .i64 (kv (M.take i))) :: .row a cp 134 2 (M.map prE) :: H ∧ (i ≤ M.length)) (M.length - (0)) ⟨0, rfl, rfl, rfl, rfl, rfl, by omega⟩ ?_
  · (repeat (first | exact Env.Sub.nil | refine Env.Sub.cons rfl ?_))
  · exact zpk
  rintro j r ds m' H' ⟨i, rfl, rfl, rfl, rfl, rfl, hi⟩
  by_cases hlt : i < M.length
  · obtain ⟨p, hp⟩ : ∃ p, M[i]? = some p := ⟨_, List.getElem?_eq_getElem hlt⟩
    have hgp : (M.map prE)[i]? = some [.int .i64 (p.1 : Int), .int .i64 (p.2 : Int)] := by rw [List.getElem?_map, hp]; rfl
    have hnew : (kv (M.take i)).lookup (p.1 : Int) = none := by
      rw [kv_lookup, hM.fresh (A := M.take i) (p := p) (B := M.drop (i + 1)) (by
        obtain ⟨h1, h2⟩ := List.getElem?_eq_some_iff.1 hp
        conv => lhs; rw [← List.take_append_drop i M, List.drop_eq_getElem_cons h1, h2])]
      rfl
    have hsnoc : kv (M.take i) ++ [((p.1 : Int), Value.int .i64 (p.2 : Int))] = kv (M.take (i + 1)) := by
      unfold kv
      rw [List.take_succ, hp]; simp
    generalize M.map prE = ME at *
    generalize kv (M.take i) = K at *
    refine WC.rowSome zhs (by omega) ?_
    rintro a0 rfl
    (refine st_D15_1 ?_; intros; rename_i bp)
    refine WL.mapNew (q := .i64) (q' := .i64) rfl rfl rfl rfl rfl (by repeat (first | exact Repl.here | apply Repl.there)) hnew ?_
    rw [hsnoc]
    (try (refine st_D15_1 ?_; intros))
    refine WQ.next (M.length - (i + 1)) ⟨i + 1, rfl, rfl, rfl, rfl, rfl, ?_⟩ (by omega) zsb zpk
    · omega
  · rw [List.take_of_length_le (by omega)]
    (try (refine st_D15_1 ?_; intros))
    exact WQ.weak zsb zpk hK
theorem fill_other {X Y : List Tx} {M : List (Nat × Nat)} {a : Option Addr} {cp bm bm2 bx by_ bz : Nat} {w0 : World} {m : Mem} {H : SHeap} {Q : Exit → Act → World → Prop} (hM : PrOk X Y 0 0 M X.length Y.length) (hl : M.length ≤ 4194304) (hX : X.length ≤ 4194304 ∧ Y.length ≤ 4194304)
    (hK : WQ 116 w0 Q (.exit 2) [(13, .map (some bm)), (9, .pointer (some ⟨bx, 0, none⟩)), (10, .pointer (some ⟨by_, 0, none⟩)), (11, .pointer (some ⟨bz, 0, none⟩)), (12, .map (some bm2))] [] m (.blk bm (mapO .i64 (kv M)) :: H)) :
    WC Tryz.prog none 116 w0 ((loopsIn (Tryz.f33.body.getD .skip)).getD 1 .skip) Q [(59, .int .i64 0), (58, .int .i64 (M.length : Int)), (57, .slice a M.length cp), (13, .map (some bm)), (9, .pointer (some ⟨bx, 0, none⟩)), (10, .pointer (some ⟨by_, 0, none⟩)), (11, .pointer (some ⟨bz, 0, none⟩)), (12, .map (some bm2))] [] m
      (.blk bm (mapO .i64 []) :: .row a cp 134 2 (M.map prE) :: H) := by
  have hml : (M.map prE).length = M.length := List.length_map _
  rw [show ([] : List (Int × Value)) = kv (M.take 0) from by unfold kv; rfl]
  refine WC.loopH [(59, .int .i64 ((0) : Int)), (58, .int .i64 (M.length : Int)), (57, .slice a M.length cp), (13, .map (some bm)), (9, .pointer (some ⟨bx, 0, none⟩)), (10, .pointer (some ⟨by_, 0, none⟩)), (11, .pointer (some ⟨bz, 0, none⟩)), (12, .map (some bm2))] ?_ ?_ (fun j r ds m' H' => ∃ i, j = M.length - i ∧ r = [(59, .int .i64 (i : Int)), (58, .int .i64 (M.length : Int)), (57, .slice a M.length cp), (13, .map (some bm)), (9, .pointer (some ⟨bx, 0, none⟩)), (10, .pointer (some ⟨by_, 0, none⟩)), (11, .pointer (some ⟨bz, 0, none⟩)), (12, .map (some bm2))] ∧ ds = [] ∧ m = m' ∧ H' = .blk bm (mapO .i64 (kv (M.take i))) :: .row a cp 134 2 (M.map prE) :: H ∧ (i ≤ M.length)) (M.length - (0)) ⟨0, rfl, rfl, rfl, rfl, rfl, by omega⟩ ?_
  · (repeat (first | exact Env.Sub.nil | refine Env.Sub.cons rfl ?_))
  · exact zpk
  rintro j r ds m' H' ⟨i, rfl, rfl, rfl, rfl, rfl, hi⟩
  by_cases hlt : i < M.length
  · obtain ⟨p, hp⟩ : ∃ p, M[i]? = some p := ⟨_, List.getElem?_eq_getElem hlt⟩
    have hgp : (M.map prE)[i]? = some [.int .i64 (p.1 : Int), .int .i64 (p.2 : Int)] := by rw [List.getElem?_map, hp]; rfl
    have hnew : (kv (M.take i)).lookup (p.1 : Int) = none := by
      rw [kv_lookup, hM.fresh (A := M.take i) (p := p) (B := M.drop (i + 1)) (by
        obtain ⟨h1, h2⟩ := List.getElem?_eq_some_iff.1 hp
        conv => lhs; rw [← List.take_append_drop i M, List.drop_eq_getElem_cons h1, h2])]
      rfl
    have hsnoc : kv (M.take i) ++ [((p.1 : Int), Value.int .i64 (p.2 : Int))] = kv (M.take (i + 1)) := by
      unfold kv
      rw [List.take_succ, hp]; simp
    generalize M.map prE = ME at *
    generalize kv (M.take i) = K at *
    refine WC.rowSome zhs (by omega) ?_
    rintro a0 rfl
    (refine st_D15_1 ?_; intros; rename_i bp)
    refine WL.mapNew (q := .i64) (q' := .i64) rfl rfl rfl rfl rfl (by repeat (first | exact Repl.here | apply Repl.there)) hnew ?_
    rw [hsnoc]
    (try (refine st_D15_1 ?_; intros))
    refine WQ.next (M.length - (i + 1)) ⟨i + 1, rfl, rfl, rfl, rfl, rfl, ?_⟩ (by omega) zsb zpk
    · omega
  · rw [List.take_of_length_le (by omega)]
    (try (refine st_D15_1 ?_; intros))
    exact WQ.weak zsb zpk hK
end Go.Proofs.YtgckeelnhafgaaaGreatDoor

/-
  The walk of draft.Weave: its loop over the tokens. No condition.
-/
namespace Go.Eng
open Go Go.RowKit
/-- where a match stands at a place -/
def MSt (X Y : List Tx) (M : List (Nat × Nat)) (i k : Nat) : Prop := ∃ l2, PrOk X Y i k l2 X.length Y.length ∧ ∀ j, i ≤ j → M.lookup j = l2.lookup j
theorem MSt.start {X Y : List Tx} : MSt X Y (matchL X Y) 0 0 := ⟨_, match_ok X Y, fun _ _ => rfl⟩
theorem MSt.le {X Y : List Tx} {M : List (Nat × Nat)} {i k : Nat} (h : MSt X Y M i k) : k ≤ Y.length := by
  obtain ⟨l2, h1, _⟩ := h
  exact h1.le.2
theorem MSt.next {X Y : List Tx} {M : List (Nat × Nat)} {i k : Nat} (h : MSt X Y M i k) (hi : i < X.length) :
    MSt X Y M (i + 1) k ∧ (M.lookup i = none ∨ ∃ p, M.lookup i = some p ∧ k ≤ p ∧ p < Y.length ∧ (∃ x, X[i]? = some x ∧ Y[p]? = some x) ∧ MSt X Y M (i + 1) (p + 1)) := by
  obtain ⟨l2, h1, h2⟩ := h
  rcases h1.next hi with ⟨g1, g2⟩ | ⟨p, l3, g1, g2, g3, g4, g5, g6⟩
  · exact ⟨⟨l2, g2, fun j hj => h2 j (by omega)⟩, .inl (by rw [h2 i (Nat.le_refl _)]; exact g1)⟩
  · have e : ∀ j, i + 1 ≤ j → M.lookup j = l3.lookup j := fun j hj => by rw [h2 j (by omega)]; exact g6 j (by omega)
    exact ⟨⟨l3, g5.low (Nat.le_refl _) (by omega), e⟩, .inr ⟨p, by rw [h2 i (Nat.le_refl _)]; exact g1, g2, g3, g4, l3, g5, e⟩⟩
theorem sideT_le (o a c : Tx) : (sideT o a c).length ≤ max a.length c.length := by
  unfold sideT
  split
  · omega
  · omega
theorem sideC_le (n : Nat) (o a c : Tx) : (sideC n o a c).length ≤ 1 := by
  unfold sideC
  split <;> simp
theorem mem_le_flat {l : List Tx} {x : Tx} (h : x ∈ l) : x.length ≤ l.flatten.length := by
  induction l with
  | nil => cases h
  | cons y l ih =>
    rw [List.flatten_cons, List.length_append]
    rcases List.mem_cons.1 h with rfl | h
    · omega
    · have := ih h; omega
theorem wvGo_skip {x y z : List Tx} {M N : List (Nat × Nat)} {t : Tx} {ts : List Tx} {n : Nat} {w : Wv} (h : M.lookup n = none ∨ N.lookup n = none) : wvGo x y z M N (t :: ts) n w = wvGo x y z M N ts (n + 1) w := by
  rw [wvGo]
  rcases h with h | h
  · rw [h]
  · rw [h]
    cases M.lookup n <;> rfl
theorem wvGo_both {x y z : List Tx} {M N : List (Nat × Nat)} {t : Tx} {ts : List Tx} {n p q : Nat} {w : Wv} (h1 : M.lookup n = some p) (h2 : N.lookup n = some q) : wvGo x y z M N (t :: ts) n w = wvGo x y z M N ts (n + 1) ((w.side x y z n p q).add t) := by
  rw [wvGo, h1, h2]
end Go.Eng
namespace Go.Proofs.YtgckeelnhafgaaaGreatDoor
open Go Go.Eng
set_option maxRecDepth 100000
set_option maxHeartbeats 4000000
set_option linter.all false
attribute [local irreducible] WL WC WQ QFun QLoop Does Q1 QRound QAssign Go.Addr.add
attribute [local irreducible] kv mapO jn strs bCs cfs sideT sideC
theorem weave_loop {X Y Z : List Tx} {M N : List (Nat × Nat)} {bx by_ bz bat bl bb bm bm2 cx cy cz : Nat} {ax ay az : Option Addr} {w0 : World} {m : Mem} {H : SHeap} {Q : Exit → Act → World → Prop} {F : Wv}
    (hX : X.length ≤ 65536 ∧ X.flatten.length ≤ 65536 ∧ X.length ≤ cx) (hY : Y.length ≤ 65536 ∧ Y.flatten.length ≤ 65536 ∧ Y.length ≤ cy) (hZ : Z.length ≤ 65536 ∧ Z.flatten.length ≤ 65536 ∧ Z.length ≤ cz) (hM : MSt X Y M 0 0) (hN : MSt X Z N 0 0) (hF : wvGo X Y Z M N X 0 ⟨[], [], 0, 0, 0⟩ = F)
    (hK : ∀ (w : Wv) (al : Option Addr) (cl : Nat) (ao ab : Option Addr) (cb : Nat), w.side X Y Z X.length Y.length Z.length = F → w.p ≤ X.length → w.q ≤ Y.length → w.r ≤ Z.length → w.out.length ≤ 8589934592 → w.l.length ≤ 65536 → (ao = none ∨ ao = some ⟨bb, 0, none⟩) → (ab = none ∨ 0 < cb) →
      WQ 116 w0 Q (.exit 4) [(9, .pointer (some ⟨bx, 0, none⟩)), (10, .pointer (some ⟨by_, 0, none⟩)), (11, .pointer (some ⟨bz, 0, none⟩)), (18, .pointer (some ⟨bb, 0, none⟩)), (19, .pointer (some ⟨bl, 0, none⟩)), (21, .func (.func 68) #[] [.pointer (some ⟨bx, 0, none⟩), .pointer (some ⟨bat, 0, none⟩), .pointer (some ⟨by_, 0, none⟩), .pointer (some ⟨bz, 0, none⟩), .pointer (some ⟨bl, 0, none⟩), .pointer (some ⟨bb, 0, none⟩)].toArray)] [] m (.blk bx (.cells [.slice ax X.length cx].toArray 83 (0, 0)) :: .row ax cx 9 1 (strs X) :: .blk by_ (.cells [.slice ay Y.length cy].toArray 83 (0, 0)) :: .row ay cy 9 1 (strs Y) :: .blk bz (.cells [.slice az Z.length cz].toArray 83 (0, 0)) :: .row az cz 9 1 (strs Z) :: .blk bat (.cells [.int .i64 (w.p : Int), .int .i64 (w.q : Int), .int .i64 (w.r : Int)].toArray 135 (0, 0)) :: .blk bl (.cells [.slice al w.l.length cl].toArray 33 (0, 0)) :: .row al cl 138 5 (cfs w.l) :: .blk bb (.cells [.pointer ao, .slice ab w.out.length cb].toArray 111 (0, 0)) :: .row ab cb 5 1 (bCs w.out) :: H)) :
    WC Tryz.prog none 116 w0 ((loopsIn (Tryz.f33.body.getD .skip)).getD 2 .skip) Q [(72, .int .i64 0), (71, .int .i64 (X.length : Int)), (70, .slice ax X.length cx), (12, .map (some bm)), (13, .map (some bm2)), (9, .pointer (some ⟨bx, 0, none⟩)), (10, .pointer (some ⟨by_, 0, none⟩)), (11, .pointer (some ⟨bz, 0, none⟩)), (18, .pointer (some ⟨bb, 0, none⟩)), (19, .pointer (some ⟨bl, 0, none⟩)), (21, .func (.func 68) #[] [.pointer (some ⟨bx, 0, none⟩), .pointer (some ⟨bat, 0, none⟩), .pointer (some ⟨by_, 0, none⟩), .pointer (some ⟨bz, 0, none⟩), .pointer (some ⟨bl, 0, none⟩), .pointer (some ⟨bb, 0, none⟩)].toArray)] [] m
      (.blk bx (.cells [.slice ax X.length cx].toArray 83 (0, 0)) :: .row ax cx 9 1 (strs X) :: .blk by_ (.cells [.slice ay Y.length cy].toArray 83 (0, 0)) :: .row ay cy 9 1 (strs Y) :: .blk bz (.cells [.slice az Z.length cz].toArray 83 (0, 0)) :: .row az cz 9 1 (strs Z) :: .blk bat (.cells [.int .i64 0, .int .i64 0, .int .i64 0].toArray 135 (0, 0)) :: .blk bl (.cells [.slice none 0 0].toArray 33 (0, 0)) :: .row none 0 138 5 (cfs []) :: .blk bb (.cells [.pointer none, .slice none 0 0].toArray 111 (0, 0)) :: .row none 0 5 1 (bCs []) :: .blk bm (mapO .i64 (kv M)) :: .blk bm2 (mapO .i64 (kv N)) :: H) := by
  have hXs : (strs X).length = X.length := by simp [strs]
  refine WC.loopH [(72, .int .i64 ((0) : Int)), (71, .int .i64 (X.length : Int)), (70, .slice ax X.length cx), (12, .map (some bm)), (13, .map (some bm2)), (9, .pointer (some ⟨bx, 0, none⟩)), (10, .pointer (some ⟨by_, 0, none⟩)), (11, .pointer (some ⟨bz, 0, none⟩)), (18, .pointer (some ⟨bb, 0, none⟩)), (19, .pointer (some ⟨bl, 0, none⟩)), (21, .func (.func 68) #[] [.pointer (some ⟨bx, 0, none⟩), .pointer (some ⟨bat, 0, none⟩), .pointer (some ⟨by_, 0, none⟩), .pointer (some ⟨bz, 0, none⟩), .pointer (some ⟨bl, 0, none⟩), .pointer (some ⟨bb, 0, none⟩)].toArray)] ?_ ?_ (fun j r ds m' H' => ∃ (i : Nat) (w : Wv) (al : Option Addr) (cl : Nat) (ao : Option Addr) (ab : Option Addr) (cb : Nat), j = X.length - i ∧ r = [(72, .int .i64 (i : Int)), (71, .int .i64 (X.length : Int)), (70, .slice ax X.length cx), (12, .map (some bm)), (13, .map (some bm2)), (9, .pointer (some ⟨bx, 0, none⟩)), (10, .pointer (some ⟨by_, 0, none⟩)), (11, .pointer (some ⟨bz, 0, none⟩)), (18, .pointer (some ⟨bb, 0, none⟩)), (19, .pointer (some ⟨bl, 0, none⟩)), (21, .func (.func 68) #[] [.pointer (some ⟨bx, 0, none⟩), .pointer (some ⟨bat, 0, none⟩), .pointer (some ⟨by_, 0, none⟩), .pointer (some ⟨bz, 0, none⟩), .pointer (some ⟨bl, 0, none⟩), .pointer (some ⟨bb, 0, none⟩)].toArray)] ∧ ds = [] ∧ m = m' ∧ H' = .blk bx (.cells [.slice ax X.length cx].toArray 83 (0, 0)) :: .row ax cx 9 1 (strs X) :: .blk by_ (.cells [.slice ay Y.length cy].toArray 83 (0, 0)) :: .row ay cy 9 1 (strs Y) :: .blk bz (.cells [.slice az Z.length cz].toArray 83 (0, 0)) :: .row az cz 9 1 (strs Z) :: .blk bat (.cells [.int .i64 (w.p : Int), .int .i64 (w.q : Int), .int .i64 (w.r : Int)].toArray 135 (0, 0)) :: .blk bl (.cells [.slice al w.l.length cl].toArray 33 (0, 0)) :: .row al cl 138 5 (cfs w.l) :: .blk bb (.cells [.pointer ao, .slice ab w.out.length cb].toArray 111 (0, 0)) :: .row ab cb 5 1 (bCs w.out) :: .blk bm (mapO .i64 (kv M)) :: .blk bm2 (mapO .i64 (kv N)) :: H ∧ (i ≤ X.length) ∧ (wvGo X Y Z M N (X.drop i) i w = F) ∧ (MSt X Y M i w.q) ∧ (MSt X Z N i w.r) ∧ (w.p ≤ i) ∧ (w.out.length ≤ i * 131072) ∧ (w.l.length ≤ i) ∧ (ao = none ∨ ao = some ⟨bb, 0, none⟩) ∧ (ab = none ∨ 0 < cb)) (X.length - (0)) ⟨0, ⟨[], [], 0, 0, 0⟩, none, 0, none, none, 0, rfl, rfl, rfl, rfl, rfl, by omega, hF, hM, hN, Nat.le_refl _, Nat.zero_le _, Nat.zero_le _, .inl rfl, .inl rfl⟩ ?_
  · (repeat (first | exact Env.Sub.nil | refine Env.Sub.cons rfl ?_))
  · exact zpk
  rintro j r ds m' H' ⟨i, w, al, cl, ao, ab, cb, rfl, rfl, rfl, rfl, rfl, hi, hgo, hM, hN, hp, hout, hL, hao, hab⟩
  by_cases hlt : i < X.length
  · obtain ⟨t, ht⟩ : ∃ t, X[i]? = some t := ⟨_, List.getElem?_eq_getElem hlt⟩
    have hgt := strs_get ht
    have htl : t.length ≤ 65536 := by have := mem_le_flat (List.mem_of_getElem? ht); omega
    rw [drop_get ht] at hgo
    obtain ⟨hM1, hM2⟩ := hM.next hlt
    obtain ⟨hN1, hN2⟩ := hN.next hlt
    have hkM := kv_lookup i M
    have hkN := kv_lookup i N
    generalize hKM : kv M = KM at *
    generalize hKN : kv N = KN at *
    generalize hSX : strs X = SX at *
    refine WC.rowSome (a := ax) (es := SX) zhs (by omega) ?_
    rintro a0 rfl
    rcases hM2 with hM2 | ⟨p, hM2, hqp, hpY, ⟨x, hx1, hx2⟩, hM3⟩
    · rw [hM2] at hkM
      rw [wvGo_skip (.inl hM2)] at hgo
      rcases hN2 with hN2 | ⟨q, hN2, _⟩
      all_goals
        rw [hN2] at hkN
        (try (refine st ?_; intros))
        refine WL.lookOk (q := .i64) (q' := .i64) (z := .int .i64 0) rfl rfl zhs rfl rfl (run_zero rfl) rfl ?_
        rw [hkM]
        simp only [Option.map_none, Option.map_some, Option.getD_none, Option.getD_some, Option.isSome_none, Option.isSome_some]
        (try (refine st ?_; intros))
        refine WL.lookOk (q := .i64) (q' := .i64) (z := .int .i64 0) rfl rfl zhs rfl rfl (run_zero rfl) rfl ?_
        rw [hkN]
        simp only [Option.map_none, Option.map_some, Option.getD_none, Option.getD_some, Option.isSome_none, Option.isSome_some]
        (try (refine st ?_; intros))
        subst hKM hKN hSX
        refine WQ.next (X.length - (i + 1)) ⟨i + 1, w, al, cl, ao, ab, cb, rfl, rfl, rfl, rfl, rfl, ?_, ?_, ?_, ?_, ?_, ?_, ?_, ?_, ?_⟩ (by omega) zsb zpk
        · omega
        · exact hgo
        · exact hM1
        · exact hN1
        · omega
        · exact Nat.le_trans hout (Nat.mul_le_mul_right _ (Nat.le_succ i))
        · omega
        · exact hao
        · exact hab
    · rw [hM2] at hkM
      rcases hN2 with hN2 | ⟨q, hN2, hrq, hqZ, ⟨y, hy1, hy2⟩, hN3⟩
      · rw [wvGo_skip (.inr hN2)] at hgo
        rw [hN2] at hkN
        (try (refine st ?_; intros))
        refine WL.lookOk (q := .i64) (q' := .i64) (z := .int .i64 0) rfl rfl zhs rfl rfl (run_zero rfl) rfl ?_
        rw [hkM]
        simp only [Option.map_none, Option.map_some, Option.getD_none, Option.getD_some, Option.isSome_none, Option.isSome_some]
        (try (refine st ?_; intros))
        refine WL.lookOk (q := .i64) (q' := .i64) (z := .int .i64 0) rfl rfl zhs rfl rfl (run_zero rfl) rfl ?_
        rw [hkN]
        simp only [Option.map_none, Option.map_some, Option.getD_none, Option.getD_some, Option.isSome_none, Option.isSome_some]
        (try (refine st ?_; intros))
        subst hKM hKN hSX
        refine WQ.next (X.length - (i + 1)) ⟨i + 1, w, al, cl, ao, ab, cb, rfl, rfl, rfl, rfl, rfl, ?_, ?_, ?_, ?_, ?_, ?_, ?_, ?_, ?_⟩ (by omega) zsb zpk
        · omega
        · exact hgo
        · exact hM1
        · exact hN1
        · omega
        · exact Nat.le_trans hout (Nat.mul_le_mul_right _ (Nat.le_succ i))
        · omega
        · exact hao
        · exact hab
      · rw [wvGo_both hM2 hN2] at hgo
        rw [hN2] at hkN
        (try (refine st ?_; intros))
        refine WL.lookOk (q := .i64) (q' := .i64) (z := .int .i64 0) rfl rfl zhs rfl rfl (run_zero rfl) rfl ?_
        rw [hkM]
        simp only [Option.map_none, Option.map_some, Option.getD_none, Option.getD_some, Option.isSome_none, Option.isSome_some]
        (try (refine st ?_; intros))
        refine WL.lookOk (q := .i64) (q' := .i64) (z := .int .i64 0) rfl rfl zhs rfl rfl (run_zero rfl) rfl ?_
        rw [hkN]
        simp only [Option.map_none, Option.map_some, Option.getD_none, Option.getD_some, Option.isSome_none, Option.isSome_some]
        (try (refine st ?_; intros))
        have hout2 : w.out.length ≤ 8589934592 := Nat.le_trans hout (Nat.le_trans (Nat.mul_le_mul_right _ (Nat.le_of_lt (Nat.lt_of_lt_of_le hlt hX.1))) (by decide))
        have hsl : (w.side X Y Z i p q).out.length ≤ w.out.length + 65536 := by
          show (w.out ++ sideT (jn X w.p i) (jn Y w.q p) (jn Z w.r q)).length ≤ _
          have h1 := sideT_le (jn X w.p i) (jn Y w.q p) (jn Z w.r q)
          have h2 := jn_le Y w.q p
          have h3 := jn_le Z w.r q
          rw [List.length_append]; omega
        have hcl : (w.side X Y Z i p q).l.length ≤ w.l.length + 1 := by
          show (w.l ++ sideC w.out.length (jn X w.p i) (jn Y w.q p) (jn Z w.r q)).length ≤ _
          have h1 := sideC_le w.out.length (jn X w.p i) (jn Y w.q p) (jn Z w.r q)
          rw [List.length_append]; omega
        have hsp : (w.side X Y Z i p q).p = i + 1 ∧ (w.side X Y Z i p q).q = p + 1 ∧ (w.side X Y Z i p q).r = q + 1 := ⟨rfl, rfl, rfl⟩
        subst hKM hKN hSX
        refine WL.heap (H' := [.blk bx (.cells [.slice (some a0) X.length cx].toArray 83 (0, 0)), .row (some a0) cx 9 1 (strs X), .blk by_ (.cells [.slice ay Y.length cy].toArray 83 (0, 0)), .row ay cy 9 1 (strs Y), .blk bz (.cells [.slice az Z.length cz].toArray 83 (0, 0)), .row az cz 9 1 (strs Z), .blk bat (.cells [.int .i64 (w.p : Int), .int .i64 (w.q : Int), .int .i64 (w.r : Int)].toArray 135 (0, 0)), .blk bl (.cells [.slice al w.l.length cl].toArray 33 (0, 0)), .row al cl 138 5 (cfs w.l), .blk bb (.cells [.pointer ao, .slice ab w.out.length cb].toArray 111 (0, 0)), .row ab cb 5 1 (bCs w.out)] ++ (.blk bm (mapO .i64 (kv M)) :: .blk bm2 (mapO .i64 (kv N)) :: H)) zpk ?_
        refine WL.callV rfl Tryz.func68 rfl rfl (by exact rfl) (by exact rfl) (side_any (X := X) (Y := Y) (Z := Z) (w := w) (n := i) (k1 := p) (k2 := q) ⟨by omega, by omega, hX.2.2⟩ ⟨by omega, by omega, hY.2.2⟩ ⟨by omega, by omega, hZ.2.2⟩ ⟨hp, by omega⟩ ⟨hqp, by omega⟩ ⟨hrq, by omega⟩ (by omega) (by omega) hao hab) ?_
        rintro v m9 H9 ⟨rfl, al2, cl2, ao2, ab2, cb2, hao2, hab2, rfl⟩
        obtain ⟨h1, h2, h3⟩ := hsp
        obtain ⟨w2, hw2⟩ : ∃ w2, w2 = w.side X Y Z i p q := ⟨_, rfl⟩
        rw [← hw2] at hsl hcl h1 h2 h3 hgo ⊢
        clear hw2
        simp only [List.cons_append, List.nil_append]
        (try (refine st ?_; intros))
        refine WL.heap (H' := .blk bb (.cells [.pointer ao2, .slice ab2 w2.out.length cb2].toArray 111 (0, 0)) :: .row ab2 cb2 5 1 (bCs w2.out) :: (.blk bx (.cells [.slice (some a0) X.length cx].toArray 83 (0, 0)) :: .row (some a0) cx 9 1 (strs X) :: .blk by_ (.cells [.slice ay Y.length cy].toArray 83 (0, 0)) :: .row ay cy 9 1 (strs Y) :: .blk bz (.cells [.slice az Z.length cz].toArray 83 (0, 0)) :: .row az cz 9 1 (strs Z) :: .blk bat (.cells [.int .i64 (w2.p : Int), .int .i64 (w2.q : Int), .int .i64 (w2.r : Int)].toArray 135 (0, 0)) :: .blk bl (.cells [.slice al2 w2.l.length cl2].toArray 33 (0, 0)) :: .row al2 cl2 138 5 (cfs w2.l) :: .blk bm (mapO .i64 (kv M)) :: .blk bm2 (mapO .i64 (kv N)) :: H)) zpk ?_
        refine w_callF Tryz.func48 ?_ (hs := writeString_any hao2 hab2 (by unfold FitsB; omega) _ _ _)
        rintro v m9 H9 ⟨rfl, rfl, ao3, ab3, cb3, hao3, hab3, rfl⟩
        obtain ⟨w3, hw3⟩ : ∃ w3, w3 = w2.add t := ⟨_, rfl⟩
        have e1 : w3.out = w2.out ++ t := by rw [hw3]; rfl
        have e2 : w3.l = w2.l := by rw [hw3]; rfl
        have e3 : w3.p = w2.p := by rw [hw3]; rfl
        have e4 : w3.q = w2.q := by rw [hw3]; rfl
        have e5 : w3.r = w2.r := by rw [hw3]; rfl
        have e6 : w3.out.length = w2.out.length + t.length := by rw [e1, List.length_append]
        rw [← hw3] at hgo
        rw [← e1, ← e2, ← e3, ← e4, ← e5]
        (try (refine st ?_; intros))
        refine WQ.next (X.length - (i + 1)) ⟨i + 1, w3, al2, cl2, ao3, ab3, cb3, rfl, rfl, rfl, rfl, rfl, ?_, ?_, ?_, ?_, ?_, ?_, ?_, ?_, ?_⟩ (by omega) zsb zpk
        · omega
        · exact hgo
        · rw [e4, h2]; exact hM3
        · rw [e5, h3]; exact hN3
        · omega
        · rw [Nat.succ_mul]
          generalize i * 131072 = I at *
          omega
        · rw [e2]; omega
        · exact hao3
        · exact hab3
  · rw [List.drop_of_length_le (by omega)] at hgo
    have hfin := hK w al cl ao ab cb hgo (by omega) hM.le hN.le (Nat.le_trans hout (Nat.le_trans (Nat.mul_le_mul_right _ (by omega : i ≤ 65536)) (by decide))) (by omega) hao hab
    (try (refine st ?_; intros))
    exact WQ.weak zsb zpk hfin
end Go.Proofs.YtgckeelnhafgaaaGreatDoor

/-
  The walk of draft.Weave. No condition.
-/
namespace Go.Eng
open Go
theorem PrOk.len {a b : List Tx} : ∀ {l : List (Nat × Nat)} {i k n m : Nat}, PrOk a b i k l n m → l.length ≤ n - i
  | [], _, _, _, _, _ => Nat.zero_le _
  | p :: l, i, k, n, m, ⟨h1, h2, h3, h4, _, h6⟩ => by
    have := PrOk.len h6
    rw [List.length_cons]; omega
end Go.Eng
namespace Go.Proofs.YtgckeelnhafgaaaGreatDoor
open Go Go.Eng
set_option maxRecDepth 100000
set_option maxHeartbeats 4000000
set_option linter.all false
attribute [local irreducible] WL WC WQ QFun QLoop Does Q1 QRound QAssign Go.Addr.add
/-- what draft.Weave answers -/
def wres (s t u : Tx) : Tx × List Cf × Nat := if Long [s, t, u] then ([], [], 3) else if 65536 < (weaveL s t u).out.length then ([], [], 3) else ((weaveL s t u).out, (weaveL s t u).l, 0)
theorem wres_long {s t u : Tx} (h : Long [s, t, u] ∨ 65536 < (weaveL s t u).out.length) : wres s t u = ([], [], 3) := by
  unfold wres
  rcases h with h | h
  · rw [if_pos h]
  · rw [if_pos h]; exact ite_self _
theorem wres_ok {s t u : Tx} (h1 : ¬ Long [s, t, u]) (h2 : ¬ 65536 < (weaveL s t u).out.length) : wres s t u = ((weaveL s t u).out, (weaveL s t u).l, 0) := by
  unfold wres
  rw [if_neg h1, if_neg h2]
def WeaveP (s t u : Tx) (m : Mem) (H : SHeap) (v : Value) (m' : Mem) (H' : SHeap) : Prop :=
  m.le m' ∧ ∃ al cl, v = .tuple #[str (wres s t u).1, .slice al (wres s t u).2.1.length cl, .int .i64 ((wres s t u).2.2 : Int)] ∧ H' = .row al cl 138 5 (cfs (wres s t u).2.1) :: H
attribute [local irreducible] kv mapO jn strs sideT sideC weaveL wvGo matchL toks
theorem sq_D17_1 {G : Prop} (h : G := by (repeat (first | (refine sp ?_; (repeat intro zzc)) | (refine WL.makeMap .i64 rfl ?_; intro zzc))); exact WQ.q1 rfl) : G := h
theorem cm_D17_1 {G G' : Prop} (next : G') (h : Bx G' → G := by intro zzn; (try (refine wcal 0 ?_ (hwl := by intro zm zF zle; exact sq_D17_1))); (try (refine wcal 1 ?_ (hwl := by intro zm zF zle; exact sq_D17_1))); (try (refine wcal 2 ?_ (hwl := by intro zm zF zle; exact sq_D17_1))); (try (refine wcal 3 ?_ (hwl := by intro zm zF zle; exact sq_D17_1))); (try (refine wcal 4 ?_ (hwl := by intro zm zF zle; exact sq_D17_1))); (try (refine wcal 5 ?_ (hwl := by intro zm zF zle; exact sq_D17_1))); (try (refine wcal 6 ?_ (hwl := by intro zm zF zle; exact sq_D17_1))); (try (refine wcal 7 ?_ (hwl := by intro zm zF zle; exact sq_D17_1))); (try (refine wcal 8 ?_ (hwl := by intro zm zF zle; exact sq_D17_1))); (try (refine wcal 9 ?_ (hwl := by intro zm zF zle; exact sq_D17_1))); (try (refine wcal 10 ?_ (hwl := by intro zm zF zle; exact sq_D17_1))); (try (refine wcal 11 ?_ (hwl := by intro zm zF zle; exact sq_D17_1))); (try (refine wcal 12 ?_ (hwl := by intro zm zF zle; exact sq_D17_1))); (try (refine wcal 13 ?_ (hwl := by intro zm zF zle; exact sq_D17_1))); (try (refine wcal 14 ?_ (hwl := by intro zm zF zle; exact sq_D17_1))); (try (refine wcal 15 ?_ (hwl := by intro zm zF zle; exact sq_D17_1))); (try (refine wcal 16 ?_ (hwl := by intro zm zF zle; exact sq_D17_1))); (try (refine wcal 17 ?_ (hwl := by intro zm zF zle; exact sq_D17_1))); (try (refine wcal 18 ?_ (hwl := by intro zm zF zle; exact sq_D17_1))); (try (refine wcal 19 ?_ (hwl := by intro zm zF zle; exact sq_D17_1))); (try (refine wcal 20 ?_ (hwl := by intro zm zF zle; exact sq_D17_1))); (try (refine wcal 21 ?_ (hwl := by intro zm zF zle; exact sq_D17_1))); (try (refine wcal 22 ?_ (hwl := by intro zm zF zle; exact sq_D17_1))); (try (refine wcal 23 ?_ (hwl := by intro zm zF zle; exact sq_D17_1))); (try (refine wcal 24 ?_ (hwl := by intro zm zF zle; exact sq_D17_1))); (try (refine wcal 25 ?_ (hwl := by intro zm zF zle; exact sq_D17_1))); (try (refine wcal 26 ?_ (hwl := by intro zm zF zle; exact sq_D17_1))); (try (refine wcal 27 ?_ (hwl := by intro zm zF zle; exact sq_D17_1))); (try (refine wcal 28 ?_ (hwl := by intro zm zF zle; exact sq_D17_1))); (try (refine wcal 29 ?_ (hwl := by intro zm zF zle; exact sq_D17_1))); (try (refine wcal 30 ?_ (hwl := by intro zm zF zle; exact sq_D17_1))); (try (refine wcal 31 ?_ (hwl := by intro zm zF zle; exact sq_D17_1))); (try (refine wcal 32 ?_ (hwl := by intro zm zF zle; exact sq_D17_1))); (try (refine wcal 33 ?_ (hwl := by intro zm zF zle; exact sq_D17_1))); (try (refine wcal 34 ?_ (hwl := by intro zm zF zle; exact sq_D17_1))); (try (refine wcal 35 ?_ (hwl := by intro zm zF zle; exact sq_D17_1))); (try (refine wcal 36 ?_ (hwl := by intro zm zF zle; exact sq_D17_1))); (try (refine wcal 37 ?_ (hwl := by intro zm zF zle; exact sq_D17_1))); (try (refine wcal 38 ?_ (hwl := by intro zm zF zle; exact sq_D17_1))); (try (refine wcal 39 ?_ (hwl := by intro zm zF zle; exact sq_D17_1))); (try (refine wcal 40 ?_ (hwl := by intro zm zF zle; exact sq_D17_1))); (try (refine wcal 41 ?_ (hwl := by intro zm zF zle; exact sq_D17_1))); exact zzn.out) : G := h ⟨next⟩
theorem st_D17_1 {G G' : Prop} (next : G') (h : Bx G' → G := by intro zzn; (first | ((refine st ?_; (repeat intro zzc)); (try ((first | (refine WL.makeMap .i64 rfl ?_; intro zzc) | ((refine iDraw ?_; (first | refine WC.drawAll rfl (by decide +kernel) ?_ | refine WC.draw 1 rfl (by decide +kernel) ?_ | refine WC.draw 2 rfl (by decide +kernel) ?_ | refine WC.draw 3 rfl (by decide +kernel) ?_ | refine WC.draw 4 rfl (by decide +kernel) ?_ | refine WC.draw 5 rfl (by decide +kernel) ?_ | refine WC.draw 6 rfl (by decide +kernel) ?_ | refine WC.draw 7 rfl (by decide +kernel) ?_ | refine WC.draw 8 rfl (by decide +kernel) ?_ | refine WC.draw 9 rfl (by decide +kernel) ?_ | refine WC.draw 10 rfl (by decide +kernel) ?_ | refine WC.draw 11 rfl (by decide +kernel) ?_ | refine WC.draw 12 rfl (by decide +kernel) ?_ | refine WC.draw 13 rfl (by decide +kernel) ?_ | refine WC.draw 14 rfl (by decide +kernel) ?_ | refine WC.draw 15 rfl (by decide +kernel) ?_ | refine WC.draw 16 rfl (by decide +kernel) ?_ | refine WC.draw 17 rfl (by decide +kernel) ?_ | refine WC.draw 18 rfl (by decide +kernel) ?_ | refine WC.draw 19 rfl (by decide +kernel) ?_ | refine WC.draw 20 rfl (by decide +kernel) ?_ | refine WC.draw 21 rfl (by decide +kernel) ?_ | refine WC.draw 22 rfl (by decide +kernel) ?_ | refine WC.draw 23 rfl (by decide +kernel) ?_ | refine WC.draw 24 rfl (by decide +kernel) ?_)); (repeat (refine WD.cons rfl (fun c h => by cases h) sq_D17_1 ?_)); refine WD.nil ?_)); (try (refine st ?_; (repeat intro zzc)))))) | ((first | (refine WL.makeMap .i64 rfl ?_; intro zzc) | ((refine iDraw ?_; (first | refine WC.drawAll rfl (by decide +kernel) ?_ | refine WC.draw 1 rfl (by decide +kernel) ?_ | refine WC.draw 2 rfl (by decide +kernel) ?_ | refine WC.draw 3 rfl (by decide +kernel) ?_ | refine WC.draw 4 rfl (by decide +kernel) ?_ | refine WC.draw 5 rfl (by decide +kernel) ?_ | refine WC.draw 6 rfl (by decide +kernel) ?_ | refine WC.draw 7 rfl (by decide +kernel) ?_ | refine WC.draw 8 rfl (by decide +kernel) ?_ | refine WC.draw 9 rfl (by decide +kernel) ?_ | refine WC.draw 10 rfl (by decide +kernel) ?_ | refine WC.draw 11 rfl (by decide +kernel) ?_ | refine WC.draw 12 rfl (by decide +kernel) ?_ | refine WC.draw 13 rfl (by decide +kernel) ?_ | refine WC.draw 14 rfl (by decide +kernel) ?_ | refine WC.draw 15 rfl (by decide +kernel) ?_ | refine WC.draw 16 rfl (by decide +kernel) ?_ | refine WC.draw 17 rfl (by decide +kernel) ?_ | refine WC.draw 18 rfl (by decide +kernel) ?_ | refine WC.draw 19 rfl (by decide +kernel) ?_ | refine WC.draw 20 rfl (by decide +kernel) ?_ | refine WC.draw 21 rfl (by decide +kernel) ?_ | refine WC.draw 22 rfl (by decide +kernel) ?_ | refine WC.draw 23 rfl (by decide +kernel) ?_ | refine WC.draw 24 rfl (by decide +kernel) ?_)); (repeat (refine WD.cons rfl (fun c h => by cases h) sq_D17_1 ?_)); refine WD.nil ?_)); (try (refine st ?_; (repeat intro zzc))))); (repeat ((first | (refine WL.makeMap .i64 rfl ?_; intro zzc) | ((refine iDraw ?_; (first | refine WC.drawAll rfl (by decide +kernel) ?_ | refine WC.draw 1 rfl (by decide +kernel) ?_ | refine WC.draw 2 rfl (by decide +kernel) ?_ | refine WC.draw 3 rfl (by decide +kernel) ?_ | refine WC.draw 4 rfl (by decide +kernel) ?_ | refine WC.draw 5 rfl (by decide +kernel) ?_ | refine WC.draw 6 rfl (by decide +kernel) ?_ | refine WC.draw 7 rfl (by decide +kernel) ?_ | refine WC.draw 8 rfl (by decide +kernel) ?_ | refine WC.draw 9 rfl (by decide +kernel) ?_ | refine WC.draw 10 rfl (by decide +kernel) ?_ | refine WC.draw 11 rfl (by decide +kernel) ?_ | refine WC.draw 12 rfl (by decide +kernel) ?_ | refine WC.draw 13 rfl (by decide +kernel) ?_ | refine WC.draw 14 rfl (by decide +kernel) ?_ | refine WC.draw 15 rfl (by decide +kernel) ?_ | refine WC.draw 16 rfl (by decide +kernel) ?_ | refine WC.draw 17 rfl (by decide +kernel) ?_ | refine WC.draw 18 rfl (by decide +kernel) ?_ | refine WC.draw 19 rfl (by decide +kernel) ?_ | refine WC.draw 20 rfl (by decide +kernel) ?_ | refine WC.draw 21 rfl (by decide +kernel) ?_ | refine WC.draw 22 rfl (by decide +kernel) ?_ | refine WC.draw 23 rfl (by decide +kernel) ?_ | refine WC.draw 24 rfl (by decide +kernel) ?_)); (repeat (refine WD.cons rfl (fun c h => by cases h) sq_D17_1 ?_)); refine WD.nil ?_)); (try (refine st ?_; (repeat intro zzc))))); (repeat revert zzc); exact zzn.out) : G := h ⟨next⟩
theorem weave_any (s t u : Tx) (w0 : World) (m : Mem) (H : SHeap) : Does Tryz.prog 33 #[str s, str t, str u] w0 m H (WeaveP s t u m H) := by
  refine Does.of_body (args := [str s, str t, str u]) Tryz.func33 rfl Tryz.ntmps33 rfl ?_
  by_cases hlong : Long [s, t, u]
  · have hw := wres_long (.inl hlong)
    refine WC.newRow (T := 138) (sz := 5) ?_
    (refine st_D17_1 ?_; intros; rename_i b3)
    refine w_callF Tryz.func40 ?_ (hs := long_any (L := [s, t, u]) (by simp) (rowR_blk (T := 9) (fz := (0, 0)) (L := [str s, str t, str u]) zhs (by unfold strs; rfl) (by simp [strs])))
    rintro v m H9 ⟨rfl, rfl, rfl⟩
    rw [dcd_true hlong]
    (try (refine st_D17_1 ?_; intros))
    exact q_fin0 (H0 := .row none 0 138 5 [] :: H) ⟨Mem.le.refl _, none, 0, by rw [hw], by rw [hw]; rfl⟩ (hd := zpk)
  · have hls : s.length ≤ 65536 := Nat.le_of_not_lt fun h => hlong ⟨s, by simp, h⟩
    have hlt : t.length ≤ 65536 := Nat.le_of_not_lt fun h => hlong ⟨t, by simp, h⟩
    have hlu : u.length ≤ 65536 := Nat.le_of_not_lt fun h => hlong ⟨u, by simp, h⟩
    (refine st_D17_1 ?_; intros; rename_i b3)
    refine w_callF Tryz.func40 ?_ (hs := long_any (L := [s, t, u]) (by simp) (rowR_blk (T := 9) (fz := (0, 0)) (L := [str s, str t, str u]) zhs (by unfold strs; rfl) (by simp [strs])))
    rintro v m H9 ⟨rfl, rfl, rfl⟩
    rw [dcd_false hlong]
    (try (refine st_D17_1 ?_; intros))
    refine w_callF Tryz.func46 ?_ (hs := toks_any s (by omega) _ _ _)
    rintro v m1 H1 ⟨hle1, ax, cx, rfl, rfl⟩
    (try (refine st_D17_1 ?_; intros))
    refine w_callF Tryz.func46 ?_ (hs := toks_any t (by omega) _ _ _)
    rintro v m2 H1 ⟨hle2, ay, cy, rfl, rfl⟩
    (try (refine st_D17_1 ?_; intros))
    refine w_callF Tryz.func46 ?_ (hs := toks_any u (by omega) _ _ _)
    rintro v m3 H1 ⟨hle3, az, cz, rfl, rfl⟩
    have hXl := toks_length s
    have hYl := toks_length t
    have hZl := toks_length u
    have hXf := congrArg List.length (toks_join s)
    have hYf := congrArg List.length (toks_join t)
    have hZf := congrArg List.length (toks_join u)
    have hW : wvGo (toks s) (toks t) (toks u) (matchL (toks s) (toks t)) (matchL (toks s) (toks u)) (toks s) 0 ⟨[], [], 0, 0, 0⟩ = weaveL s t u := by unfold weaveL; rfl
    generalize toks s = X at *
    generalize toks t = Y at *
    generalize toks u = Z at *
    refine WL.rowCap (a := ax) (cap := cx) (T := 9) (sz := 1) (es := strs X) zhs ?_
    intro hcx
    refine WL.rowCap (a := ay) (cap := cy) (T := 9) (sz := 1) (es := strs Y) zhs ?_
    intro hcy
    refine WL.rowCap (a := az) (cap := cz) (T := 9) (sz := 1) (es := strs Z) zhs ?_
    intro hcz
    rw [strs_length] at hcx hcy hcz
    (refine st_D17_1 ?_; intros; rename_i bx by_ bz bm bm2)
    refine w_callF Tryz.func67 ?_ (hs := match_any (A := X) (B := Y) (by omega) (by omega) hcx hcy (RowR.row (T := 9) (cap := cx) zhs) (RowR.row (T := 9) (cap := cy) zhs))
    rintro v m9 H9 ⟨rfl, a1, c1, rfl, rfl⟩
    have hM := match_ok X Y
    have hMl := hM.len
    (try (refine st_D17_1 ?_; intros))
    refine WC.weak zsb zpk (fill_own (bm := bm) (bm2 := bm2) (bx := bx) (by_ := by_) (bz := bz) (H := .blk bx (.cells [.slice ax X.length cx].toArray 83 (0, 0)) :: .row ax cx 9 1 (strs X) :: .blk by_ (.cells [.slice ay Y.length cy].toArray 83 (0, 0)) :: .row ay cy 9 1 (strs Y) :: .blk bz (.cells [.slice az Z.length cz].toArray 83 (0, 0)) :: .row az cz 9 1 (strs Z) :: .blk bm2 (mapO .i64 []) :: H) hM (by omega) ⟨by omega, by omega⟩ ?_)
    (try (refine st_D17_1 ?_; intros))
    refine w_callF Tryz.func67 ?_ (hs := match_any (A := X) (B := Z) (by omega) (by omega) hcx hcz (RowR.row (T := 9) (cap := cx) zhs) (RowR.row (T := 9) (cap := cz) zhs))
    rintro v m9 H9 ⟨rfl, a2, c2, rfl, rfl⟩
    have hN := match_ok X Z
    have hNl := hN.len
    (try (refine st_D17_1 ?_; intros))
    refine WC.weak zsb zpk (fill_other (bm := bm2) (bm2 := bm) (bx := bx) (by_ := by_) (bz := bz) (H := .blk bx (.cells [.slice ax X.length cx].toArray 83 (0, 0)) :: .row ax cx 9 1 (strs X) :: .blk by_ (.cells [.slice ay Y.length cy].toArray 83 (0, 0)) :: .row ay cy 9 1 (strs Y) :: .blk bz (.cells [.slice az Z.length cz].toArray 83 (0, 0)) :: .row az cz 9 1 (strs Z) :: .blk bm (mapO .i64 (kv (matchL X Y))) :: H) hN (by omega) ⟨by omega, by omega⟩ ?_)
    (refine st_D17_1 ?_; intros; rename_i bb bl bat)
    refine WC.newRow (T := 138) (sz := 5) ?_
    refine WC.newRow (T := 5) (sz := 1) ?_
    refine WC.weak zsb zpk (weave_loop (X := X) (Y := Y) (Z := Z) (M := matchL X Y) (N := matchL X Z) (F := weaveL s t u) (bx := bx) (by_ := by_) (bz := bz) (bat := bat) (bl := bl) (bb := bb) (bm := bm) (bm2 := bm2) (H := H) ⟨by omega, by omega, hcx⟩ ⟨by omega, by omega, hcy⟩ ⟨by omega, by omega, hcz⟩ MSt.start MSt.start hW ?_)
    intro w al cl ao ab cb hF hp hq hr hout hL hao hab
    have hFl : (w.side X Y Z X.length Y.length Z.length).out.length ≤ w.out.length + 65536 := by
      show (w.out ++ sideT (jn X w.p X.length) (jn Y w.q Y.length) (jn Z w.r Z.length)).length ≤ _
      have h1 := sideT_le (jn X w.p X.length) (jn Y w.q Y.length) (jn Z w.r Z.length)
      have h2 := jn_le Y w.q Y.length
      have h3 := jn_le Z w.r Z.length
      rw [List.length_append]; omega
    rw [hF] at hFl
    (try (refine st_D17_1 ?_; intros))
    refine WL.heap (H' := [.blk bx (.cells [.slice ax X.length cx].toArray 83 (0, 0)), .row ax cx 9 1 (strs X), .blk by_ (.cells [.slice ay Y.length cy].toArray 83 (0, 0)), .row ay cy 9 1 (strs Y), .blk bz (.cells [.slice az Z.length cz].toArray 83 (0, 0)), .row az cz 9 1 (strs Z), .blk bat (.cells [.int .i64 (w.p : Int), .int .i64 (w.q : Int), .int .i64 (w.r : Int)].toArray 135 (0, 0)), .blk bl (.cells [.slice al w.l.length cl].toArray 33 (0, 0)), .row al cl 138 5 (cfs w.l), .blk bb (.cells [.pointer ao, .slice ab w.out.length cb].toArray 111 (0, 0)), .row ab cb 5 1 (bCs w.out)] ++ H) zpk ?_
    refine WL.callV rfl Tryz.func68 rfl rfl (by exact rfl) (by exact rfl) (side_any (X := X) (Y := Y) (Z := Z) (w := w) (n := X.length) (k1 := Y.length) (k2 := Z.length) ⟨by omega, by omega, hcx⟩ ⟨by omega, by omega, hcy⟩ ⟨by omega, by omega, hcz⟩ ⟨hp, by omega⟩ ⟨hq, by omega⟩ ⟨hr, by omega⟩ (by omega) (by omega) hao hab) ?_
    rintro v m4 H9 ⟨rfl, al2, cl2, ao2, ab2, cb2, hao2, hab2, rfl⟩
    rw [hF]
    simp only [List.cons_append, List.nil_append]
    generalize hG : weaveL s t u = G at *
    (try (refine st_D17_1 ?_; intros))
    refine WL.heap (H' := .blk bb (.cells [.pointer ao2, .slice ab2 G.out.length cb2].toArray 111 (0, 0)) :: .row ab2 cb2 5 1 (bCs G.out) :: .blk bl (.cells [.slice al2 G.l.length cl2].toArray 33 (0, 0)) :: .row al2 cl2 138 5 (cfs G.l) :: H) zpk ?_
    refine w_callF Tryz.func51 ?_ (hs := bStr1_any hab2 (by omega) _ _ _)
    rintro v m5 H9 ⟨rfl, rfl, it, hk, rfl⟩
    (refine st_D17_1 ?_; intros; rename_i b8)
    refine w_callF Tryz.func40 ?_ (hs := long_any (L := [G.out]) (by simp) (rowR_blk (T := 9) (fz := (0, 0)) (L := [str G.out]) zhs (by unfold strs; rfl) (by simp [strs])))
    rintro v m6 H9 ⟨rfl, rfl, rfl⟩
    by_cases hbig : 65536 < G.out.length
    · have hw := wres_long (s := s) (t := t) (u := u) (.inr (by rw [hG]; exact hbig))
      rw [dcd_true (show Long [G.out] from ⟨G.out, by simp, hbig⟩)]
      refine WL.newRow (T := 138) (sz := 5) ?_
      (try (refine st_D17_1 ?_; intros))
      exact q_fin0 (H0 := .row none 0 138 5 [] :: H) ⟨hle1.trans (hle2.trans hle3), none, 0, by rw [hw], by rw [hw]; rfl⟩ (hd := zpk)
    · have hw := wres_ok (s := s) (t := t) (u := u) hlong (by rw [hG]; exact hbig)
      rw [hG] at hw
      rw [dcd_false (show ¬ Long [G.out] from by rintro ⟨x, hx, hx2⟩; rw [List.mem_singleton] at hx; subst hx; exact hbig hx2)]
      (try (refine st_D17_1 ?_; intros))
      refine WC.drawE 3 ([.blk bl (.cells [.slice al2 G.l.length cl2].toArray 33 (0, 0))]) (.blk bb (.cells [.pointer ao2, .slice ab2 G.out.length cb2].toArray 111 (0, 0)) :: it :: .row al2 cl2 138 5 (cfs G.l) :: H) rfl (by decide +kernel) zpk ?_
      (refine cm_D17_1 ?_)
      refine WE.act1 0 (by decide +kernel) rfl rfl (fun c h => by cases h) ?_
      refine WL.heap (H' := .blk bb (.cells [.pointer ao2, .slice ab2 G.out.length cb2].toArray 111 (0, 0)) :: it :: .blk bl (.cells [.slice al2 G.l.length cl2].toArray 33 (0, 0)) :: .row al2 cl2 138 5 (cfs G.l) :: H) zpk ?_
      refine w_callF Tryz.func51 ?_ (hs := bStr2_any hab2 (by omega) hk _ _ _)
      rintro v m7 H9 ⟨rfl, rfl, it2, hk2, rfl⟩
      (try (refine st_D17_1 ?_; intros))
      refine WQ.acted (B := []) (U := .row al2 cl2 138 5 (cfs G.l) :: H) rfl (Mem.le.refl _) zpk ?_
      (refine cm_D17_1 ?_)
      refine WE.done (by decide +kernel) ?_
      (try (refine st_D17_1 ?_; intros))
      exact q_fin0 (H0 := .row al2 cl2 138 5 (cfs G.l) :: H) ⟨hle1.trans (hle2.trans hle3), al2, cl2, by rw [hw], by rw [hw]⟩ (hd := zpk)
end Go.Proofs.YtgckeelnhafgaaaGreatDoor

/-
  A walk's engine: the first entry of a map whose keys are texts. No condition.
-/
set_option linter.all false
namespace Go.Eng
open Go Go.RowKit
section
variable {P : Program} {ro : Option Nat} {n : Nat} {w0 : World} {Q : Exit → Act → World → Prop} {r : Env} {ds : List Dfr} {m : Mem} {H : SHeap}
  {ops : Array Oper} {l : List Oper} {d : Nat} {ty : TypeId} {pos : String} {after : Array Edge} {t : TypeId} {x y : Operand}
theorem run_checkKeyS {kt : TypeId} {k : ByteArray} {e : Bool} {w : World} (hk : P.underlying kt = some .string) : (Instr.checkKey e 10000 kt (.string k)).run P w = .ok () w := by
  have key : ∀ j, (Instr.checkKey e (j + 1) kt (.string k)).run P w = .ok () w := by
    intro j
    rw [Instr.checkKey]
    simp [run_underlying hk]
  exact key 9999
theorem WL.mapFirst {kt et : TypeId} {b : Nat} {k : ByteArray} {v : Value} {u : Operand} {H' : SHeap} (hx : r.ev x = some (.map (some b))) (hy : r.ev y = some (.string k)) (hv : r.ev u = some v)
    (hu : P.underlying t = some (.map kt et)) (hk : P.underlying kt = some .string) (hr : Repl (.blk b (.map #[] 0)) (.blk b (.map #[⟨.string k, v, 0⟩] 1)) H H')
    (h : WL P ro n w0 ops Q l r ds m H') :
    WL P ro n w0 ops Q (⟨none, .insert t x y u, ty, pos, after, none⟩ :: l) r ds m H :=
  .act (fun m' H'' => m' = m ∧ H'' = H') rfl (fun _ h => by cases h)
    (fun tmps w ho hs => ⟨m, H', w.putObj b (.map #[⟨.string k, v, 0⟩] 1), by
      have hb : w.heap[b]? = some (.map #[] 0) := hs.own _ hr.mem
      have h1 : (getObj b).run P w = .ok (.map #[] 0) w := by simp [getObj, Sem.run, hb]
      have h3 : ∀ o, (setObj b o).run P w = .ok () (w.putObj b o) := fun o => by simp [setObj, Sem.run, hb, World.putObj]
      have h2 : (Instr.mapUpdate t (.map (some b)) (.string k) v).run P w = .ok () (w.putObj b (.map #[⟨.string k, v, 0⟩] 1)) := by
        simp only [Instr.mapUpdate, Sem.run_bind, run_underlying hu, Result.andThen_ok, h1]
        simp only [Sem.run_bind, Sem.run_pure, Result.andThen_ok, run_checkKeyS hk, Instr.findKey, run_underlying hk]
        rw [show Instr.findNow .string (.string k) (#[] : Array MapEntry).toList 0 = some none from rfl]
        simp only [Sem.run_pure, Result.andThen_ok]
        rw [h3]; rfl
      simp only [execOp, ho.ev hx, ho.ev hy, ho.ev hv, h2, Sem.run_bind, Result.andThen_ok]
      try rfl, hs.replObj hr, rfl, rfl⟩)
    (by rintro _ _ ⟨rfl, rfl⟩; exact h)
end
end Go.Eng

/-
  The walks of draft.New and Len. No condition.
-/
namespace Go.Proofs.YtgckeelnhafgaaaGreatDoor
open Go Go.Eng
set_option maxRecDepth 100000
set_option maxHeartbeats 4000000
set_option linter.all false
attribute [local irreducible] WL WC WQ QFun QLoop Does Q1 QRound QAssign Go.Addr.add
theorem sq_D18_1 {G : Prop} (h : G := by (repeat (first | (refine sp ?_; (repeat intro zzc)) | (refine WL.makeMap .i64 rfl ?_; intro zzc))); exact WQ.q1 rfl) : G := h
theorem st_D18_1 {G G' : Prop} (next : G') (h : Bx G' → G := by intro zzn; (first | ((refine st ?_; (repeat intro zzc)); (try ((first | (refine WL.makeMap .i64 rfl ?_; intro zzc) | ((refine iDraw ?_; (first | refine WC.drawAll rfl (by decide +kernel) ?_ | refine WC.draw 1 rfl (by decide +kernel) ?_ | refine WC.draw 2 rfl (by decide +kernel) ?_ | refine WC.draw 3 rfl (by decide +kernel) ?_ | refine WC.draw 4 rfl (by decide +kernel) ?_ | refine WC.draw 5 rfl (by decide +kernel) ?_ | refine WC.draw 6 rfl (by decide +kernel) ?_ | refine WC.draw 7 rfl (by decide +kernel) ?_ | refine WC.draw 8 rfl (by decide +kernel) ?_ | refine WC.draw 9 rfl (by decide +kernel) ?_ | refine WC.draw 10 rfl (by decide +kernel) ?_ | refine WC.draw 11 rfl (by decide +kernel) ?_ | refine WC.draw 12 rfl (by decide +kernel) ?_ | refine WC.draw 13 rfl (by decide +kernel) ?_ | refine WC.draw 14 rfl (by decide +kernel) ?_ | refine WC.draw 15 rfl (by decide +kernel) ?_ | refine WC.draw 16 rfl (by decide +kernel) ?_ | refine WC.draw 17 rfl (by decide +kernel) ?_ | refine WC.draw 18 rfl (by decide +kernel) ?_ | refine WC.draw 19 rfl (by decide +kernel) ?_ | refine WC.draw 20 rfl (by decide +kernel) ?_ | refine WC.draw 21 rfl (by decide +kernel) ?_ | refine WC.draw 22 rfl (by decide +kernel) ?_ | refine WC.draw 23 rfl (by decide +kernel) ?_ | refine WC.draw 24 rfl (by decide +kernel) ?_)); (repeat (refine WD.cons rfl (fun c h => by cases h) sq_D18_1 ?_)); refine WD.nil ?_)); (try (refine st ?_; (repeat intro zzc)))))) | ((first | (refine WL.makeMap .i64 rfl ?_; intro zzc) | ((refine iDraw ?_; (first | refine WC.drawAll rfl (by decide +kernel) ?_ | refine WC.draw 1 rfl (by decide +kernel) ?_ | refine WC.draw 2 rfl (by decide +kernel) ?_ | refine WC.draw 3 rfl (by decide +kernel) ?_ | refine WC.draw 4 rfl (by decide +kernel) ?_ | refine WC.draw 5 rfl (by decide +kernel) ?_ | refine WC.draw 6 rfl (by decide +kernel) ?_ | refine WC.draw 7 rfl (by decide +kernel) ?_ | refine WC.draw 8 rfl (by decide +kernel) ?_ | refine WC.draw 9 rfl (by decide +kernel) ?_ | refine WC.draw 10 rfl (by decide +kernel) ?_ | refine WC.draw 11 rfl (by decide +kernel) ?_ | refine WC.draw 12 rfl (by decide +kernel) ?_ | refine WC.draw 13 rfl (by decide +kernel) ?_ | refine WC.draw 14 rfl (by decide +kernel) ?_ | refine WC.draw 15 rfl (by decide +kernel) ?_ | refine WC.draw 16 rfl (by decide +kernel) ?_ | refine WC.draw 17 rfl (by decide +kernel) ?_ | refine WC.draw 18 rfl (by decide +kernel) ?_ | refine WC.draw 19 rfl (by decide +kernel) ?_ | refine WC.draw 20 rfl (by decide +kernel) ?_ | refine WC.draw 21 rfl (by decide +kernel) ?_ | refine WC.draw 22 rfl (by decide +kernel) ?_ | refine WC.draw 23 rfl (by decide +kernel) ?_ | refine WC.draw 24 rfl (by decide +kernel) ?_)); (repeat (refine WD.cons rfl (fun c h => by cases h) sq_D18_1 ?_)); refine WD.nil ?_)); (try (refine st ?_; (repeat intro zzc))))); (repeat ((first | (refine WL.makeMap .i64 rfl ?_; intro zzc) | ((refine iDraw ?_; (first | refine WC.drawAll rfl (by decide +kernel) ?_ | refine WC.draw 1 rfl (by decide +kernel) ?_ | refine WC.draw 2 rfl (by decide +kernel) ?_ | refine WC.draw 3 rfl (by decide +kernel) ?_ | refine WC.draw 4 rfl (by decide +kernel) ?_ | refine WC.draw 5 rfl (by decide +kernel) ?_ | refine WC.draw 6 rfl (by decide +kernel) ?_ | refine WC.draw 7 rfl (by decide +kernel) ?_ | refine WC.draw 8 rfl (by decide +kernel) ?_ | refine WC.draw 9 rfl (by decide +kernel) ?_ | refine WC.draw 10 rfl (by decide +kernel) ?_ | refine WC.draw 11 rfl (by decide +kernel) ?_ | refine WC.draw 12 rfl (by decide +kernel) ?_ | refine WC.draw 13 rfl (by decide +kernel) ?_ | refine WC.draw 14 rfl (by decide +kernel) ?_ | refine WC.draw 15 rfl (by decide +kernel) ?_ | refine WC.draw 16 rfl (by decide +kernel) ?_ | refine WC.draw 17 rfl (by decide +kernel) ?_ | refine WC.draw 18 rfl (by decide +kernel) ?_ | refine WC.draw 19 rfl (by decide +kernel) ?_ | refine WC.draw 20 rfl (by decide +kernel) ?_ | refine WC.draw 21 rfl (by decide +kernel) ?_ | refine WC.draw 22 rfl (by decide +kernel) ?_ | refine WC.draw 23 rfl (by decide +kernel) ?_ | refine WC.draw 24 rfl (by decide +kernel) ?_)); (repeat (refine WD.cons rfl (fun c h => by cases h) sq_D18_1 ?_)); refine WD.nil ?_)); (try (refine st ?_; (repeat intro zzc))))); (repeat revert zzc); exact zzn.out) : G := h ⟨next⟩
theorem new_any (s : Tx) (hs : s.length ≤ 65536) (w0 : World) (m : Mem) (H : SHeap) : Does Tryz.prog 21 #[str s] w0 m H (fun v m' H' => m' = m ∧ ∃ (b bm : Nat) (a : Option Addr) (c : Nat), v = .tuple #[.pointer (some ⟨b, 0, none⟩), .int .i64 0] ∧ H' = .blk b (.cells [.slice a 1 c, .map (some bm)].toArray 90 (0, 0)) :: H) := by
  refine Does.of_body (args := [str s]) Tryz.func21 rfl Tryz.ntmps21 rfl ?_
  (refine st_D18_1 ?_; intros; rename_i b3)
  refine w_callF Tryz.func40 ?_ (hs := long_any (L := [s]) (by simp) (rowR_blk (T := 9) (fz := (0, 0)) (L := [str s]) zhs rfl (by simp [strs])))
  rintro v m H9 ⟨rfl, rfl, rfl⟩
  rw [dcd_false (show ¬ Long [s] from by rintro ⟨x, hx, hx2⟩; rw [List.mem_singleton] at hx; subst hx; omega)]
  (refine st_D18_1 ?_; intros; rename_i bd bm)
  refine WL.mapFirst rfl rfl rfl rfl rfl (by repeat (first | exact Repl.here | apply Repl.there)) ?_
  (refine st_D18_1 ?_; intros; rename_i bh)
  exact q_fin0 (H0 := .blk bh (.cells [.slice (some ⟨bd, 0, none⟩) 1 1, .map (some bm)].toArray 90 (0, 0)) :: H) ⟨rfl, bh, bm, some ⟨bd, 0, none⟩, 1, rfl, rfl⟩ (hd := zpk)
theorem len_any {b n c : Nat} {a : Option Addr} {mp : Value} (w0 : World) (m : Mem) (H : SHeap) : Does Tryz.prog 19 #[.pointer (some ⟨b, 0, none⟩)] w0 m (.blk b (.cells [.slice a n c, mp].toArray 90 (0, 0)) :: H) (Gives (.int .i64 (n : Int)) m (.blk b (.cells [.slice a n c, mp].toArray 90 (0, 0)) :: H)) := by
  refine Does.of_body (args := [.pointer (some ⟨b, 0, none⟩)]) Tryz.func19 rfl Tryz.ntmps19 rfl ?_
  (try (refine st_D18_1 ?_; intros))
  exact q_fin0 (H0 := .blk b (.cells [.slice a n c, mp].toArray 90 (0, 0)) :: H) (Gives.mk rfl) (hd := zpk)
end Go.Proofs.YtgckeelnhafgaaaGreatDoor

/-
  The law's own example. No condition.
-/
namespace Go.Eng
open Go
theorem toks_abc : toks [97, 32, 98, 32, 99] = [[97], [32], [98], [32], [99]] := by decide +kernel
theorem toks_axc : toks [97, 32, 120, 32, 99] = [[97], [32], [120], [32], [99]] := by decide +kernel
theorem toks_abd : toks [97, 32, 98, 32, 100] = [[97], [32], [98], [32], [100]] := by decide +kernel
theorem match_axc : matchL [[97], [32], [98], [32], [99]] [[97], [32], [120], [32], [99]] = [(0, 0), (1, 1), (3, 3), (4, 4)] := by
  have h1 : headN [[97], [32], [98], [32], [99]] [[97], [32], [120], [32], [99]] = 2 := by decide +kernel
  have h2 : tailN [[97], [32], [98], [32], [99]] [[97], [32], [120], [32], [99]] = 2 := by decide +kernel
  have h3 : midA [[97], [32], [98], [32], [99]] [[97], [32], [120], [32], [99]] = [[98]] := by decide +kernel
  have h4 : midB [[97], [32], [98], [32], [99]] [[97], [32], [120], [32], [99]] = [[120]] := by decide +kernel
  unfold matchL
  rw [h1, h2, h3, h4]
  simp [midL, firstJ]
  decide
theorem match_abd : matchL [[97], [32], [98], [32], [99]] [[97], [32], [98], [32], [100]] = [(0, 0), (1, 1), (2, 2), (3, 3)] := by
  have h1 : headN [[97], [32], [98], [32], [99]] [[97], [32], [98], [32], [100]] = 4 := by decide +kernel
  have h2 : tailN [[97], [32], [98], [32], [99]] [[97], [32], [98], [32], [100]] = 0 := by decide +kernel
  have h3 : midA [[97], [32], [98], [32], [99]] [[97], [32], [98], [32], [100]] = [[99]] := by decide +kernel
  have h4 : midB [[97], [32], [98], [32], [99]] [[97], [32], [98], [32], [100]] = [[100]] := by decide +kernel
  unfold matchL
  rw [h1, h2, h3, h4]
  simp [midL, firstJ]
  decide
theorem weave_wakes : (weaveL [97, 32, 98, 32, 99] [97, 32, 120, 32, 99] [97, 32, 98, 32, 100]).out = [97, 32, 120, 32, 100] ∧ (weaveL [97, 32, 98, 32, 99] [97, 32, 120, 32, 99] [97, 32, 98, 32, 100]).l = [] := by
  unfold weaveL
  rw [toks_abc, toks_axc, toks_abd, match_axc, match_abd]
  decide +kernel
end Go.Eng

/-
  The walk of the laws' wakes. No condition.
-/
namespace Go.Proofs.YtgckeelnhafgaaaGreatDoor
open Go Go.Eng
set_option maxRecDepth 100000
set_option maxHeartbeats 4000000
set_option linter.all false
attribute [local irreducible] WL WC WQ QFun QLoop Does Q1 QRound QAssign Go.Addr.add
/-- a call that hands back a value; memory may have grown -/
def Tells (v : Value) (m : Mem) (H : SHeap) : Value → Mem → SHeap → Prop := fun u m' H' => m.le m' ∧ u = v ∧ H' = H
theorem Tells.mk {v u : Value} {m m' : Mem} {H : SHeap} (hm : m.le m') (h : u = v) : Tells v m H u m' H := ⟨hm, h, rfl⟩
theorem wres_wakes : wres [97, 32, 98, 32, 99] [97, 32, 120, 32, 99] [97, 32, 98, 32, 100] = ([97, 32, 120, 32, 100], [], 0) := by
  obtain ⟨h1, h2⟩ := weave_wakes
  rw [wres_ok (by rintro ⟨x, hx, hx2⟩; simp only [List.mem_cons, List.not_mem_nil, or_false] at hx; rcases hx with rfl | rfl | rfl <;> simp at hx2) (by rw [h1]; decide), h1, h2]
attribute [local irreducible] wres
theorem wakes_any (w0 : World) (m : Mem) (H : SHeap) : Does Tryz.prog 7 #[] w0 m H (Tells (.bool true) m H) := by
  refine Does.of_body (args := []) Tryz.func7 rfl Tryz.ntmps7 rfl ?_
  (try (refine st ?_; intros))
  refine w_callF Tryz.func33 ?_ (hs := weave_any [97, 32, 98, 32, 99] [97, 32, 120, 32, 99] [97, 32, 98, 32, 100] _ _ _)
  rintro v m1 H1 ⟨hle, al, cl, rfl, rfl⟩
  rw [show (wres [97, 32, 98, 32, 99] [97, 32, 120, 32, 99] [97, 32, 98, 32, 100]).1 = [97, 32, 120, 32, 100] by rw [wres_wakes], show (wres [97, 32, 98, 32, 99] [97, 32, 120, 32, 99] [97, 32, 98, 32, 100]).2.1 = [] by rw [wres_wakes], show (((wres [97, 32, 98, 32, 99] [97, 32, 120, 32, 99] [97, 32, 98, 32, 100]).2.2 : Nat) : Int) = 0 by rw [wres_wakes]; rfl, List.length_nil]
  (try (refine st ?_; intros))
  refine w_callF Tryz.func21 ?_ (hs := new_any [97] (by decide) _ _ _)
  rintro v m2 H2 ⟨rfl, b, bm, a, c, rfl, rfl⟩
  (try (refine st ?_; intros))
  refine w_callF Tryz.func19 ?_ (hs := len_any _ _ _)
  rintro v m3 H3 ⟨rfl, rfl, rfl⟩
  (try (refine st ?_; intros))
  exact q_fin0 (H0 := H) (Tells.mk hle (congrArg Value.bool (show dcd (((1 : Nat) : Int) = 1) = true from dcd_true rfl))) (hd := zpk)
end Go.Proofs.YtgckeelnhafgaaaGreatDoor

/-
  A walk's engine: an element of an array that is a value. No condition.
-/
set_option linter.all false
namespace Go.Eng
open Go Go.RowKit
section
variable {P : Program} {ro : Option Nat} {n : Nat} {w0 : World} {Q : Exit → Act → World → Prop} {r : Env} {ds : List Dfr} {m : Mem} {H : SHeap}
  {ops : Array Oper} {l : List Oper} {d : Nat} {ty : TypeId} {pos : String} {after : Array Edge} {t : TypeId}
theorem WL.indexA {ki : IntKind} {x y : Operand} {vs : List Value} {z : Int} {i len sz : Nat} {e : TypeId} {v : Value} (hx : r.ev x = some (.agg vs.toArray)) (hy : r.ev y = some (.int ki z)) (hz : z = (i : Int)) (hu : P.underlying t = some (.array len e)) (hsz : sizeB P e = some sz)
    (hv : partB P e vs (i * sz) = some v) (hi : i < len) (hd : Nat.blt d n = true) (h : WL P ro n w0 ops Q l ((d, v) :: r) ds m H) : WL P ro n w0 ops Q (⟨some d, .index t x y, ty, pos, after, none⟩ :: l) r ds m H :=
  .val hd (fun _ h => by cases h) (fun tmps w ho _ => by
    subst hz
    have h0 : (0 : Int) ≤ (i : Int) ∧ (i : Int) < (len : Int) := by omega
    have h1 := run_part (P := P) (xs := vs.toArray) hv w
    simp only [execOp, Instr.index, asIntOf, Sem.run_bind, Sem.run_pure, run_underlying hu, Result.andThen_ok, ho.ev hx, ho.ev hy, h0, and_self, if_true, Int.toNat_natCast, run_size hsz, h1]) h
end
end Go.Eng

/-
  The walk of the law DraftNone: a history that is not there. No condition.
-/
namespace Go.Proofs.YtgckeelnhafgaaaGreatDoor
open Go Go.Eng
set_option maxRecDepth 100000
set_option maxHeartbeats 4000000
set_option linter.all false
attribute [local irreducible] WL WC WQ QFun QLoop Does Q1 QRound QAssign Go.Addr.add
theorem commitNil (s t : Tx) (k : Int) (w0 : World) (m : Mem) (H : SHeap) : Does Tryz.prog 10 #[.pointer none, str s, .int .i64 k, str t] w0 m H (Gives (.tuple #[.int .i64 0, .int .i64 1]) m H) := by
  refine Does.of_body (args := [.pointer none, str s, .int .i64 k, str t]) Tryz.func10 rfl Tryz.ntmps10 rfl ?_
  (try (refine st ?_; intros))
  exact q_fin0 (H0 := H) (Gives.mk rfl) (hd := zpk)
theorem mergeNil (s t : Tx) (k : Int) (w0 : World) (m : Mem) (H : SHeap) : Does Tryz.prog 11 #[.pointer none, str s, str t, .int .i64 k] w0 m H (Gives (.tuple #[.int .i64 0, .slice none 0 0, .int .i64 1]) m H) := by
  refine Does.of_body (args := [.pointer none, str s, str t, .int .i64 k]) Tryz.func11 rfl Tryz.ntmps11 rfl ?_
  (try (refine st ?_; intros))
  exact q_fin0 (H0 := H) (Gives.mk rfl) (hd := zpk)
theorem atNil (k : Int) (w0 : World) (m : Mem) (H : SHeap) : Does Tryz.prog 43 #[.pointer none, .int .i64 k] w0 m H (Gives (.tuple #[.agg #[.int .i64 0, .slice none 0 0, str []], .int .i64 1]) m H) := by
  refine Does.of_body (args := [.pointer none, .int .i64 k]) Tryz.func43 rfl Tryz.ntmps43 rfl ?_
  (try (refine st ?_; intros))
  exact q_fin0 (H0 := H) (Gives.mk rfl) (hd := zpk)
theorem sq_D50_1 {G : Prop} (h : G := by (repeat (first | (refine sp ?_; (repeat intro zzc)) | (refine iF 43 rfl ?_; refine w_callG Tryz.func43 ?_ (hs := atNil _ _ _ _)))); exact WQ.q1 rfl) : G := h
theorem st_D50_1 {G G' : Prop} (next : G') (h : Bx G' → G := by intro zzn; (first | ((refine st ?_; (repeat intro zzc)); (try ((first | (refine iF 43 rfl ?_; refine w_callG Tryz.func43 ?_ (hs := atNil _ _ _ _)) | ((refine iDraw ?_; (first | refine WC.drawAll rfl (by decide +kernel) ?_ | refine WC.draw 1 rfl (by decide +kernel) ?_ | refine WC.draw 2 rfl (by decide +kernel) ?_ | refine WC.draw 3 rfl (by decide +kernel) ?_ | refine WC.draw 4 rfl (by decide +kernel) ?_ | refine WC.draw 5 rfl (by decide +kernel) ?_ | refine WC.draw 6 rfl (by decide +kernel) ?_ | refine WC.draw 7 rfl (by decide +kernel) ?_ | refine WC.draw 8 rfl (by decide +kernel) ?_ | refine WC.draw 9 rfl (by decide +kernel) ?_ | refine WC.draw 10 rfl (by decide +kernel) ?_ | refine WC.draw 11 rfl (by decide +kernel) ?_ | refine WC.draw 12 rfl (by decide +kernel) ?_ | refine WC.draw 13 rfl (by decide +kernel) ?_ | refine WC.draw 14 rfl (by decide +kernel) ?_ | refine WC.draw 15 rfl (by decide +kernel) ?_ | refine WC.draw 16 rfl (by decide +kernel) ?_ | refine WC.draw 17 rfl (by decide +kernel) ?_ | refine WC.draw 18 rfl (by decide +kernel) ?_ | refine WC.draw 19 rfl (by decide +kernel) ?_ | refine WC.draw 20 rfl (by decide +kernel) ?_ | refine WC.draw 21 rfl (by decide +kernel) ?_ | refine WC.draw 22 rfl (by decide +kernel) ?_ | refine WC.draw 23 rfl (by decide +kernel) ?_ | refine WC.draw 24 rfl (by decide +kernel) ?_)); (repeat (refine WD.cons rfl (fun c h => by cases h) sq_D50_1 ?_)); refine WD.nil ?_)); (try (refine st ?_; (repeat intro zzc)))))) | ((first | (refine iF 43 rfl ?_; refine w_callG Tryz.func43 ?_ (hs := atNil _ _ _ _)) | ((refine iDraw ?_; (first | refine WC.drawAll rfl (by decide +kernel) ?_ | refine WC.draw 1 rfl (by decide +kernel) ?_ | refine WC.draw 2 rfl (by decide +kernel) ?_ | refine WC.draw 3 rfl (by decide +kernel) ?_ | refine WC.draw 4 rfl (by decide +kernel) ?_ | refine WC.draw 5 rfl (by decide +kernel) ?_ | refine WC.draw 6 rfl (by decide +kernel) ?_ | refine WC.draw 7 rfl (by decide +kernel) ?_ | refine WC.draw 8 rfl (by decide +kernel) ?_ | refine WC.draw 9 rfl (by decide +kernel) ?_ | refine WC.draw 10 rfl (by decide +kernel) ?_ | refine WC.draw 11 rfl (by decide +kernel) ?_ | refine WC.draw 12 rfl (by decide +kernel) ?_ | refine WC.draw 13 rfl (by decide +kernel) ?_ | refine WC.draw 14 rfl (by decide +kernel) ?_ | refine WC.draw 15 rfl (by decide +kernel) ?_ | refine WC.draw 16 rfl (by decide +kernel) ?_ | refine WC.draw 17 rfl (by decide +kernel) ?_ | refine WC.draw 18 rfl (by decide +kernel) ?_ | refine WC.draw 19 rfl (by decide +kernel) ?_ | refine WC.draw 20 rfl (by decide +kernel) ?_ | refine WC.draw 21 rfl (by decide +kernel) ?_ | refine WC.draw 22 rfl (by decide +kernel) ?_ | refine WC.draw 23 rfl (by decide +kernel) ?_ | refine WC.draw 24 rfl (by decide +kernel) ?_)); (repeat (refine WD.cons rfl (fun c h => by cases h) sq_D50_1 ?_)); refine WD.nil ?_)); (try (refine st ?_; (repeat intro zzc))))); (repeat ((first | (refine iF 43 rfl ?_; refine w_callG Tryz.func43 ?_ (hs := atNil _ _ _ _)) | ((refine iDraw ?_; (first | refine WC.drawAll rfl (by decide +kernel) ?_ | refine WC.draw 1 rfl (by decide +kernel) ?_ | refine WC.draw 2 rfl (by decide +kernel) ?_ | refine WC.draw 3 rfl (by decide +kernel) ?_ | refine WC.draw 4 rfl (by decide +kernel) ?_ | refine WC.draw 5 rfl (by decide +kernel) ?_ | refine WC.draw 6 rfl (by decide +kernel) ?_ | refine WC.draw 7 rfl (by decide +kernel) ?_ | refine WC.draw 8 rfl (by decide +kernel) ?_ | refine WC.draw 9 rfl (by decide +kernel) ?_ | refine WC.draw 10 rfl (by decide +kernel) ?_ | refine WC.draw 11 rfl (by decide +kernel) ?_ | refine WC.draw 12 rfl (by decide +kernel) ?_ | refine WC.draw 13 rfl (by decide +kernel) ?_ | refine WC.draw 14 rfl (by decide +kernel) ?_ | refine WC.draw 15 rfl (by decide +kernel) ?_ | refine WC.draw 16 rfl (by decide +kernel) ?_ | refine WC.draw 17 rfl (by decide +kernel) ?_ | refine WC.draw 18 rfl (by decide +kernel) ?_ | refine WC.draw 19 rfl (by decide +kernel) ?_ | refine WC.draw 20 rfl (by decide +kernel) ?_ | refine WC.draw 21 rfl (by decide +kernel) ?_ | refine WC.draw 22 rfl (by decide +kernel) ?_ | refine WC.draw 23 rfl (by decide +kernel) ?_ | refine WC.draw 24 rfl (by decide +kernel) ?_)); (repeat (refine WD.cons rfl (fun c h => by cases h) sq_D50_1 ?_)); refine WD.nil ?_)); (try (refine st ?_; (repeat intro zzc))))); (repeat revert zzc); exact zzn.out) : G := h ⟨next⟩
theorem textNil (k : Int) (w0 : World) (m : Mem) (H : SHeap) : Does Tryz.prog 13 #[.pointer none, .int .i64 k] w0 m H (Gives (.tuple #[str [], .int .i64 1]) m H) := by
  refine Does.of_body (args := [.pointer none, .int .i64 k]) Tryz.func13 rfl Tryz.ntmps13 rfl ?_
  (try (refine st_D50_1 ?_; intros))
  exact q_fin0 (H0 := H) (Gives.mk rfl) (hd := zpk)
theorem originsNil (k : Int) (w0 : World) (m : Mem) (H : SHeap) : Does Tryz.prog 16 #[.pointer none, .int .i64 k] w0 m H (Gives (.tuple #[.slice none 0 0, .int .i64 1]) m H) := by
  refine Does.of_body (args := [.pointer none, .int .i64 k]) Tryz.func16 rfl Tryz.ntmps16 rfl ?_
  (try (refine st_D50_1 ?_; intros))
  exact q_fin0 (H0 := H) (Gives.mk rfl) (hd := zpk)
theorem headNil (s : Tx) (w0 : World) (m : Mem) (H : SHeap) : Does Tryz.prog 14 #[.pointer none, str s] w0 m H (Gives (.tuple #[.int .i64 0, .int .i64 1]) m H) := by
  refine Does.of_body (args := [.pointer none, str s]) Tryz.func14 rfl Tryz.ntmps14 rfl ?_
  (try (refine st_D50_1 ?_; intros))
  exact q_fin0 (H0 := H) (Gives.mk rfl) (hd := zpk)
theorem baseNil (a b : Int) (w0 : World) (m : Mem) (H : SHeap) : Does Tryz.prog 15 #[.pointer none, .int .i64 a, .int .i64 b] w0 m H (Gives (.tuple #[.int .i64 0, .int .i64 1]) m H) := by
  refine Does.of_body (args := [.pointer none, .int .i64 a, .int .i64 b]) Tryz.func15 rfl Tryz.ntmps15 rfl ?_
  (try (refine st_D50_1 ?_; intros))
  exact q_fin0 (H0 := H) (Gives.mk rfl) (hd := zpk)
theorem branchNil (s : Tx) (a : Int) (w0 : World) (m : Mem) (H : SHeap) : Does Tryz.prog 17 #[.pointer none, str s, .int .i64 a] w0 m H (Gives (.int .i64 1) m H) := by
  refine Does.of_body (args := [.pointer none, str s, .int .i64 a]) Tryz.func17 rfl Tryz.ntmps17 rfl ?_
  (try (refine st_D50_1 ?_; intros))
  exact q_fin0 (H0 := H) (Gives.mk rfl) (hd := zpk)
theorem dropNil (s : Tx) (w0 : World) (m : Mem) (H : SHeap) : Does Tryz.prog 18 #[.pointer none, str s] w0 m H (Gives (.int .i64 1) m H) := by
  refine Does.of_body (args := [.pointer none, str s]) Tryz.func18 rfl Tryz.ntmps18 rfl ?_
  (try (refine st_D50_1 ?_; intros))
  exact q_fin0 (H0 := H) (Gives.mk rfl) (hd := zpk)
theorem lenNil (w0 : World) (m : Mem) (H : SHeap) : Does Tryz.prog 19 #[.pointer none] w0 m H (Gives (.int .i64 0) m H) := by
  refine Does.of_body (args := [.pointer none]) Tryz.func19 rfl Tryz.ntmps19 rfl ?_
  (try (refine st_D50_1 ?_; intros))
  exact q_fin0 (H0 := H) (Gives.mk rfl) (hd := zpk)
theorem printNil (w0 : World) (m : Mem) (H : SHeap) : Does Tryz.prog 20 #[.pointer none] w0 m H (Gives (str []) m H) := by
  refine Does.of_body (args := [.pointer none]) Tryz.func20 rfl Tryz.ntmps20 rfl ?_
  (try (refine st_D50_1 ?_; intros))
  exact q_fin0 (H0 := H) (Gives.mk rfl) (hd := zpk)
theorem cloneNil (w0 : World) (m : Mem) (H : SHeap) : Does Tryz.prog 44 #[.slice none 0 0] w0 m H (Gives (.slice none 0 0) m H) := by
  refine Does.of_body (args := [.slice none 0 0]) Tryz.func44 rfl Tryz.ntmps44 rfl ?_
  (try (refine st_D50_1 ?_; intros))
  exact q_fin0 (H0 := H) (Gives.mk rfl) (hd := zpk)
theorem sq_D50_2 {G : Prop} (h : G := by (repeat (first | (refine sp ?_; (repeat intro zzc)) | (refine iF 43 rfl ?_; refine w_callG Tryz.func43 ?_ (hs := atNil _ _ _ _)) | (refine iF 44 rfl ?_; refine w_callG Tryz.func44 ?_ (hs := cloneNil _ _ _)))); exact WQ.q1 rfl) : G := h
theorem cm_D50_2 {G G' : Prop} (next : G') (h : Bx G' → G := by intro zzn; (try (refine wcal 0 ?_ (hwl := by intro zm zF zle; exact sq_D50_2))); (try (refine wcal 1 ?_ (hwl := by intro zm zF zle; exact sq_D50_2))); (try (refine wcal 2 ?_ (hwl := by intro zm zF zle; exact sq_D50_2))); (try (refine wcal 3 ?_ (hwl := by intro zm zF zle; exact sq_D50_2))); (try (refine wcal 4 ?_ (hwl := by intro zm zF zle; exact sq_D50_2))); (try (refine wcal 5 ?_ (hwl := by intro zm zF zle; exact sq_D50_2))); (try (refine wcal 6 ?_ (hwl := by intro zm zF zle; exact sq_D50_2))); (try (refine wcal 7 ?_ (hwl := by intro zm zF zle; exact sq_D50_2))); (try (refine wcal 8 ?_ (hwl := by intro zm zF zle; exact sq_D50_2))); (try (refine wcal 9 ?_ (hwl := by intro zm zF zle; exact sq_D50_2))); (try (refine wcal 10 ?_ (hwl := by intro zm zF zle; exact sq_D50_2))); (try (refine wcal 11 ?_ (hwl := by intro zm zF zle; exact sq_D50_2))); (try (refine wcal 12 ?_ (hwl := by intro zm zF zle; exact sq_D50_2))); (try (refine wcal 13 ?_ (hwl := by intro zm zF zle; exact sq_D50_2))); (try (refine wcal 14 ?_ (hwl := by intro zm zF zle; exact sq_D50_2))); (try (refine wcal 15 ?_ (hwl := by intro zm zF zle; exact sq_D50_2))); (try (refine wcal 16 ?_ (hwl := by intro zm zF zle; exact sq_D50_2))); (try (refine wcal 17 ?_ (hwl := by intro zm zF zle; exact sq_D50_2))); (try (refine wcal 18 ?_ (hwl := by intro zm zF zle; exact sq_D50_2))); (try (refine wcal 19 ?_ (hwl := by intro zm zF zle; exact sq_D50_2))); (try (refine wcal 20 ?_ (hwl := by intro zm zF zle; exact sq_D50_2))); (try (refine wcal 21 ?_ (hwl := by intro zm zF zle; exact sq_D50_2))); (try (refine wcal 22 ?_ (hwl := by intro zm zF zle; exact sq_D50_2))); (try (refine wcal 23 ?_ (hwl := by intro zm zF zle; exact sq_D50_2))); (try (refine wcal 24 ?_ (hwl := by intro zm zF zle; exact sq_D50_2))); (try (refine wcal 25 ?_ (hwl := by intro zm zF zle; exact sq_D50_2))); (try (refine wcal 26 ?_ (hwl := by intro zm zF zle; exact sq_D50_2))); (try (refine wcal 27 ?_ (hwl := by intro zm zF zle; exact sq_D50_2))); (try (refine wcal 28 ?_ (hwl := by intro zm zF zle; exact sq_D50_2))); (try (refine wcal 29 ?_ (hwl := by intro zm zF zle; exact sq_D50_2))); (try (refine wcal 30 ?_ (hwl := by intro zm zF zle; exact sq_D50_2))); (try (refine wcal 31 ?_ (hwl := by intro zm zF zle; exact sq_D50_2))); (try (refine wcal 32 ?_ (hwl := by intro zm zF zle; exact sq_D50_2))); (try (refine wcal 33 ?_ (hwl := by intro zm zF zle; exact sq_D50_2))); (try (refine wcal 34 ?_ (hwl := by intro zm zF zle; exact sq_D50_2))); (try (refine wcal 35 ?_ (hwl := by intro zm zF zle; exact sq_D50_2))); (try (refine wcal 36 ?_ (hwl := by intro zm zF zle; exact sq_D50_2))); (try (refine wcal 37 ?_ (hwl := by intro zm zF zle; exact sq_D50_2))); (try (refine wcal 38 ?_ (hwl := by intro zm zF zle; exact sq_D50_2))); (try (refine wcal 39 ?_ (hwl := by intro zm zF zle; exact sq_D50_2))); (try (refine wcal 40 ?_ (hwl := by intro zm zF zle; exact sq_D50_2))); (try (refine wcal 41 ?_ (hwl := by intro zm zF zle; exact sq_D50_2))); exact zzn.out) : G := h ⟨next⟩
theorem st_D50_2 {G G' : Prop} (next : G') (h : Bx G' → G := by intro zzn; (first | ((refine st ?_; (repeat intro zzc)); (try ((first | (refine iF 43 rfl ?_; refine w_callG Tryz.func43 ?_ (hs := atNil _ _ _ _)) | (refine iF 44 rfl ?_; refine w_callG Tryz.func44 ?_ (hs := cloneNil _ _ _)) | ((refine iDraw ?_; (first | refine WC.drawAll rfl (by decide +kernel) ?_ | refine WC.draw 1 rfl (by decide +kernel) ?_ | refine WC.draw 2 rfl (by decide +kernel) ?_ | refine WC.draw 3 rfl (by decide +kernel) ?_ | refine WC.draw 4 rfl (by decide +kernel) ?_ | refine WC.draw 5 rfl (by decide +kernel) ?_ | refine WC.draw 6 rfl (by decide +kernel) ?_ | refine WC.draw 7 rfl (by decide +kernel) ?_ | refine WC.draw 8 rfl (by decide +kernel) ?_ | refine WC.draw 9 rfl (by decide +kernel) ?_ | refine WC.draw 10 rfl (by decide +kernel) ?_ | refine WC.draw 11 rfl (by decide +kernel) ?_ | refine WC.draw 12 rfl (by decide +kernel) ?_ | refine WC.draw 13 rfl (by decide +kernel) ?_ | refine WC.draw 14 rfl (by decide +kernel) ?_ | refine WC.draw 15 rfl (by decide +kernel) ?_ | refine WC.draw 16 rfl (by decide +kernel) ?_ | refine WC.draw 17 rfl (by decide +kernel) ?_ | refine WC.draw 18 rfl (by decide +kernel) ?_ | refine WC.draw 19 rfl (by decide +kernel) ?_ | refine WC.draw 20 rfl (by decide +kernel) ?_ | refine WC.draw 21 rfl (by decide +kernel) ?_ | refine WC.draw 22 rfl (by decide +kernel) ?_ | refine WC.draw 23 rfl (by decide +kernel) ?_ | refine WC.draw 24 rfl (by decide +kernel) ?_)); (repeat (refine WD.cons rfl (fun c h => by cases h) sq_D50_2 ?_)); refine WD.nil ?_)); (try (refine st ?_; (repeat intro zzc)))))) | ((first | (refine iF 43 rfl ?_; refine w_callG Tryz.func43 ?_ (hs := atNil _ _ _ _)) | (refine iF 44 rfl ?_; refine w_callG Tryz.func44 ?_ (hs := cloneNil _ _ _)) | ((refine iDraw ?_; (first | refine WC.drawAll rfl (by decide +kernel) ?_ | refine WC.draw 1 rfl (by decide +kernel) ?_ | refine WC.draw 2 rfl (by decide +kernel) ?_ | refine WC.draw 3 rfl (by decide +kernel) ?_ | refine WC.draw 4 rfl (by decide +kernel) ?_ | refine WC.draw 5 rfl (by decide +kernel) ?_ | refine WC.draw 6 rfl (by decide +kernel) ?_ | refine WC.draw 7 rfl (by decide +kernel) ?_ | refine WC.draw 8 rfl (by decide +kernel) ?_ | refine WC.draw 9 rfl (by decide +kernel) ?_ | refine WC.draw 10 rfl (by decide +kernel) ?_ | refine WC.draw 11 rfl (by decide +kernel) ?_ | refine WC.draw 12 rfl (by decide +kernel) ?_ | refine WC.draw 13 rfl (by decide +kernel) ?_ | refine WC.draw 14 rfl (by decide +kernel) ?_ | refine WC.draw 15 rfl (by decide +kernel) ?_ | refine WC.draw 16 rfl (by decide +kernel) ?_ | refine WC.draw 17 rfl (by decide +kernel) ?_ | refine WC.draw 18 rfl (by decide +kernel) ?_ | refine WC.draw 19 rfl (by decide +kernel) ?_ | refine WC.draw 20 rfl (by decide +kernel) ?_ | refine WC.draw 21 rfl (by decide +kernel) ?_ | refine WC.draw 22 rfl (by decide +kernel) ?_ | refine WC.draw 23 rfl (by decide +kernel) ?_ | refine WC.draw 24 rfl (by decide +kernel) ?_)); (repeat (refine WD.cons rfl (fun c h => by cases h) sq_D50_2 ?_)); refine WD.nil ?_)); (try (refine st ?_; (repeat intro zzc))))); (repeat ((first | (refine iF 43 rfl ?_; refine w_callG Tryz.func43 ?_ (hs := atNil _ _ _ _)) | (refine iF 44 rfl ?_; refine w_callG Tryz.func44 ?_ (hs := cloneNil _ _ _)) | ((refine iDraw ?_; (first | refine WC.drawAll rfl (by decide +kernel) ?_ | refine WC.draw 1 rfl (by decide +kernel) ?_ | refine WC.draw 2 rfl (by decide +kernel) ?_ | refine WC.draw 3 rfl (by decide +kernel) ?_ | refine WC.draw 4 rfl (by decide +kernel) ?_ | refine WC.draw 5 rfl (by decide +kernel) ?_ | refine WC.draw 6 rfl (by decide +kernel) ?_ | refine WC.draw 7 rfl (by decide +kernel) ?_ | refine WC.draw 8 rfl (by decide +kernel) ?_ | refine WC.draw 9 rfl (by decide +kernel) ?_ | refine WC.draw 10 rfl (by decide +kernel) ?_ | refine WC.draw 11 rfl (by decide +kernel) ?_ | refine WC.draw 12 rfl (by decide +kernel) ?_ | refine WC.draw 13 rfl (by decide +kernel) ?_ | refine WC.draw 14 rfl (by decide +kernel) ?_ | refine WC.draw 15 rfl (by decide +kernel) ?_ | refine WC.draw 16 rfl (by decide +kernel) ?_ | refine WC.draw 17 rfl (by decide +kernel) ?_ | refine WC.draw 18 rfl (by decide +kernel) ?_ | refine WC.draw 19 rfl (by decide +kernel) ?_ | refine WC.draw 20 rfl (by decide +kernel) ?_ | refine WC.draw 21 rfl (by decide +kernel) ?_ | refine WC.draw 22 rfl (by decide +kernel) ?_ | refine WC.draw 23 rfl (by decide +kernel) ?_ | refine WC.draw 24 rfl (by decide +kernel) ?_)); (repeat (refine WD.cons rfl (fun c h => by cases h) sq_D50_2 ?_)); refine WD.nil ?_)); (try (refine st ?_; (repeat intro zzc))))); (repeat revert zzc); exact zzn.out) : G := h ⟨next⟩
theorem draftNil (k : Int) (w0 : World) (m : Mem) (H : SHeap) : Does Tryz.prog 12 #[.pointer none, .int .i64 k] w0 m H (Gives (.tuple #[.agg #[.int .i64 0, .slice none 0 0], .int .i64 1]) m H) := by
  refine Does.of_body (args := [.pointer none, .int .i64 k]) Tryz.func12 rfl Tryz.ntmps12 rfl ?_
  (refine st_D50_2 ?_; intros; rename_i b4 b6)
  refine WC.drawE 11 ([.blk b6 (.cells [.int .i64 0, .slice none 0 0, str []].toArray 97 (0, 0))]) (.blk b4 (.cells [.int .i64 0, .slice none 0 0].toArray 38 (0, 0)) :: H) rfl (by decide +kernel) zpk ?_
  (refine cm_D50_2 ?_)
  skip
  refine WE.act0 9 (by decide +kernel) rfl rfl (fun c h => by cases h) ?_
  (try (refine st_D50_2 ?_; intros))
  refine WQ.stored (B := []) (U := .blk b4 (.cells [.int .i64 0, .slice none 0 0].toArray 38 (0, 0)) :: H) (Mem.le.refl _) zpk ?_
  (refine cm_D50_2 ?_)
  refine WE.done (by decide +kernel) ?_
  (try (refine st_D50_2 ?_; intros))
  exact q_fin0 (H0 := H) (Gives.mk rfl) (hd := zpk)
theorem branchesIt (w0 : World) (m : Mem) (H : SHeap) : Does Tryz.prog 8 #[.pointer none] w0 m H
    (fun v m' H' => m' = m ∧ ∃ b, v = .func (.func 34) #[] #[.pointer (some ⟨b, 0, none⟩)] ∧ H' = .blk b (.cells [.pointer none].toArray 23 (0, 0)) :: H) := by
  refine Does.of_body (args := [.pointer none]) Tryz.func8 rfl Tryz.ntmps8 rfl ?_
  (refine st_D50_2 ?_; intros; rename_i b)
  exact q_fin0 (H0 := .blk b (.cells [.pointer none].toArray 23 (0, 0)) :: H) ⟨rfl, b, rfl, rfl⟩ (hd := zpk)
theorem logIt (k : Int) (w0 : World) (m : Mem) (H : SHeap) : Does Tryz.prog 9 #[.pointer none, .int .i64 k] w0 m H
    (fun v m' H' => m' = m ∧ ∃ b c, v = .func (.func 37) #[] #[.pointer (some ⟨b, 0, none⟩), .pointer (some ⟨c, 0, none⟩)] ∧ H' = .blk b (.cells [.pointer none].toArray 23 (0, 0)) :: .blk c (.cells [.int .i64 k].toArray 3 (0, 0)) :: H) := by
  refine Does.of_body (args := [.pointer none, .int .i64 k]) Tryz.func9 rfl Tryz.ntmps9 rfl ?_
  (refine st_D50_2 ?_; intros; rename_i b c)
  exact q_fin0 (H0 := .blk b (.cells [.pointer none].toArray 23 (0, 0)) :: .blk c (.cells [.int .i64 k].toArray 3 (0, 0)) :: H) ⟨rfl, b, c, rfl, rfl⟩ (hd := zpk)
theorem branchesNil_seq {b : Nat} : SeqM Tryz.prog 34 [.pointer (some ⟨b, 0, none⟩)] (fun p : Tx × Int => [str p.1, .int .i64 p.2]) [] (fun m => m b = some (.cells [.pointer none].toArray 23 (0, 0))) := by
  intro w0 l J Jx m H _ _ hb h0 _
  refine Does.of_body (args := [.func (.yield l) #[] #[], .pointer (some ⟨b, 0, none⟩)]) Tryz.func34 rfl Tryz.ntmps34 rfl ?_
  (try (refine st_D50_2 ?_; intros))
  exact q_fin0 (H0 := H) ⟨Mem.le.refl _, .inl h0⟩ (hd := zpk)
theorem logNil_seq {b c : Nat} {k : Int} : SeqM Tryz.prog 37 [.pointer (some ⟨b, 0, none⟩), .pointer (some ⟨c, 0, none⟩)] (fun p : Int => [.int .i64 p]) [] (fun m => m b = some (.cells [.pointer none].toArray 23 (0, 0))) := by
  intro w0 l J Jx m H _ _ hb h0 _
  refine Does.of_body (args := [.func (.yield l) #[] #[], .pointer (some ⟨b, 0, none⟩), .pointer (some ⟨c, 0, none⟩)]) Tryz.func37 rfl Tryz.ntmps37 rfl ?_
  (try (refine st_D50_2 ?_; intros))
  exact q_fin0 (H0 := H) ⟨Mem.le.refl _, .inl h0⟩ (hd := zpk)
end Go.Proofs.YtgckeelnhafgaaaGreatDoor

/-
  The walk of the law DraftNone, whole. No condition.
-/
namespace Go.Proofs.YtgckeelnhafgaaaGreatDoor
open Go Go.Eng
set_option maxRecDepth 100000
set_option maxHeartbeats 4000000
set_option linter.all false
attribute [local irreducible] WL WC WQ QFun QLoop Does Q1 QRound QAssign Go.Addr.add
theorem sq_D51_1 {G : Prop} (h : G := by (repeat (first | (refine sp ?_; (repeat intro zzc)) | (refine iF 10 rfl ?_; refine w_callG Tryz.func10 ?_ (hs := commitNil _ _ _ _ _ _)) | (refine iF 11 rfl ?_; refine w_callG Tryz.func11 ?_ (hs := mergeNil _ _ _ _ _ _)) | (refine iF 12 rfl ?_; refine w_callG Tryz.func12 ?_ (hs := draftNil _ _ _ _)) | (refine iF 13 rfl ?_; refine w_callG Tryz.func13 ?_ (hs := textNil _ _ _ _)) | (refine iF 14 rfl ?_; refine w_callG Tryz.func14 ?_ (hs := headNil _ _ _ _)) | (refine iF 15 rfl ?_; refine w_callG Tryz.func15 ?_ (hs := baseNil _ _ _ _ _)) | (refine iF 16 rfl ?_; refine w_callG Tryz.func16 ?_ (hs := originsNil _ _ _ _)) | (refine iF 17 rfl ?_; refine w_callG Tryz.func17 ?_ (hs := branchNil _ _ _ _ _)) | (refine iF 18 rfl ?_; refine w_callG Tryz.func18 ?_ (hs := dropNil _ _ _ _)) | (refine iF 19 rfl ?_; refine w_callG Tryz.func19 ?_ (hs := lenNil _ _ _)) | (refine iF 20 rfl ?_; refine w_callG Tryz.func20 ?_ (hs := printNil _ _ _)))); exact WQ.q1 rfl) : G := h
theorem st_D51_1 {G G' : Prop} (next : G') (h : Bx G' → G := by intro zzn; (first | ((refine st ?_; (repeat intro zzc)); (try ((first | (refine iF 10 rfl ?_; refine w_callG Tryz.func10 ?_ (hs := commitNil _ _ _ _ _ _)) | (refine iF 11 rfl ?_; refine w_callG Tryz.func11 ?_ (hs := mergeNil _ _ _ _ _ _)) | (refine iF 12 rfl ?_; refine w_callG Tryz.func12 ?_ (hs := draftNil _ _ _ _)) | (refine iF 13 rfl ?_; refine w_callG Tryz.func13 ?_ (hs := textNil _ _ _ _)) | (refine iF 14 rfl ?_; refine w_callG Tryz.func14 ?_ (hs := headNil _ _ _ _)) | (refine iF 15 rfl ?_; refine w_callG Tryz.func15 ?_ (hs := baseNil _ _ _ _ _)) | (refine iF 16 rfl ?_; refine w_callG Tryz.func16 ?_ (hs := originsNil _ _ _ _)) | (refine iF 17 rfl ?_; refine w_callG Tryz.func17 ?_ (hs := branchNil _ _ _ _ _)) | (refine iF 18 rfl ?_; refine w_callG Tryz.func18 ?_ (hs := dropNil _ _ _ _)) | (refine iF 19 rfl ?_; refine w_callG Tryz.func19 ?_ (hs := lenNil _ _ _)) | (refine iF 20 rfl ?_; refine w_callG Tryz.func20 ?_ (hs := printNil _ _ _)) | ((refine iDraw ?_; (first | refine WC.drawAll rfl (by decide +kernel) ?_ | refine WC.draw 1 rfl (by decide +kernel) ?_ | refine WC.draw 2 rfl (by decide +kernel) ?_ | refine WC.draw 3 rfl (by decide +kernel) ?_ | refine WC.draw 4 rfl (by decide +kernel) ?_ | refine WC.draw 5 rfl (by decide +kernel) ?_ | refine WC.draw 6 rfl (by decide +kernel) ?_ | refine WC.draw 7 rfl (by decide +kernel) ?_ | refine WC.draw 8 rfl (by decide +kernel) ?_ | refine WC.draw 9 rfl (by decide +kernel) ?_ | refine WC.draw 10 rfl (by decide +kernel) ?_ | refine WC.draw 11 rfl (by decide +kernel) ?_ | refine WC.draw 12 rfl (by decide +kernel) ?_ | refine WC.draw 13 rfl (by decide +kernel) ?_ | refine WC.draw 14 rfl (by decide +kernel) ?_ | refine WC.draw 15 rfl (by decide +kernel) ?_ | refine WC.draw 16 rfl (by decide +kernel) ?_ | refine WC.draw 17 rfl (by decide +kernel) ?_ | refine WC.draw 18 rfl (by decide +kernel) ?_ | refine WC.draw 19 rfl (by decide +kernel) ?_ | refine WC.draw 20 rfl (by decide +kernel) ?_ | refine WC.draw 21 rfl (by decide +kernel) ?_ | refine WC.draw 22 rfl (by decide +kernel) ?_ | refine WC.draw 23 rfl (by decide +kernel) ?_ | refine WC.draw 24 rfl (by decide +kernel) ?_)); (repeat (refine WD.cons rfl (fun c h => by cases h) sq_D51_1 ?_)); refine WD.nil ?_)); (try (refine st ?_; (repeat intro zzc)))))) | ((first | (refine iF 10 rfl ?_; refine w_callG Tryz.func10 ?_ (hs := commitNil _ _ _ _ _ _)) | (refine iF 11 rfl ?_; refine w_callG Tryz.func11 ?_ (hs := mergeNil _ _ _ _ _ _)) | (refine iF 12 rfl ?_; refine w_callG Tryz.func12 ?_ (hs := draftNil _ _ _ _)) | (refine iF 13 rfl ?_; refine w_callG Tryz.func13 ?_ (hs := textNil _ _ _ _)) | (refine iF 14 rfl ?_; refine w_callG Tryz.func14 ?_ (hs := headNil _ _ _ _)) | (refine iF 15 rfl ?_; refine w_callG Tryz.func15 ?_ (hs := baseNil _ _ _ _ _)) | (refine iF 16 rfl ?_; refine w_callG Tryz.func16 ?_ (hs := originsNil _ _ _ _)) | (refine iF 17 rfl ?_; refine w_callG Tryz.func17 ?_ (hs := branchNil _ _ _ _ _)) | (refine iF 18 rfl ?_; refine w_callG Tryz.func18 ?_ (hs := dropNil _ _ _ _)) | (refine iF 19 rfl ?_; refine w_callG Tryz.func19 ?_ (hs := lenNil _ _ _)) | (refine iF 20 rfl ?_; refine w_callG Tryz.func20 ?_ (hs := printNil _ _ _)) | ((refine iDraw ?_; (first | refine WC.drawAll rfl (by decide +kernel) ?_ | refine WC.draw 1 rfl (by decide +kernel) ?_ | refine WC.draw 2 rfl (by decide +kernel) ?_ | refine WC.draw 3 rfl (by decide +kernel) ?_ | refine WC.draw 4 rfl (by decide +kernel) ?_ | refine WC.draw 5 rfl (by decide +kernel) ?_ | refine WC.draw 6 rfl (by decide +kernel) ?_ | refine WC.draw 7 rfl (by decide +kernel) ?_ | refine WC.draw 8 rfl (by decide +kernel) ?_ | refine WC.draw 9 rfl (by decide +kernel) ?_ | refine WC.draw 10 rfl (by decide +kernel) ?_ | refine WC.draw 11 rfl (by decide +kernel) ?_ | refine WC.draw 12 rfl (by decide +kernel) ?_ | refine WC.draw 13 rfl (by decide +kernel) ?_ | refine WC.draw 14 rfl (by decide +kernel) ?_ | refine WC.draw 15 rfl (by decide +kernel) ?_ | refine WC.draw 16 rfl (by decide +kernel) ?_ | refine WC.draw 17 rfl (by decide +kernel) ?_ | refine WC.draw 18 rfl (by decide +kernel) ?_ | refine WC.draw 19 rfl (by decide +kernel) ?_ | refine WC.draw 20 rfl (by decide +kernel) ?_ | refine WC.draw 21 rfl (by decide +kernel) ?_ | refine WC.draw 22 rfl (by decide +kernel) ?_ | refine WC.draw 23 rfl (by decide +kernel) ?_ | refine WC.draw 24 rfl (by decide +kernel) ?_)); (repeat (refine WD.cons rfl (fun c h => by cases h) sq_D51_1 ?_)); refine WD.nil ?_)); (try (refine st ?_; (repeat intro zzc))))); (repeat ((first | (refine iF 10 rfl ?_; refine w_callG Tryz.func10 ?_ (hs := commitNil _ _ _ _ _ _)) | (refine iF 11 rfl ?_; refine w_callG Tryz.func11 ?_ (hs := mergeNil _ _ _ _ _ _)) | (refine iF 12 rfl ?_; refine w_callG Tryz.func12 ?_ (hs := draftNil _ _ _ _)) | (refine iF 13 rfl ?_; refine w_callG Tryz.func13 ?_ (hs := textNil _ _ _ _)) | (refine iF 14 rfl ?_; refine w_callG Tryz.func14 ?_ (hs := headNil _ _ _ _)) | (refine iF 15 rfl ?_; refine w_callG Tryz.func15 ?_ (hs := baseNil _ _ _ _ _)) | (refine iF 16 rfl ?_; refine w_callG Tryz.func16 ?_ (hs := originsNil _ _ _ _)) | (refine iF 17 rfl ?_; refine w_callG Tryz.func17 ?_ (hs := branchNil _ _ _ _ _)) | (refine iF 18 rfl ?_; refine w_callG Tryz.func18 ?_ (hs := dropNil _ _ _ _)) | (refine iF 19 rfl ?_; refine w_callG Tryz.func19 ?_ (hs := lenNil _ _ _)) | (refine iF 20 rfl ?_; refine w_callG Tryz.func20 ?_ (hs := printNil _ _ _)) | ((refine iDraw ?_; (first | refine WC.drawAll rfl (by decide +kernel) ?_ | refine WC.draw 1 rfl (by decide +kernel) ?_ | refine WC.draw 2 rfl (by decide +kernel) ?_ | refine WC.draw 3 rfl (by decide +kernel) ?_ | refine WC.draw 4 rfl (by decide +kernel) ?_ | refine WC.draw 5 rfl (by decide +kernel) ?_ | refine WC.draw 6 rfl (by decide +kernel) ?_ | refine WC.draw 7 rfl (by decide +kernel) ?_ | refine WC.draw 8 rfl (by decide +kernel) ?_ | refine WC.draw 9 rfl (by decide +kernel) ?_ | refine WC.draw 10 rfl (by decide +kernel) ?_ | refine WC.draw 11 rfl (by decide +kernel) ?_ | refine WC.draw 12 rfl (by decide +kernel) ?_ | refine WC.draw 13 rfl (by decide +kernel) ?_ | refine WC.draw 14 rfl (by decide +kernel) ?_ | refine WC.draw 15 rfl (by decide +kernel) ?_ | refine WC.draw 16 rfl (by decide +kernel) ?_ | refine WC.draw 17 rfl (by decide +kernel) ?_ | refine WC.draw 18 rfl (by decide +kernel) ?_ | refine WC.draw 19 rfl (by decide +kernel) ?_ | refine WC.draw 20 rfl (by decide +kernel) ?_ | refine WC.draw 21 rfl (by decide +kernel) ?_ | refine WC.draw 22 rfl (by decide +kernel) ?_ | refine WC.draw 23 rfl (by decide +kernel) ?_ | refine WC.draw 24 rfl (by decide +kernel) ?_)); (repeat (refine WD.cons rfl (fun c h => by cases h) sq_D51_1 ?_)); refine WD.nil ?_)); (try (refine st ?_; (repeat intro zzc))))); (repeat revert zzc); exact zzn.out) : G := h ⟨next⟩
theorem draftNone_any (s : Tx) (k : Int) (w0 : World) (m : Mem) (H : SHeap) :
    Does Tryz.prog 3 #[str s, .int .i64 k] w0 m H (fun v m' _ => v = .bool true ∧ m.le m') := by
  refine Does.of_body (args := [str s, .int .i64 k]) Tryz.func3 rfl Tryz.ntmps3 rfl ?_
  (refine st_D51_1 ?_; intros; rename_i b4)
  refine w_callF Tryz.func7 ?_ (hs := wakes_any _ _ _)
  rintro v m1 H1 ⟨hle1, rfl, rfl⟩
  (try (refine st_D51_1 ?_; intros))
  refine w_callF Tryz.func8 ?_ (hs := branchesIt _ _ _)
  rintro v m1 H0 ⟨rfl, b1, rfl, rfl⟩
  refine WL.persist (b := b1) (by (repeat (first | exact Out.here | apply Out.there))) ?_
  intro m2 hq1 hb1
  (try (refine st_D51_1 ?_; intros))
  refine WC.rangeFuncM (Hl0 := []) (encs := fun p : Tx × Int => [str p.1, .int .i64 p.2]) (xs := []) (lb := [.pointer (some ⟨b1, 0, none⟩)]) (ps := [27, 28]) (J := fun _ _ Hl => Hl = []) (Jx := fun _ _ _ _ => False)
    rfl Tryz.func34 rfl rfl branchesNil_seq hb1 (fun _ => rfl) rfl (fun _ _ _ _ h _ => h) (fun _ _ _ _ _ h _ => h) .nil rfl ?_ ?_ ?_
  · rintro lp pre x post hxs
    simp at hxs
  rotate_left
  · rintro D c pre m' Hl _ h _
    exact h.elim
  rintro D1 m3 Hl rfl hle3
  simp only [List.nil_append]
  (try (refine st_D51_1 ?_; intros))
  refine w_callF Tryz.func9 ?_ (hs := logIt _ _ _ _)
  rintro v m3 H0 ⟨rfl, b2, c2, rfl, rfl⟩
  refine WL.persist (b := b2) (by (repeat (first | exact Out.here | apply Out.there))) ?_
  intro m4 hq2 hb2
  (try (refine st_D51_1 ?_; intros))
  refine WC.rangeFuncM (Hl0 := []) (encs := fun p : Int => [.int .i64 p]) (xs := []) (lb := [.pointer (some ⟨b2, 0, none⟩), .pointer (some ⟨c2, 0, none⟩)]) (ps := [32]) (J := fun _ _ Hl => Hl = []) (Jx := fun _ _ _ _ => False)
    rfl Tryz.func37 rfl rfl (logNil_seq (k := k)) hb2 (fun _ => rfl) rfl (fun _ _ _ _ h _ => h) (fun _ _ _ _ _ h _ => h) .nil rfl ?_ ?_ ?_
  · rintro lp pre x post hxs
    simp at hxs
  rotate_left
  · rintro D c pre m' Hl _ h _
    exact h.elim
  rintro D2 m5 Hl rfl hle5
  simp only [List.nil_append]
  (refine st_D51_1 ?_; intros; rename_i b11)
  refine WC.loopH [(96, .int .i64 ((0) : Int)), (95, .agg #[.int .i64 1, .int .i64 1, .int .i64 1, .int .i64 1, .int .i64 1, .int .i64 1, .int .i64 1, .int .i64 1, .int .i64 1]), (4, .pointer (some ⟨b4, 0, none⟩)), (5, .pointer none), (6, .int .i64 0), (8, .int .i64 0), (9, .slice none 0 0), (11, .pointer (some ⟨b11, 0, none⟩)), (13, str []), (15, .int .i64 0), (17, .int .i64 0), (19, .slice none 0 0)] ?_ ?_ (fun j r ds m' H' => ∃ i, j = 9 - i ∧ r = [(96, .int .i64 (i : Int)), (95, .agg #[.int .i64 1, .int .i64 1, .int .i64 1, .int .i64 1, .int .i64 1, .int .i64 1, .int .i64 1, .int .i64 1, .int .i64 1]), (4, .pointer (some ⟨b4, 0, none⟩)), (5, .pointer none), (6, .int .i64 0), (8, .int .i64 0), (9, .slice none 0 0), (11, .pointer (some ⟨b11, 0, none⟩)), (13, str []), (15, .int .i64 0), (17, .int .i64 0), (19, .slice none 0 0)] ∧ ds = [Dfr.mark D2, Dfr.mark D1] ∧ m5 = m' ∧ H' = .blk b11 (.cells [.int .i64 0, .slice none 0 0].toArray 38 (0, 0)) :: .blk D2 (.deferred (some [])) :: .blk D1 (.deferred (some [])) :: .blk b4 (.cells [.bool false].toArray 4 (0, 0)) :: H ∧ (i ≤ 9)) (9 - (0)) ⟨0, rfl, rfl, rfl, rfl, rfl, by omega⟩ ?_
  · (repeat (first | exact Env.Sub.nil | refine Env.Sub.cons rfl ?_))
  · exact zpk
  rintro j r ds m' H' ⟨i, rfl, rfl, rfl, rfl, rfl, hi⟩
  obtain rfl | rfl | rfl | rfl | rfl | rfl | rfl | rfl | rfl | rfl : i = 0 ∨ i = 1 ∨ i = 2 ∨ i = 3 ∨ i = 4 ∨ i = 5 ∨ i = 6 ∨ i = 7 ∨ i = 8 ∨ i = 9 := by omega
  · (try (refine st_D51_1 ?_; intros))
    refine WL.indexA (i := 0) (v := .int .i64 1) rfl rfl rfl rfl rfl rfl (by omega) rfl ?_
    (try (refine st_D51_1 ?_; intros))
    refine WQ.next (9 - (1)) ⟨1, rfl, rfl, rfl, rfl, rfl, ?_⟩ (by omega) zsb zpk
    · omega
  · (try (refine st_D51_1 ?_; intros))
    refine WL.indexA (i := 1) (v := .int .i64 1) rfl rfl rfl rfl rfl rfl (by omega) rfl ?_
    (try (refine st_D51_1 ?_; intros))
    refine WQ.next (9 - (2)) ⟨2, rfl, rfl, rfl, rfl, rfl, ?_⟩ (by omega) zsb zpk
    · omega
  · (try (refine st_D51_1 ?_; intros))
    refine WL.indexA (i := 2) (v := .int .i64 1) rfl rfl rfl rfl rfl rfl (by omega) rfl ?_
    (try (refine st_D51_1 ?_; intros))
    refine WQ.next (9 - (3)) ⟨3, rfl, rfl, rfl, rfl, rfl, ?_⟩ (by omega) zsb zpk
    · omega
  · (try (refine st_D51_1 ?_; intros))
    refine WL.indexA (i := 3) (v := .int .i64 1) rfl rfl rfl rfl rfl rfl (by omega) rfl ?_
    (try (refine st_D51_1 ?_; intros))
    refine WQ.next (9 - (4)) ⟨4, rfl, rfl, rfl, rfl, rfl, ?_⟩ (by omega) zsb zpk
    · omega
  · (try (refine st_D51_1 ?_; intros))
    refine WL.indexA (i := 4) (v := .int .i64 1) rfl rfl rfl rfl rfl rfl (by omega) rfl ?_
    (try (refine st_D51_1 ?_; intros))
    refine WQ.next (9 - (5)) ⟨5, rfl, rfl, rfl, rfl, rfl, ?_⟩ (by omega) zsb zpk
    · omega
  · (try (refine st_D51_1 ?_; intros))
    refine WL.indexA (i := 5) (v := .int .i64 1) rfl rfl rfl rfl rfl rfl (by omega) rfl ?_
    (try (refine st_D51_1 ?_; intros))
    refine WQ.next (9 - (6)) ⟨6, rfl, rfl, rfl, rfl, rfl, ?_⟩ (by omega) zsb zpk
    · omega
  · (try (refine st_D51_1 ?_; intros))
    refine WL.indexA (i := 6) (v := .int .i64 1) rfl rfl rfl rfl rfl rfl (by omega) rfl ?_
    (try (refine st_D51_1 ?_; intros))
    refine WQ.next (9 - (7)) ⟨7, rfl, rfl, rfl, rfl, rfl, ?_⟩ (by omega) zsb zpk
    · omega
  · (try (refine st_D51_1 ?_; intros))
    refine WL.indexA (i := 7) (v := .int .i64 1) rfl rfl rfl rfl rfl rfl (by omega) rfl ?_
    (try (refine st_D51_1 ?_; intros))
    refine WQ.next (9 - (8)) ⟨8, rfl, rfl, rfl, rfl, rfl, ?_⟩ (by omega) zsb zpk
    · omega
  · (try (refine st_D51_1 ?_; intros))
    refine WL.indexA (i := 8) (v := .int .i64 1) rfl rfl rfl rfl rfl rfl (by omega) rfl ?_
    (try (refine st_D51_1 ?_; intros))
    refine WQ.next (9 - (9)) ⟨9, rfl, rfl, rfl, rfl, rfl, ?_⟩ (by omega) zsb zpk
    · omega
  · have h9 : ¬ ((9 : Nat) : Int) < 9 := by omega
    (try (refine st_D51_1 ?_; intros))
    refine w_callF Tryz.func7 ?_ (hs := wakes_any _ _ _)
    rintro v mC HC ⟨hleC, rfl, rfl⟩
    (try (refine st_D51_1 ?_; intros))
    refine WQ.marks (ds := [D2, D1]) (H1 := .blk b11 (.cells [.int .i64 0, .slice none 0 0].toArray 38 (0, 0)) :: .blk b4 (.cells [.bool true].toArray 4 (0, 0)) :: H) (List.perm_middle (l₁ := [_, _])).symm ?_
    exact q_fin0 (H0 := H) ⟨rfl, hle1.trans (hq1.trans (hle3.trans (hq2.trans (hle5.trans hleC))))⟩ (hd := zpk)
end Go.Proofs.YtgckeelnhafgaaaGreatDoor

/-
  A walk's engine, sixteenth part: how a law's arguments are read, ahead of the call and behind it. No condition.
-/
set_option linter.all false
namespace Go.Eng
open Go Go.RowKit Go.ChangeShapes Go.WideShapes Go.ChangeMaps
section
variable {H : Type} {enc : TypeId × Value → H} {P : Program}
theorem same_below {W W' : World} (hb : Below W.heap.size W W') {p : MemPlace} (hp : p.block < W.heap.size) : W.sameAt W' p := by
  cases p with
  | cell b off =>
    have h := hb.block b hp
    show W'.cell? ⟨b, off, none⟩ = W.cell? ⟨b, off, none⟩
    simp only [World.cell?, h]
  | map b => exact hb.block b hp
theorem trod_again {W W' : World} {sp : Nat → Bool} {t : TypeId} {v : Value} {d : DataW H} {p : List MemPlace} (hl : laidOutB P = true) (ht : t < P.types.size) (hr : P.readableRec t = true)
    (h : DataW.Trod enc P W 0 (fun _ => true) true t v d p) (hlt : ∀ q ∈ p, q.block < W.heap.size) (hb : Below W.heap.size W W') (hs : ∀ q ∈ p, sp q.block = true) : DataW.Trod enc P W' 0 sp true t v d p := by
  obtain ⟨n, hn⟩ := h
  have h1 := DataW.trod_carry (w' := W') n _ _ _ hn (fun q hq => same_below hb (hlt q hq))
  exact ⟨n, DataW.trod_respare (kids_book hl hr) (fun t e hT hu => book_sized hr hT hu) n _ _ _ ⟨ht, book_self t⟩ h1 hs⟩
theorem args_again {W W' : World} {sp : Nat → Bool} (hl : laidOutB P = true) (hb : Below W.heap.size W W') : ∀ {ts : List TypeId} {vs : List Value} {ds : List (DataW H)} {p : List MemPlace},
    (∀ t ∈ ts, t < P.types.size ∧ P.readableRec t = true) → DataW.TrodAll enc P W 0 (fun _ => true) true ts vs ds p → (∀ q ∈ p, sp q.block = true) → DataW.TrodAll enc P W' 0 sp true ts vs ds p
  | [], [], [], _, _, h, _ => h
  | t :: ts, v :: vs, d :: ds, p, hts, h, hs => by
    have hlt := DataW.TrodAll.lt h
    obtain ⟨a, b, h1, h2, e⟩ := h
    subst e
    obtain ⟨g1, g2⟩ := hts t List.mem_cons_self
    exact ⟨a, b, trod_again hl g1 g2 h1 (fun q hq => hlt q (List.mem_append_left _ hq)) hb (fun q hq => hs q (List.mem_append_left _ hq)),
      args_again hl hb (fun t ht => hts t (List.mem_cons_of_mem _ ht)) h2 (fun q hq => hs q (List.mem_append_right _ hq)), rfl⟩
/-- a law that says true, and leaves all that it was handed -/
theorem post_true {f : Func} {s : ChangeSpec} {apart fresh handsOn again : Bool} {W W' : World} {args : Array Value} {ds gs : List (DataW H)} {before : List MemPlace} {tb : TypeId}
    (hW : DataW.Whole enc P f.params.toList s.vars apart W args.toList ds gs before) (hvars : s.vars = []) (hfn : s.fn H (ds ++ gs) = { results := [.lit (.bool true)], args := ds })
    (hres : f.resultTypes = #[tb]) (htb : P.underlying tb = some .bool) (hl : laidOutB P = true) (hts : (f.params.toList.all fun t => decide (t < P.types.size) && P.readableRec t) = true) (hb : Below W.heap.size W W') :
    s.post enc P f apart fresh handsOn again W args (.bool true) W' := by
  have hW2 := hW
  obtain ⟨p, q, hA, hV, e, _, _⟩ := hW
  rw [hvars] at hV
  obtain ⟨rfl, rfl⟩ := trodVars_none hV
  rw [List.append_nil] at e
  subst e
  have hts' : ∀ t ∈ f.params.toList, t < P.types.size ∧ P.readableRec t = true := fun t ht => by simpa using List.all_eq_true.1 hts t ht
  refine post_below (pa := before) (pv := []) hW2 (fun _ _ _ => ?_) (fun sp hs => ?_) (fun _ _ => ?_) (by simp) hb ?_
  · rw [hfn, hres]; exact trodAll_cons_mk (shut_bool htb _) trodAll_mk0
  · rw [hfn]; exact args_again hl hb hts' hA hs
  · rw [hfn, hvars]; rfl
  · intro j t r h1 h2
    rw [hres] at h1 h2
    match j, h1 with
    | 0, h1 =>
      simp at h1; subst h1
      simp [Value.resultList] at h2
      subst h2
      exact okWide_bool_mk htb _
/-- a slice that came in, of elements of one cell -/
theorem RowR.came {w0 W : World} {Hp : SHeap} {sz : Nat} {a : Option Addr} {es : List (List Value)} (h1 : ∀ e ∈ es, e.length = sz)
    (h2 : match a with | .none => es = [] | .some b => ∀ j v, es.flatten[j]? = .some v → W.cell? (b.add j) = .some v) : RowR w0 (memOf W) Hp sz a es := by
  intro w hs
  refine ⟨h1, ?_⟩
  cases a with
  | none => exact h2
  | some b =>
    intro j v hj
    have hc := h2 j v hj
    generalize b.add j = c at hc ⊢
    obtain ⟨b, o, s⟩ := c
    cases hh : W.heap[b]? with
    | none => cases s <;> simp [World.cell?, hh] at hc
    | some ob =>
      have := hs.pers b ob hh
      cases s <;> simpa [World.cell?, this, hh] using hc
end
end Go.Eng

