/-
  Parts of a walk, joined: O10 OT3 O14 O15 OT4 O17 OT5 O11 O16 O19 EngZD OSH O20 O12 O13 O21 OT6 O23. No condition.
-/
import Derived.Test.YtljfncpecpkhhaaP6
import Derived.Test.YtljfncpecpkhhaaP4
import Derived.Shelf.Strings.Builder1
import Derived.Shelf.Strings.Builder2
import Derived.Shelf.Strings.BuilderF
import Derived.Shelf.Strings.Search1
import Derived.Shelf.Strings.Search2
import Derived.Shelf.Strings.Search3
import Derived.Shelf.LaysM
import Derived.Shelf.Strings.Shaped
import Derived.Shelf.Strings.Prefix
import Derived.Shelf.Bits.Mul64
import Derived.Shelf.Strings.Repeat
import Derived.Test.YtljfncpecpkhhaaProg
set_option linter.all false
/-
  The walks of ropes' Count and of the laws' works. No condition.
-/
namespace Go.Eng
def nBrk (ps : List Pc) : Nat := (ps.filter fun p => p.b).length
theorem nBrk_snoc (pre : List Pc) (x : Pc) : nBrk (pre ++ [x]) = nBrk pre + (if x.b then 1 else 0) := by
  unfold nBrk; rw [List.filter_append, List.length_append]; cases hx : x.b <;> simp [hx]
theorem nBrk_le (pre : List Pc) : nBrk pre ≤ pre.length := List.length_filter_le _ _
def tee : List UInt8 := [97, 195, 169, 10, 240, 159, 152, 128]
theorem tee_a : (pieces [97, 195]).length = 2 ∧ nBrk (pieces [97, 195]) = 1 := by decide
theorem tee_b : (pieces tee).length = 4 ∧ nBrk (pieces tee) = 0 := by decide
end Go.Eng
namespace Go.Proofs.Ytljfncpecpkhhaa
open Go Go.Eng
set_option maxRecDepth 100000
set_option maxHeartbeats 4000000
set_option linter.all false
attribute [local irreducible] WL WC WQ QFun QLoop Does Q1 QRound QAssign Go.Addr.add
attribute [local irreducible] nBrk
theorem count_any {p : Value} {s : List UInt8} (w0 : World) (m : Mem) (H : SHeap) (hp : RopeAt m p s) :
    Does Try.prog 25 #[p] w0 m H (fun v m' H' => m.le m' ∧ H' = H ∧ v = .tuple #[.int .i64 ((pieces s).length : Int), .int .i64 (nBrk (pieces s) : Int)]) := by
  obtain ⟨b, rfl⟩ := ropes_ptr hp
  obtain ⟨o, hT, ho⟩ := hp.node
  have hl := hp.len
  refine Does.of_body (args := [.pointer (some ⟨b, 0, none⟩)]) Try.func25 rfl Try.ntmps25 rfl ?_
  have hpl := pieces_length s
  (refine st ?_; intros; rename_i b4 b5)
  refine w_callF Try.func23 ?_ (hs := piecesIt_any _ _ _)
  rintro v0 m H0 ⟨bi, rfl, rfl, rfl⟩
  refine WL.persist (b := bi) (by (repeat (first | exact Out.here | apply Out.there))) ?_
  intro m1 hle1 hbi
  (try (refine st ?_; intros))
  have hin : RopeIn bi (.pointer (some ⟨b, 0, none⟩)) o m1 := ⟨hbi, hT.le hle1⟩
  have hseq := ropePieces_seq (b := bi) (p := .pointer (some ⟨b, 0, none⟩)) (o := o)
  rw [ho] at hseq
  refine WC.rangeFuncM (Hc := H) (encs := fun p : Pc => [p.v]) (xs := pieces s) (Cap := RopeIn bi (.pointer (some ⟨b, 0, none⟩)) o) (lb := [.pointer (some ⟨bi, 0, none⟩)]) (ps := [9])
    (J := fun pre _ Hl => Hl = [.blk b5 (.cells [.int .i64 (nBrk pre : Int)].toArray 3 (0, 0)), .blk b4 (.cells [.int .i64 (pre.length : Int)].toArray 3 (0, 0))]) (Jx := fun _ _ _ _ => False)
    rfl Try.func45 rfl rfl hseq hin (fun _ => rfl) rfl (fun _ _ _ _ h _ => h) (fun _ _ _ _ _ h _ => h) (.cons (.cons .nil)) ?_ ?_ ?_ ?_
  · rw [show nBrk [] = 0 from by unfold nBrk; rfl]; rfl
  · rintro lp pre x post hxs m2 Hl rfl hm2 Hfr hfr
    have hpre : pre.length ≤ (pieces s).length := by rw [hxs]; simp
    have hsn := nBrk_snoc pre x
    have hle3 := nBrk_le pre
    simp only [List.cons_append, List.nil_append]
    (try (refine st ?_; intros))
    refine WQ.assigned (.cons (.cons (.cons .nil))) (Mem.le.refl _) ?_
    intro Hfr2
    simp only [List.cons_append, List.nil_append]
    cases hx : x.b with
    | true =>
      rw [hx] at hsn
      (try (refine st ?_; intros))
      exact WQ.roundOn (Hl := [_, _]) (fun w h => h.drop) (Mem.le.refl _) (by rw [hsn, List.length_append]; rfl)
    | false =>
      rw [hx] at hsn
      (try (refine st ?_; intros))
      exact WQ.roundOn (Hl := [_, _]) (fun w h => h.drop) (Mem.le.refl _) (by rw [hsn, List.length_append]; rfl)
  · rintro D m2 Hl rfl hm2
    simp only [List.cons_append, List.nil_append]
    (try (refine st ?_; intros))
    refine WQ.mark (List.perm_middle (l₁ := [_, _])) ?_
    exact q_fin0 (H0 := H) ⟨hle1.trans hm2, rfl, rfl⟩ (hd := zpk)
  · rintro D c pre m' Hl _ h _
    exact h.elim
theorem sq_O10_1 {G : Prop} (h : G := by (repeat (first | (refine sp ?_; (repeat intro zzc)) | (refine iF 15 rfl ?_; refine w_callG Try.func15 ?_ (hs := text_any _ _ _ (by assumption))) | (refine iF 14 rfl ?_; refine w_callG Try.func14 ?_ (hs := same_any _ _ _ (by assumption) (by assumption))))); exact WQ.q1 rfl) : G := h
theorem st_O10_1 {G G' : Prop} (next : G') (h : Bx G' → G := by intro zzn; (first | ((refine st ?_; (repeat intro zzc)); (try ((first | (refine iF 15 rfl ?_; refine w_callG Try.func15 ?_ (hs := text_any _ _ _ (by assumption))) | (refine iF 14 rfl ?_; refine w_callG Try.func14 ?_ (hs := same_any _ _ _ (by assumption) (by assumption))) | ((refine iDraw ?_; (first | refine WC.drawAll rfl (by decide +kernel) ?_ | refine WC.draw 1 rfl (by decide +kernel) ?_ | refine WC.draw 2 rfl (by decide +kernel) ?_ | refine WC.draw 3 rfl (by decide +kernel) ?_ | refine WC.draw 4 rfl (by decide +kernel) ?_ | refine WC.draw 5 rfl (by decide +kernel) ?_ | refine WC.draw 6 rfl (by decide +kernel) ?_ | refine WC.draw 7 rfl (by decide +kernel) ?_ | refine WC.draw 8 rfl (by decide +kernel) ?_ | refine WC.draw 9 rfl (by decide +kernel) ?_ | refine WC.draw 10 rfl (by decide +kernel) ?_ | refine WC.draw 11 rfl (by decide +kernel) ?_ | refine WC.draw 12 rfl (by decide +kernel) ?_ | refine WC.draw 13 rfl (by decide +kernel) ?_ | refine WC.draw 14 rfl (by decide +kernel) ?_ | refine WC.draw 15 rfl (by decide +kernel) ?_ | refine WC.draw 16 rfl (by decide +kernel) ?_ | refine WC.draw 17 rfl (by decide +kernel) ?_ | refine WC.draw 18 rfl (by decide +kernel) ?_ | refine WC.draw 19 rfl (by decide +kernel) ?_ | refine WC.draw 20 rfl (by decide +kernel) ?_ | refine WC.draw 21 rfl (by decide +kernel) ?_ | refine WC.draw 22 rfl (by decide +kernel) ?_ | refine WC.draw 23 rfl (by decide +kernel) ?_ | refine WC.draw 24 rfl (by decide +kernel) ?_)); (repeat (refine WD.cons rfl (fun c h => by cases h) sq_O10_1 ?_)); refine WD.nil ?_)); (try (refine st ?_; (repeat intro zzc)))))) | ((first | (refine iF 15 rfl ?_; refine w_callG Try.func15 ?_ (hs := text_any _ _ _ (by assumption))) | (refine iF 14 rfl ?_; refine w_callG Try.func14 ?_ (hs := same_any _ _ _ (by assumption) (by assumption))) | ((refine iDraw ?_; (first | refine WC.drawAll rfl (by decide +kernel) ?_ | refine WC.draw 1 rfl (by decide +kernel) ?_ | refine WC.draw 2 rfl (by decide +kernel) ?_ | refine WC.draw 3 rfl (by decide +kernel) ?_ | refine WC.draw 4 rfl (by decide +kernel) ?_ | refine WC.draw 5 rfl (by decide +kernel) ?_ | refine WC.draw 6 rfl (by decide +kernel) ?_ | refine WC.draw 7 rfl (by decide +kernel) ?_ | refine WC.draw 8 rfl (by decide +kernel) ?_ | refine WC.draw 9 rfl (by decide +kernel) ?_ | refine WC.draw 10 rfl (by decide +kernel) ?_ | refine WC.draw 11 rfl (by decide +kernel) ?_ | refine WC.draw 12 rfl (by decide +kernel) ?_ | refine WC.draw 13 rfl (by decide +kernel) ?_ | refine WC.draw 14 rfl (by decide +kernel) ?_ | refine WC.draw 15 rfl (by decide +kernel) ?_ | refine WC.draw 16 rfl (by decide +kernel) ?_ | refine WC.draw 17 rfl (by decide +kernel) ?_ | refine WC.draw 18 rfl (by decide +kernel) ?_ | refine WC.draw 19 rfl (by decide +kernel) ?_ | refine WC.draw 20 rfl (by decide +kernel) ?_ | refine WC.draw 21 rfl (by decide +kernel) ?_ | refine WC.draw 22 rfl (by decide +kernel) ?_ | refine WC.draw 23 rfl (by decide +kernel) ?_ | refine WC.draw 24 rfl (by decide +kernel) ?_)); (repeat (refine WD.cons rfl (fun c h => by cases h) sq_O10_1 ?_)); refine WD.nil ?_)); (try (refine st ?_; (repeat intro zzc))))); (repeat ((first | (refine iF 15 rfl ?_; refine w_callG Try.func15 ?_ (hs := text_any _ _ _ (by assumption))) | (refine iF 14 rfl ?_; refine w_callG Try.func14 ?_ (hs := same_any _ _ _ (by assumption) (by assumption))) | ((refine iDraw ?_; (first | refine WC.drawAll rfl (by decide +kernel) ?_ | refine WC.draw 1 rfl (by decide +kernel) ?_ | refine WC.draw 2 rfl (by decide +kernel) ?_ | refine WC.draw 3 rfl (by decide +kernel) ?_ | refine WC.draw 4 rfl (by decide +kernel) ?_ | refine WC.draw 5 rfl (by decide +kernel) ?_ | refine WC.draw 6 rfl (by decide +kernel) ?_ | refine WC.draw 7 rfl (by decide +kernel) ?_ | refine WC.draw 8 rfl (by decide +kernel) ?_ | refine WC.draw 9 rfl (by decide +kernel) ?_ | refine WC.draw 10 rfl (by decide +kernel) ?_ | refine WC.draw 11 rfl (by decide +kernel) ?_ | refine WC.draw 12 rfl (by decide +kernel) ?_ | refine WC.draw 13 rfl (by decide +kernel) ?_ | refine WC.draw 14 rfl (by decide +kernel) ?_ | refine WC.draw 15 rfl (by decide +kernel) ?_ | refine WC.draw 16 rfl (by decide +kernel) ?_ | refine WC.draw 17 rfl (by decide +kernel) ?_ | refine WC.draw 18 rfl (by decide +kernel) ?_ | refine WC.draw 19 rfl (by decide +kernel) ?_ | refine WC.draw 20 rfl (by decide +kernel) ?_ | refine WC.draw 21 rfl (by decide +kernel) ?_ | refine WC.draw 22 rfl (by decide +kernel) ?_ | refine WC.draw 23 rfl (by decide +kernel) ?_ | refine WC.draw 24 rfl (by decide +kernel) ?_)); (repeat (refine WD.cons rfl (fun c h => by cases h) sq_O10_1 ?_)); refine WD.nil ?_)); (try (refine st ?_; (repeat intro zzc))))); (repeat revert zzc); exact zzn.out) : G := h ⟨next⟩
theorem works_any (w0 : World) (m : Mem) (H : SHeap) : Does Try.prog 11 #[] w0 m H (fun v m' H' => m.le m' ∧ H' = H ∧ v = .bool true) := by
  refine Does.of_body (args := []) Try.func11 rfl Try.ntmps11 rfl ?_
  (try (refine st_O10_1 ?_; intros))
  refine w_callF Try.func12 ?_ (hs := new_any tee (by decide) _ _ _)
  rintro v m1 H ⟨hle1, rfl, hv⟩
  obtain ⟨p, rfl, hp⟩ := hv
  (try (refine st_O10_1 ?_; intros))
  refine w_callF Try.func16 ?_ (hs := slice_any _ _ _ hp)
  rintro v m2 H ⟨hle2, rfl, pa, rfl, ha⟩
  replace hp := hp.le hle2
  (try (refine st_O10_1 ?_; intros))
  refine w_callF Try.func16 ?_ (hs := slice_any _ _ _ hp)
  rintro v m3 H ⟨hle3, rfl, pb, rfl, hb⟩
  replace hp := hp.le hle3
  replace ha := ha.le hle3
  have e1 : tee = [97, 195, 169, 10, 240, 159, 152, 128] := rfl
  have e2 : ([97, 195] : List UInt8) = [97, 195] := rfl
  have ha : RopeAt m3 pa [97, 195] := ha
  have hb : RopeAt m3 pb [169, 10, 240, 159, 152, 128] := hb
  (try (refine st_O10_1 ?_; intros))
  refine w_callF Try.func25 ?_ (hs := count_any _ _ _ ha)
  rintro v m4 H ⟨hle4, rfl, rfl⟩
  rw [tee_a.1, tee_a.2]
  replace hp := hp.le hle4
  replace ha := ha.le hle4
  replace hb := hb.le hle4
  (try (refine st_O10_1 ?_; intros))
  refine w_callF Try.func13 ?_ (hs := join_any _ _ _ ha hb)
  rintro v m5 H ⟨hle5, rfl, pq, rfl, hq⟩
  have hq : RopeAt m5 pq tee := hq
  replace hp := hp.le hle5
  replace ha := ha.le hle5
  (try (refine st_O10_1 ?_; intros))
  refine w_callF Try.func25 ?_ (hs := count_any _ _ _ hq)
  rintro v m6 H ⟨hle6, rfl, rfl⟩
  rw [tee_b.1, tee_b.2]
  replace hp := hp.le hle6
  replace ha := ha.le hle6
  replace hq := hq.le hle6
  have e3 : tee = tee := rfl
  have e4 : ¬ ([97, 195] : List UInt8) = tee := by decide
  (try (refine st_O10_1 ?_; intros))
  refine q_fin0 (H0 := H) ⟨hle1.trans (hle2.trans (hle3.trans (hle4.trans (hle5.trans hle6)))), rfl, ?_⟩ (hd := zpk)
  rw [dcd_false e4]; rfl
end Go.Proofs.Ytljfncpecpkhhaa

/-
  Plain facts for ropes: what is told of a text from its end, part by part. No condition.
-/
namespace Go.Eng
open Go
end Go.Eng

/-
  The walk of ropes' iterator Back. No condition.
-/
namespace Go.Eng
open Go Go.RowKit
end Go.Eng
namespace Go.Proofs.Ytljfncpecpkhhaa
open Go Go.Eng
set_option maxRecDepth 100000
set_option maxHeartbeats 4000000
set_option linter.all false
attribute [local irreducible] WL WC WQ QFun QLoop Does Q1 QRound QAssign Go.Addr.add
/-- what the pieces are handed to -/
def Yields (w0 : World) (lp : Nat) (xs : List Pc) (J Jx : List Pc → Mem → SHeap → Prop) (m : Mem) : Prop :=
  ∀ pre x post, xs = pre ++ x :: post → ∀ m1 H1 Hit, J pre m1 H1 → m.le m1 →
    YieldOK Try.prog w0 lp [x.v].toArray m1 (Hit ++ H1) (fun m' H' => ∃ H2, H' = Hit ++ H2 ∧ J (pre ++ [x]) m' H2 ∧ m1.le m') (fun m' H' => ∃ H2, H' = Hit ++ H2 ∧ Jx (pre ++ [x]) m' H2 ∧ m1.le m')
def ToldP (xs pre1 : List Pc) (J Jx : List Pc → Mem → SHeap → Prop) (m : Mem) (Hit : SHeap) : Value → Mem → SHeap → Prop := fun v m' H' => m.le m' ∧ ∃ H2, H' = Hit ++ H2 ∧ (v = .bool true ∧ J pre1 m' H2 ∨ v = .bool false ∧ ∃ pre, pre <+: xs ∧ Jx pre m' H2)
end Go.Proofs.Ytljfncpecpkhhaa

/-
  The walk of ropes' iterator Back: a part, and the whole. No condition.
-/
namespace Go.Proofs.Ytljfncpecpkhhaa
open Go Go.Eng
set_option maxRecDepth 100000
set_option maxHeartbeats 4000000
set_option linter.all false
attribute [local irreducible] WL WC WQ QFun QLoop Does Q1 QRound QAssign Go.Addr.add
attribute [local irreducible] begunK lackOf begunOf cutAt
/-- where the iterator stands: what is told, and what is held, before the texts Z of the parts that are done -/
def StB (L : List UInt8) (b3 b4 : Nat) (J : List Pc → Mem → SHeap → Prop) (y : Nat) (m' : Mem) (Hl : SHeap) : Prop :=
  ∃ (e : Nat) (H1 : SHeap), Go.Eng.Reach L e ∧ y ≤ e ∧ e ≤ L.length ∧ e ≤ y + 3 ∧ Hl = .blk b4 (.cells [.int .i64 (e : Int)].toArray 3 (0, 0)) :: .blk b3 (.cells [str ((L.drop y).take (e - y))].toArray 9 (0, 0)) :: H1 ∧ J (from_ L e).reverse m' H1
def LfB (L : List UInt8) (b3 b4 : Nat) (Jx : List Pc → Mem → SHeap → Prop) (m' : Mem) (Hl : SHeap) : Prop :=
  ∃ (i j : Go.Eng.Item) (H1 : SHeap) (pre : List Pc), Hl = i :: j :: H1 ∧ pre <+: (pieces L).reverse ∧ Jx pre m' H1
def yOf (L : List UInt8) (pre : List (List UInt8)) : Nat := L.length - pre.reverse.flatten.length
end Go.Proofs.Ytljfncpecpkhhaa

/-
  Plain facts for ropes: a piece read in a window about a place. No condition.
-/
namespace Go.Eng
open Go
/-- a window about a place -/
def winOf (L : List UInt8) (k : Nat) : List UInt8 := (L.take (min (k + 8) L.length)).drop (k - 8)
/-- the piece to which a byte belongs -/
def Over (L : List UInt8) (k : Nat) (p : Pc) : Prop := p ∈ pieces L ∧ p.at_ ≤ k ∧ k < p.at_ + p.w
end Go.Eng

/-
  The walks of ropes' around, Piece, Rune. No condition.
-/
namespace Go.Proofs.Ytljfncpecpkhhaa
open Go Go.Eng
set_option maxRecDepth 100000
set_option maxHeartbeats 4000000
set_option linter.all false
attribute [local irreducible] WL WC WQ QFun QLoop Does Q1 QRound QAssign Go.Addr.add
attribute [local irreducible] winOf
/-- the boundary ahead of which so many pieces stand -/
def runeR (s : List UInt8) (k : Int) : Int × Int := if k < 0 ∨ ((pieces s).length : Int) < k then (0, 5) else match (pieces s)[k.toNat]? with
  | some p => ((p.at_ : Int), 0)
  | none => ((s.length : Int), 0)
end Go.Proofs.Ytljfncpecpkhhaa

/-
  Plain facts for ropes: a place told in all ways, as ropes find it. No condition.
-/
namespace Go.Eng
open Go
structure PlS where
  byte : Nat
  rune : Nat
  unit : Nat
  line : Nat
  col : Nat
  deriving DecidableEq
def PlS.cs (p : PlS) : List Value := [.int .i64 (p.byte : Int), .int .i64 (p.rune : Int), .int .i64 (p.unit : Int), .int .i64 (p.line : Int), .int .i64 (p.col : Int)]
def PlS.zero : PlS := ⟨0, 0, 0, 0, 0⟩
/-- a byte 13 ends its line, if no 10 stands behind it -/
def PlS.next (s : PlS) (last behind : Nat) : PlS := if last = 13 ∧ behind ≠ 10 then { s with line := s.line + 1, col := 0 } else s
def PlS.add (s : PlS) (p : Pc) : PlS := ⟨s.byte + p.w, s.rune + 1, s.unit + 1 + (if 65536 ≤ p.r then 1 else 0), s.line + (if p.r = 10 then 1 else 0), if p.r = 10 then 0 else s.col + 1⟩
def placeGo (k : Int) : List Pc → PlS → Nat → PlS
  | [], s, last => s.next last 0
  | p :: ps, s, last => if k < ((p.at_ + p.w : Nat) : Int) then s.next last p.r else placeGo k ps ((s.next last p.r).add p) p.r
def placeOf (s : List UInt8) (k : Int) : PlS := placeGo k (pieces s) PlS.zero 0
def PlS.small (s : PlS) (n : Nat) : Prop := s.byte ≤ 4 * n ∧ s.rune ≤ n ∧ s.unit ≤ 2 * n ∧ s.line ≤ 2 * n ∧ s.col ≤ n
end Go.Eng

/-
  The walks of the laws RopeJoined and RopeHeals. No condition.
-/
namespace Go.Eng
end Go.Eng
namespace Go.Proofs.Ytljfncpecpkhhaa
open Go Go.Eng
set_option maxRecDepth 100000
set_option maxHeartbeats 4000000
set_option linter.all false
attribute [local irreducible] WL WC WQ QFun QLoop Does Q1 QRound QAssign Go.Addr.add
theorem works_true {w0 : World} {m0 m : Mem} {H : SHeap} (hle : m0.le m) : Does Try.prog 11 #[] w0 m H (fun v m' H' => m0.le m' ∧ H' = H ∧ v = .bool true) :=
  (works_any w0 m H).mono fun v m' H' ⟨h1, h2, h3⟩ => ⟨hle.trans h1, h2, h3⟩
end Go.Proofs.Ytljfncpecpkhhaa

/-
  The walk of the law RopeEarly. No condition.
-/
namespace Go.Eng
open Go Go.RowKit
section
variable {P : Program} {ro : Option Nat} {n : Nat} {w0 : World} {Q : Exit → Act → World → Prop} {r : Env} {ds : List Nat} {m : Mem} {H : SHeap}
theorem WC.heap {c : Code} {H' : SHeap} (hh : ∀ w, Sat w0 m H w → Sat w0 m H' w) (h : WC P ro n w0 c Q r ds m H') : WC P ro n w0 c Q r ds m H := fun tmps w ho hs => h tmps w ho (hh w hs)
end
end Go.Eng
namespace Go.Proofs.Ytljfncpecpkhhaa
open Go Go.Eng
set_option maxRecDepth 100000
set_option maxHeartbeats 4000000
set_option linter.all false
attribute [local irreducible] WL WC WQ QFun QLoop Does Q1 QRound QAssign Go.Addr.add
attribute [local irreducible] textsOf txt
end Go.Proofs.Ytljfncpecpkhhaa

/-
  The walk of ropes' Place. No condition.
-/
namespace Go.Proofs.Ytljfncpecpkhhaa
open Go Go.Eng
set_option maxRecDepth 100000
set_option maxHeartbeats 4000000
set_option linter.all false
attribute [local irreducible] WL WC WQ QFun QLoop Does Q1 QRound QAssign Go.Addr.add
end Go.Proofs.Ytljfncpecpkhhaa

/-
  A walk's engine: contracts that are told of worlds, as contracts of the engine. No condition.
-/
set_option linter.all false
namespace Go.Eng
open Go Go.RowKit
theorem Does.ofBelow {P : Program} {f : FuncId} {args : Array Value} {w0 : World} {m : Mem} {H : SHeap} {v : Value} (h : ∀ w, Sat w0 m H w → Calls P f args w fun e w' => e = .returned v ∧ Below w.heap.size w w') : Does P f args w0 m H (Gives v m H) :=
  fun w hs => (callsIn_wide.2 (h w hs)).mono fun _ _ ⟨he, hw⟩ => ⟨v, m, H, he, ⟨rfl, rfl, rfl⟩, hs.below_keep hw⟩
/-- a variable of the library's holds some number -/
def GInt (g : Nat) (m : Mem) : Prop := ∃ cs T fz z, m g = some (.cells cs T fz) ∧ cs[0]? = some (.int .i64 z)
theorem GInt.le {g : Nat} {m m' : Mem} (h : GInt g m) (hm : m.le m') : GInt g m' := by
  obtain ⟨cs, T, fz, z, h1, h2⟩ := h
  exact ⟨cs, T, fz, z, hm _ _ h1, h2⟩
theorem GInt.cell {g : Nat} {m : Mem} {w0 w : World} {H : SHeap} (h : GInt g m) (hs : Sat w0 m H w) : ∃ z, w.cell? ⟨g, 0, none⟩ = some (.int .i64 z) := by
  obtain ⟨cs, T, fz, z, h1, h2⟩ := h
  exact ⟨z, by simp [World.cell?, hs.pers _ _ h1, h2]⟩
end Go.Eng

/-
  Contracts of the library, laid at this seat by the shelf's own tools. No condition.
-/
namespace Go.Proofs.Ytljfncpecpkhhaa
open Go Go.Shelf Go.Proofs
set_option linter.all false
def sh_lays143_ren : Go.Shelf.Ren := ⟨fun | 143 => 62 | 219 => 83 | 217 => 90 | 225 => 91 | 224 => 92 | 267 => 93 | 266 => 96 | 314 => 97 | n => n, fun | 9 => 9 | 3 => 3 | 4 => 4 | 5 => 5 | 46 => 95 | 146 => 126 | 51 => 125 | n => n, fun | 1 => 0 | n => n⟩
def sh_lays99_ren : Go.Shelf.Ren := ⟨fun | 99 => 56 | 206 => 80 | n => n, fun | 9 => 9 | 4 => 4 | 3 => 3 | n => n, fun | n => n⟩
def sh_lays105_ren : Go.Shelf.Ren := ⟨fun | 105 => 28 | 212 => 55 | 99 => 56 | 165 => 57 | 166 => 58 | 170 => 59 | 169 => 60 | 263 => 78 | 264 => 79 | 206 => 80 | 240 => 81 | 241 => 82 | 276 => 88 | 277 => 89 | n => n, fun | 9 => 9 | 3 => 3 | 4 => 4 | 20 => 20 | 0 => 0 | 46 => 95 | 109 => 96 | 5 => 5 | 72 => 101 | 76 => 105 | 51 => 125 | 146 => 126 | 53 => 128 | 148 => 129 | 70 => 99 | 37 => 90 | 75 => 104 | 127 => 131 | 164 => 140 | 80 => 29 | n => n, fun | n => n⟩
theorem sh_lays105 : Go.Proofs.Lays.n105 Try.prog sh_lays105_ren := {
  mixed := by kernel_rfl
  f99 := Try.func56.trans (congrArg some (by kernel_rfl))
  f105 := Try.func28.trans (congrArg some (by kernel_rfl))
  f165 := Try.func57.trans (congrArg some (by kernel_rfl))
  f166 := Try.func58.trans (congrArg some (by kernel_rfl))
  f169 := Try.func60.trans (congrArg some (by kernel_rfl))
  f170 := Try.func59.trans (congrArg some (by kernel_rfl))
  f206 := Try.func80.trans (congrArg some (by kernel_rfl))
  f212 := Try.func55.trans (congrArg some (by kernel_rfl))
  f240 := Try.func81.trans (congrArg some (by kernel_rfl))
  f241 := Try.func82.trans (congrArg some (by kernel_rfl))
  f263 := Try.func78.trans (congrArg some (by kernel_rfl))
  f264 := Try.func79.trans (congrArg some (by kernel_rfl))
  f276 := Try.func88.trans (congrArg some (by kernel_rfl))
  f277 := Try.func89.trans (congrArg some (by kernel_rfl))
  t0 := Try.underlying0
  a0 := Try.isAgg0
  z0 := Try.sizeOf0
  v0 := Try.zeroValue0
  t3 := Try.underlying3
  a3 := Try.isAgg3
  z3 := Try.sizeOf3
  v3 := Try.zeroValue3
  t4 := Try.underlying4
  a4 := Try.isAgg4
  z4 := Try.sizeOf4
  v4 := Try.zeroValue4
  t5 := Try.underlying5
  a5 := Try.isAgg5
  z5 := Try.sizeOf5
  v5 := Try.zeroValue5
  t9 := Try.underlying9
  a9 := Try.isAgg9
  z9 := Try.sizeOf9
  v9 := Try.zeroValue9
  t20 := Try.underlying20
  a20 := Try.isAgg20
  z20 := Try.sizeOf20
  v20 := Try.zeroValue20
  t37 := Try.underlying90
  a37 := Try.isAgg90
  z37 := Try.sizeOf90
  v37 := Try.zeroValue90
  t46 := Try.underlying95
  a46 := Try.isAgg95
  z46 := Try.sizeOf95
  v46 := Try.zeroValue95
  t51 := Try.underlying125
  a51 := Try.isAgg125
  z51 := Try.sizeOf125
  v51 := Try.zeroValue125
  t53 := Try.underlying128
  a53 := Try.isAgg128
  z53 := Try.sizeOf128
  v53 := Try.zeroValue128
  t70 := Try.underlying99
  a70 := Try.isAgg99
  z70 := Try.sizeOf99
  v70 := Try.zeroValue99
  t72 := Try.underlying101
  a72 := Try.isAgg101
  z72 := Try.sizeOf101
  v72 := Try.zeroValue101
  t75 := Try.underlying104
  a75 := Try.isAgg104
  z75 := Try.sizeOf104
  v75 := Try.zeroValue104
  t76 := Try.underlying105
  a76 := Try.isAgg105
  z76 := Try.sizeOf105
  v76 := Try.zeroValue105
  t109 := Try.underlying96
  a109 := Try.isAgg96
  z109 := Try.sizeOf96
  v109 := Try.zeroValue96
  t127 := Try.underlying131
  a127 := Try.isAgg131
  z127 := Try.sizeOf131
  v127 := Try.zeroValue131
  t146 := Try.underlying126
  a146 := Try.isAgg126
  z146 := Try.sizeOf126
  v146 := Try.zeroValue126
  t148 := Try.underlying129
  a148 := Try.isAgg129
  z148 := Try.sizeOf129
  v148 := Try.zeroValue129
  t164 := Try.underlying140
  a164 := Try.isAgg140
  z164 := Try.sizeOf140
  v164 := Try.zeroValue140 }
theorem sh_Builder_Extra_105 : Builder.Extra Try.prog sh_lays105_ren := {
  sizeBuilder := by kernel_rfl
  liesBuilder := by kernel_rfl
  t5 := Try.underlying5
  a5 := Try.isAgg5
  z5 := Try.sizeOf5
  v5 := Try.zeroValue5
  infoByte := by kernel_rfl
  cellsByte := by kernel_rfl
  sizeByte := by kernel_rfl
  neB5 := by decide }
open Go.RowKit Go.Lib in
theorem sh_strings_Repeat (s : ByteArray) (c : Nat) (w : World) (hc : c ≤ 9223372036854775807) (hlen : s.size * c ≤ 140737488355328) :
    Calls Try.prog 28 #[.string s, .int .i64 c] w fun e w' => e = .returned (.string ⟨(Lib.repeatL s.data.toList c).toArray⟩) ∧ Below w.heap.size w w' := Any.strings_Repeat sh_lays105 sh_Builder_Extra_105 s c w hc hlen
end Go.Proofs.Ytljfncpecpkhhaa

/-
  The library's functions that ropes call: strings.Index, HasPrefix, Repeat. No condition.
-/
namespace Go.Proofs.Ytljfncpecpkhhaa
open Go Go.Eng
theorem repeat_any {s : List UInt8} {c : Nat} (hc : s.length * c ≤ 140737488355328) (hc2 : c ≤ 9223372036854775807) (w0 : World) (m : Mem) (H : SHeap) : Does Try.prog 28 #[str s, .int .i64 (c : Int)] w0 m H (Gives (str (Lib.repeatL s c)) m H) :=
  Does.ofBelow fun w _ => sh_strings_Repeat ⟨s.toArray⟩ c w hc2 (by simpa [ByteArray.size] using hc)
end Go.Proofs.Ytljfncpecpkhhaa

/-
  The walk of the law RopeHeals. No condition.
-/
namespace Go.Eng
end Go.Eng
namespace Go.Proofs.Ytljfncpecpkhhaa
open Go Go.Eng
set_option maxRecDepth 100000
set_option maxHeartbeats 4000000
set_option linter.all false
attribute [local irreducible] WL WC WQ QFun QLoop Does Q1 QRound QAssign Go.Addr.add
end Go.Proofs.Ytljfncpecpkhhaa

/-
  The walk of the law RopeGrows. No condition.
-/
namespace Go.Eng
end Go.Eng
namespace Go.Proofs.Ytljfncpecpkhhaa
open Go Go.Eng
set_option maxRecDepth 100000
set_option maxHeartbeats 4000000
set_option linter.all false
attribute [local irreducible] WL WC WQ QFun QLoop Does Q1 QRound QAssign Go.Addr.add
theorem most_any {n : Nat} (hn : n ≤ 100000000) (w0 : World) (m : Mem) (H : SHeap) : Does Try.prog 21 #[.int .i64 (n : Int)] w0 m H (Gives (.int .i64 ((2 * bitsN n : Nat) : Int)) m H) := by
  refine Does.of_body (args := [.int .i64 (n : Int)]) Try.func21 rfl Try.ntmps21 rfl ?_
  have hbl := bitsN_le n
  (try (refine st ?_; intros))
  refine WC.loopH [(0, .int .i64 ((n) : Int)), (3, .int .i64 ((0) : Int))] ?_ ?_ (fun j r ds m' H' => ∃ (k : Nat) (c : Nat), j = 2 * k ∧ r = [(0, .int .i64 (k : Int)), (3, .int .i64 (c : Int))] ∧ ds = [] ∧ m = m' ∧ H' = H ∧ (c + bitsN k = bitsN n) ∧ (k ≤ n)) (2 * (n)) ⟨n, 0, rfl, rfl, rfl, rfl, rfl, by omega, Nat.le_refl _⟩ ?_
  · (repeat (first | exact Env.Sub.nil | refine Env.Sub.cons rfl ?_))
  · exact zpk
  rintro j r ds m' H' ⟨k, c, rfl, rfl, rfl, rfl, rfl, hc, hkn⟩
  generalize H' = H
  by_cases hk : 0 < k
  · have hbk := bitsN_pos hk
    (try (refine st ?_; intros))
    rw [show (k : Int) / 2 = ((k / 2 : Nat) : Int) from rfl]
    refine WQ.next (2 * (k / 2)) ⟨k / 2, c + 1, rfl, rfl, rfl, rfl, rfl, ?_, ?_⟩ (by omega) zsb zpk
    · omega
    · omega
  · obtain rfl : k = 0 := by omega
    rw [bitsN_zero] at hc
    (try (refine st ?_; intros))
    refine q_fin0 (H0 := H) (Gives.mk (congrArg _ ?_)) (hd := zpk)
    omega
end Go.Proofs.Ytljfncpecpkhhaa

/-
  The walks of ropes' Index, and of what nil ropes answer. No condition.
-/
namespace Go.Eng
/-- the least place from one on at which a text stands -/
def idxR (s t : List UInt8) (f : Int) : Int × Bool := if f < 0 ∨ (s.length : Int) < f then (0, false) else if Lib.index (s.drop f.toNat) t < 0 then (0, false) else (f + Lib.index (s.drop f.toNat) t, true)
end Go.Eng
namespace Go.Proofs.Ytljfncpecpkhhaa
open Go Go.Eng
set_option maxRecDepth 100000
set_option maxHeartbeats 4000000
set_option linter.all false
attribute [local irreducible] WL WC WQ QFun QLoop Does Q1 QRound QAssign Go.Addr.add
attribute [local irreducible] Lib.index
end Go.Proofs.Ytljfncpecpkhhaa

/-
  Plain facts for ropes: how many pieces a text has, from its front. No condition.
-/
namespace Go.Eng
open Go
def nBad (ps : List Pc) : Nat := (ps.filter fun p => p.b).length
def cntOf (l : List UInt8) : Nat × Nat := ((pieces l).length, nBad (pieces l))
theorem nBad_map (t : Nat) : ∀ ps : List Pc, nBad (ps.map (Pc.sh t)) = nBad ps
  | [] => rfl
  | p :: ps => by
    have ih := nBad_map t ps
    have e : (p.sh t).b = p.b := rfl
    unfold nBad at *
    rw [List.map_cons, List.filter_cons, List.filter_cons, e]
    split <;> simp [ih]
theorem cnt_step {l : List UInt8} {w : Nat} {b : Bool} (h0 : 0 < l.length) (hw : (readP l 0).w = w) (hb : (readP l 0).b = b) : cntOf l = (1 + (cntOf (l.drop w)).1, (if b then 1 else 0) + (cntOf (l.drop w)).2) := by
  have h1 : pieces l = readP l 0 :: (pieces (l.drop w)).map (Pc.sh w) := by
    have hf := from_drop l w (l.drop w).length 0 (by simp)
    rw [Nat.add_zero] at hf
    rw [pieces, from_cons h0, pieces, hf, Nat.zero_add, hw]
  unfold cntOf
  rw [h1]
  refine Prod.ext ?_ ?_
  · simp; omega
  · show nBad (readP l 0 :: (pieces (l.drop w)).map (Pc.sh w)) = _
    have : nBad (readP l 0 :: (pieces (l.drop w)).map (Pc.sh w)) = (if (readP l 0).b then 1 else 0) + nBad ((pieces (l.drop w)).map (Pc.sh w)) := by
      unfold nBad
      rw [List.filter_cons]
      split <;> simp; omega
    rw [this, nBad_map, hb]
theorem cnt_e (R : List UInt8) : cntOf (195 :: 169 :: R) = (1 + (cntOf R).1, (cntOf R).2) := by
  have hd : dl (195 :: 169 :: R) = (233, 2) := by simp [dl, nb, gb]
  have h := cnt_step (l := 195 :: 169 :: R) (w := 2) (b := false) (by simp) (by rw [readP_w_eq]; simp [hd]) (by unfold readP; simp [hd])
  simpa using h
theorem cnt_y (R : List UInt8) : cntOf (121 :: R) = (1 + (cntOf R).1, (cntOf R).2) := by
  have hd : dl (121 :: R) = (121, 1) := by simp [dl, nb, gb]
  have h := cnt_step (l := 121 :: R) (w := 1) (b := false) (by simp) (by rw [readP_w_eq]; simp [hd]) (by unfold readP; simp [hd])
  simpa using h
theorem cnt_a9 (R : List UInt8) : cntOf (169 :: R) = (1 + (cntOf R).1, 1 + (cntOf R).2) := by
  have hd : dl (169 :: R) = (65533, 1) := by simp [dl, nb, gb]
  have h := cnt_step (l := 169 :: R) (w := 1) (b := true) (by simp) (by rw [readP_w_eq]; simp [hd]) (by unfold readP; simp [hd])
  simpa using h
theorem cnt_c3y (R : List UInt8) : cntOf (195 :: 121 :: R) = (1 + (cntOf (121 :: R)).1, 1 + (cntOf (121 :: R)).2) := by
  have hd : dl (195 :: 121 :: R) = (65533, 1) := by simp [dl, nb, gb]
  have h := cnt_step (l := 195 :: 121 :: R) (w := 1) (b := true) (by simp) (by rw [readP_w_eq]; simp [hd]) (by unfold readP; simp [hd])
  simpa using h
theorem cnt_ys (R : List UInt8) : ∀ n, cntOf (List.replicate n 121 ++ R) = (n + (cntOf R).1, (cntOf R).2)
  | 0 => by simp
  | n + 1 => by
    rw [List.replicate_succ, List.cons_append, cnt_y, cnt_ys R n]
    refine Prod.ext ?_ rfl
    simp only []; omega
theorem cnt_long (R : List UInt8) (p : Nat) : cntOf (195 :: (List.replicate (p + 1) 121 ++ 169 :: R)) = ((cntOf (195 :: 169 :: R)).1 + (p + 1) + 1, (cntOf (195 :: 169 :: R)).2 + 2) := by
  have h := cnt_ys (169 :: R) (p + 1)
  rw [List.replicate_succ, List.cons_append] at h ⊢
  rw [cnt_c3y, h, cnt_a9, cnt_e]
  refine Prod.ext ?_ ?_
  · simp only []; omega
  · simp only []; omega
end Go.Eng

/-
  The walk of the law RopeLong. No condition.
-/
namespace Go.Eng
theorem brk_bad (ps : List Pc) : nBrk ps = nBad ps := rfl
theorem rep_long : ∃ R, Lib.repeatL [195, 169] 8388608 = 195 :: 169 :: R ∧ R.length = 16777214 := by
  refine ⟨Lib.repeatL [195, 169] 8388607, rfl, ?_⟩
  rw [Lib.repeatL_length]
  rfl
theorem rep_one (c : UInt8) : ∀ n, Lib.repeatL [c] n = List.replicate n c
  | 0 => rfl
  | n + 1 => by rw [Lib.repeatL, rep_one c n, List.replicate_succ]; rfl
/-- what RopeLong's text is, and what is put in -/
theorem long_put {R : List UInt8} {p : Nat} : ((pieces (195 :: (List.replicate p 121 ++ 169 :: R))).length = (pieces (195 :: 169 :: R)).length + p + min p 1) ∧ (nBrk (pieces (195 :: (List.replicate p 121 ++ 169 :: R))) = nBrk (pieces (195 :: 169 :: R)) + 2 * min p 1) := by
  cases p with
  | zero => exact ⟨by simp, by simp⟩
  | succ p =>
    have h := cnt_long R p
    have h1 := congrArg Prod.fst h
    have h2 := congrArg Prod.snd h
    unfold cntOf at h1 h2
    simp only [] at h1 h2
    rw [brk_bad, brk_bad]
    exact ⟨by omega, by omega⟩
end Go.Eng
namespace Go.Proofs.Ytljfncpecpkhhaa
open Go Go.Eng
set_option maxRecDepth 100000
set_option maxHeartbeats 4000000
set_option linter.all false
attribute [local irreducible] WL WC WQ QFun QLoop Does Q1 QRound QAssign Go.Addr.add
attribute [local irreducible] Lib.repeatL nBrk
theorem sq_O23_1 {G : Prop} (h : G := by (repeat (first | (refine sp ?_; (repeat intro zzc)) | (refine iF 19 rfl ?_; refine w_callG Try.func19 ?_ (hs := len_any _ _ _ (by assumption))) | (refine iF 21 rfl ?_; refine w_callG Try.func21 ?_ (hs := most_any (by omega) _ _ _)))); exact WQ.q1 rfl) : G := h
theorem st_O23_1 {G G' : Prop} (next : G') (h : Bx G' → G := by intro zzn; (first | ((refine st ?_; (repeat intro zzc)); (try ((first | (refine iF 19 rfl ?_; refine w_callG Try.func19 ?_ (hs := len_any _ _ _ (by assumption))) | (refine iF 21 rfl ?_; refine w_callG Try.func21 ?_ (hs := most_any (by omega) _ _ _)) | ((refine iDraw ?_; (first | refine WC.drawAll rfl (by decide +kernel) ?_ | refine WC.draw 1 rfl (by decide +kernel) ?_ | refine WC.draw 2 rfl (by decide +kernel) ?_ | refine WC.draw 3 rfl (by decide +kernel) ?_ | refine WC.draw 4 rfl (by decide +kernel) ?_ | refine WC.draw 5 rfl (by decide +kernel) ?_ | refine WC.draw 6 rfl (by decide +kernel) ?_ | refine WC.draw 7 rfl (by decide +kernel) ?_ | refine WC.draw 8 rfl (by decide +kernel) ?_ | refine WC.draw 9 rfl (by decide +kernel) ?_ | refine WC.draw 10 rfl (by decide +kernel) ?_ | refine WC.draw 11 rfl (by decide +kernel) ?_ | refine WC.draw 12 rfl (by decide +kernel) ?_ | refine WC.draw 13 rfl (by decide +kernel) ?_ | refine WC.draw 14 rfl (by decide +kernel) ?_ | refine WC.draw 15 rfl (by decide +kernel) ?_ | refine WC.draw 16 rfl (by decide +kernel) ?_ | refine WC.draw 17 rfl (by decide +kernel) ?_ | refine WC.draw 18 rfl (by decide +kernel) ?_ | refine WC.draw 19 rfl (by decide +kernel) ?_ | refine WC.draw 20 rfl (by decide +kernel) ?_ | refine WC.draw 21 rfl (by decide +kernel) ?_ | refine WC.draw 22 rfl (by decide +kernel) ?_ | refine WC.draw 23 rfl (by decide +kernel) ?_ | refine WC.draw 24 rfl (by decide +kernel) ?_)); (repeat (refine WD.cons rfl (fun c h => by cases h) sq_O23_1 ?_)); refine WD.nil ?_)); (try (refine st ?_; (repeat intro zzc)))))) | ((first | (refine iF 19 rfl ?_; refine w_callG Try.func19 ?_ (hs := len_any _ _ _ (by assumption))) | (refine iF 21 rfl ?_; refine w_callG Try.func21 ?_ (hs := most_any (by omega) _ _ _)) | ((refine iDraw ?_; (first | refine WC.drawAll rfl (by decide +kernel) ?_ | refine WC.draw 1 rfl (by decide +kernel) ?_ | refine WC.draw 2 rfl (by decide +kernel) ?_ | refine WC.draw 3 rfl (by decide +kernel) ?_ | refine WC.draw 4 rfl (by decide +kernel) ?_ | refine WC.draw 5 rfl (by decide +kernel) ?_ | refine WC.draw 6 rfl (by decide +kernel) ?_ | refine WC.draw 7 rfl (by decide +kernel) ?_ | refine WC.draw 8 rfl (by decide +kernel) ?_ | refine WC.draw 9 rfl (by decide +kernel) ?_ | refine WC.draw 10 rfl (by decide +kernel) ?_ | refine WC.draw 11 rfl (by decide +kernel) ?_ | refine WC.draw 12 rfl (by decide +kernel) ?_ | refine WC.draw 13 rfl (by decide +kernel) ?_ | refine WC.draw 14 rfl (by decide +kernel) ?_ | refine WC.draw 15 rfl (by decide +kernel) ?_ | refine WC.draw 16 rfl (by decide +kernel) ?_ | refine WC.draw 17 rfl (by decide +kernel) ?_ | refine WC.draw 18 rfl (by decide +kernel) ?_ | refine WC.draw 19 rfl (by decide +kernel) ?_ | refine WC.draw 20 rfl (by decide +kernel) ?_ | refine WC.draw 21 rfl (by decide +kernel) ?_ | refine WC.draw 22 rfl (by decide +kernel) ?_ | refine WC.draw 23 rfl (by decide +kernel) ?_ | refine WC.draw 24 rfl (by decide +kernel) ?_)); (repeat (refine WD.cons rfl (fun c h => by cases h) sq_O23_1 ?_)); refine WD.nil ?_)); (try (refine st ?_; (repeat intro zzc))))); (repeat ((first | (refine iF 19 rfl ?_; refine w_callG Try.func19 ?_ (hs := len_any _ _ _ (by assumption))) | (refine iF 21 rfl ?_; refine w_callG Try.func21 ?_ (hs := most_any (by omega) _ _ _)) | ((refine iDraw ?_; (first | refine WC.drawAll rfl (by decide +kernel) ?_ | refine WC.draw 1 rfl (by decide +kernel) ?_ | refine WC.draw 2 rfl (by decide +kernel) ?_ | refine WC.draw 3 rfl (by decide +kernel) ?_ | refine WC.draw 4 rfl (by decide +kernel) ?_ | refine WC.draw 5 rfl (by decide +kernel) ?_ | refine WC.draw 6 rfl (by decide +kernel) ?_ | refine WC.draw 7 rfl (by decide +kernel) ?_ | refine WC.draw 8 rfl (by decide +kernel) ?_ | refine WC.draw 9 rfl (by decide +kernel) ?_ | refine WC.draw 10 rfl (by decide +kernel) ?_ | refine WC.draw 11 rfl (by decide +kernel) ?_ | refine WC.draw 12 rfl (by decide +kernel) ?_ | refine WC.draw 13 rfl (by decide +kernel) ?_ | refine WC.draw 14 rfl (by decide +kernel) ?_ | refine WC.draw 15 rfl (by decide +kernel) ?_ | refine WC.draw 16 rfl (by decide +kernel) ?_ | refine WC.draw 17 rfl (by decide +kernel) ?_ | refine WC.draw 18 rfl (by decide +kernel) ?_ | refine WC.draw 19 rfl (by decide +kernel) ?_ | refine WC.draw 20 rfl (by decide +kernel) ?_ | refine WC.draw 21 rfl (by decide +kernel) ?_ | refine WC.draw 22 rfl (by decide +kernel) ?_ | refine WC.draw 23 rfl (by decide +kernel) ?_ | refine WC.draw 24 rfl (by decide +kernel) ?_)); (repeat (refine WD.cons rfl (fun c h => by cases h) sq_O23_1 ?_)); refine WD.nil ?_)); (try (refine st ?_; (repeat intro zzc))))); (repeat revert zzc); exact zzn.out) : G := h ⟨next⟩
theorem ropeLong_any (over put : Int) (w0 : World) (m : Mem) (H : SHeap) : Does Try.prog 8 #[.int .i64 over, .int .i64 put] w0 m H (fun v m' _ => v = .bool true ∧ m.le m') := by
  refine Does.of_body (args := [.int .i64 over, .int .i64 put]) Try.func8 rfl Try.ntmps8 rfl ?_
  (try (refine st_O23_1 ?_; intros))
  refine w_callF Try.func11 ?_ (hs := works_any _ _ _)
  rintro v m0 H ⟨hle0, rfl, rfl⟩
  by_cases ho1 : over < -3
  · (try (refine st_O23_1 ?_; intros))
    refine w_callF Try.func11 ?_ (hs := works_true hle0)
    rintro v m9 H ⟨hle9, rfl, rfl⟩
    (try (refine st_O23_1 ?_; intros))
    exact q_fin0 (H0 := H) ⟨rfl, hle9⟩ (hd := zpk)
  by_cases ho2 : 1 < over
  · (try (refine st_O23_1 ?_; intros))
    refine w_callF Try.func11 ?_ (hs := works_true hle0)
    rintro v m9 H ⟨hle9, rfl, rfl⟩
    (try (refine st_O23_1 ?_; intros))
    exact q_fin0 (H0 := H) ⟨rfl, hle9⟩ (hd := zpk)
  by_cases hp1 : put < 0
  · (try (refine st_O23_1 ?_; intros))
    refine w_callF Try.func11 ?_ (hs := works_true hle0)
    rintro v m9 H ⟨hle9, rfl, rfl⟩
    (try (refine st_O23_1 ?_; intros))
    exact q_fin0 (H0 := H) ⟨rfl, hle9⟩ (hd := zpk)
  by_cases hp2 : 5 < put
  · (try (refine st_O23_1 ?_; intros))
    refine w_callF Try.func11 ?_ (hs := works_true hle0)
    rintro v m9 H ⟨hle9, rfl, rfl⟩
    (try (refine st_O23_1 ?_; intros))
    exact q_fin0 (H0 := H) ⟨rfl, hle9⟩ (hd := zpk)
  obtain ⟨p, rfl⟩ : ∃ p : Nat, put = (p : Int) := ⟨put.toNat, by omega⟩
  (try (refine st_O23_1 ?_; intros))
  refine w_callF Try.func28 ?_ (hs := repeat_any (s := [195, 169]) (c := 8388608) (by decide) (by decide) _ _ _)
  rintro v m0 H ⟨rfl, rfl, rfl⟩
  obtain ⟨R, hR, hRl⟩ := rep_long
  rw [hR]
  have hSl : (195 :: 169 :: R).length = 16777216 := by simp; omega
  obtain ⟨S, hS⟩ : ∃ S, 195 :: 169 :: R = S := ⟨_, rfl⟩
  rw [hS] at hSl ⊢
  have h2 : (S ++ [120, 120]).length = 16777218 := by simp; omega
  have hx2 : ([120, 120] : List UInt8).length = 2 := rfl
  obtain ⟨n, hn⟩ : ∃ n : Nat, (16777216 : Int) + over = (n : Int) := ⟨(16777216 + over).toNat, by omega⟩
  have hn2 : (S.length : Int) + over = (n : Int) := by omega
  have hntk : ((S ++ [120, 120]).take n).length = n := by rw [List.length_take, h2]; omega
  (try (refine st_O23_1 ?_; intros))
  rw [show ((S.length : Int) + over).toNat = n by omega]
  by_cases ho3 : 0 < over
  · have hbig : 16777216 < ((S ++ [120, 120]).take n).length := by omega
    refine w_callF Try.func12 ?_ (hs := new_any _ (by omega) _ _ _)
    rintro v m1 H ⟨hle1, rfl, hv⟩
    unfold newV at hv
    rw [if_pos hbig] at hv
    subst hv
    have hnn : (none : Option Addr).isNone = true := rfl
    (try (refine st_O23_1 ?_; intros))
    refine w_callF Try.func11 ?_ (hs := works_true (hle0.trans hle1))
    rintro v m9 H ⟨hle9, rfl, rfl⟩
    (try (refine st_O23_1 ?_; intros))
    exact q_fin0 (H0 := H) ⟨rfl, hle9⟩ (hd := zpk)
  obtain ⟨Q, hQ, hQl⟩ : ∃ Q, (S ++ [120, 120]).take n = 195 :: 169 :: Q ∧ Q.length + 2 = n := by
    refine ⟨((R ++ [120, 120]).take (n - 2)), ?_, ?_⟩
    · rw [← hS, show n = (n - 2) + 2 by omega]; rfl
    · rw [List.length_take, List.length_append, hRl]; omega
  have hcl : (195 :: 169 :: Q : List UInt8).length = n := by simp; omega
  obtain ⟨T, hT⟩ : ∃ T, 195 :: 169 :: Q = T := ⟨_, rfl⟩
  rw [hQ, hT]
  rw [hT] at hcl
  clear hQ hntk h2 hS hSl hR hRl hx2 hn2
  refine w_callF Try.func12 ?_ (hs := new_any T (by omega) _ _ _)
  rintro v m1 H ⟨hle1, rfl, hv⟩
  unfold newV at hv
  rw [if_neg (by omega)] at hv
  obtain ⟨r, rfl, hr⟩ := hv
  replace hle0 := hle0.trans hle1
  obtain ⟨rb, rfl⟩ := ropes_ptr hr
  (try (refine st_O23_1 ?_; intros))
  refine w_callF Try.func28 ?_ (hs := repeat_any (s := [121]) (c := p) (by simp; omega) (by omega) _ _ _)
  rintro v m1 H ⟨rfl, rfl, rfl⟩
  rw [rep_one]
  have hyl : (List.replicate p (121 : UInt8)).length = p := List.length_replicate
  (try (refine st_O23_1 ?_; intros))
  refine w_callF Try.func17 ?_ (hs := insert_any (by omega) _ _ _ hr)
  rintro v m2 H ⟨hle2, rfl, hv1⟩
  replace hr := hr.le hle2
  replace hle0 := hle0.trans hle2
  by_cases hbig : 16777216 < n + p
  · have hv1 : v = .tuple #[.pointer none, .int .i64 3] := by
      unfold insertR at hv1
      rw [if_neg (by omega), if_pos (by omega)] at hv1
      exact hv1
    subst hv1
    (try (refine st_O23_1 ?_; intros))
    refine w_callF Try.func28 ?_ (hs := repeat_any (s := [122]) (c := p) (by simp; omega) (by omega) _ _ _)
    rintro v m2 H ⟨rfl, rfl, rfl⟩
    rw [rep_one]
    have hzl : (List.replicate p (122 : UInt8)).length = p := List.length_replicate
    (try (refine st_O23_1 ?_; intros))
    refine w_callF Try.func12 ?_ (hs := new_any (List.replicate p 122) (by omega) _ _ _)
    rintro v m3 H ⟨hle3, rfl, hv⟩
    unfold newV at hv
    rw [if_neg (by omega)] at hv
    obtain ⟨o, rfl, ho⟩ := hv
    replace hr := hr.le hle3
    replace hle0 := hle0.trans hle3
    (try (refine st_O23_1 ?_; intros))
    refine w_callF Try.func13 ?_ (hs := join_any _ _ _ hr ho)
    rintro v m4 H ⟨hle4, rfl, hv2⟩
    have hv2 : v = .tuple #[.pointer none, .int .i64 3] := by
      unfold joinRR at hv2
      rw [if_pos (by omega)] at hv2
      exact hv2
    subst hv2
    replace hr := hr.le hle4
    replace hle0 := hle0.trans hle4
    (try (refine st_O23_1 ?_; intros))
    refine w_callF Try.func20 ?_ (hs := depth_any _ _ _ hr)
    rintro v m5 H ⟨rfl, rfl, kd, rfl, hkd⟩
    have hnn : (none : Option Addr).isNone = true := rfl
    (try (refine st_O23_1 ?_; intros))
    refine w_callF Try.func11 ?_ (hs := works_true hle0)
    rintro v m9 H ⟨hle9, rfl, rfl⟩
    (try (refine st_O23_1 ?_; intros))
    exact q_fin0 (H0 := H) ⟨rfl, hle9⟩ (hd := zpk)
  · obtain ⟨q, rfl, hq⟩ : ∃ q, v = .tuple #[q, .int .i64 0] ∧ RopeAt m2 q (195 :: (List.replicate p 121 ++ 169 :: Q)) := by
      unfold insertR at hv1
      rw [if_neg (by omega), if_neg (by omega)] at hv1
      obtain ⟨q, h1, h2⟩ := hv1
      refine ⟨q, h1, ?_⟩
      rw [← hT] at h2
      simpa using h2
    (try (refine st_O23_1 ?_; intros))
    refine w_callF Try.func28 ?_ (hs := repeat_any (s := [122]) (c := p) (by simp; omega) (by omega) _ _ _)
    rintro v m2 H ⟨rfl, rfl, rfl⟩
    rw [rep_one]
    have hzl : (List.replicate p (122 : UInt8)).length = p := List.length_replicate
    (try (refine st_O23_1 ?_; intros))
    refine w_callF Try.func12 ?_ (hs := new_any (List.replicate p 122) (by omega) _ _ _)
    rintro v m3 H ⟨hle3, rfl, hv⟩
    unfold newV at hv
    rw [if_neg (by omega)] at hv
    obtain ⟨o, rfl, ho⟩ := hv
    replace hr := hr.le hle3
    replace hq := hq.le hle3
    replace hle0 := hle0.trans hle3
    (try (refine st_O23_1 ?_; intros))
    refine w_callF Try.func13 ?_ (hs := join_any _ _ _ hr ho)
    rintro v m4 H ⟨hle4, rfl, hv2⟩
    unfold joinRR at hv2
    rw [if_neg (by omega)] at hv2
    obtain ⟨pj, rfl, hj⟩ := hv2
    replace hr := hr.le hle4
    replace hq := hq.le hle4
    replace hle0 := hle0.trans hle4
    (try (refine st_O23_1 ?_; intros))
    refine w_callF Try.func20 ?_ (hs := depth_any _ _ _ hr)
    rintro v m5 H ⟨rfl, rfl, kd, rfl, hkd⟩
    (try (refine st_O23_1 ?_; intros))
    refine w_callF Try.func25 ?_ (hs := count_any _ _ _ hq)
    rintro v m6 H ⟨hle6, rfl, rfl⟩
    replace hr := hr.le hle6
    replace hq := hq.le hle6
    replace hj := hj.le hle6
    replace hle0 := hle0.trans hle6
    (try (refine st_O23_1 ?_; intros))
    refine w_callF Try.func25 ?_ (hs := count_any _ _ _ hr)
    rintro v m7 H ⟨hle7, rfl, rfl⟩
    replace hr := hr.le hle7
    replace hq := hq.le hle7
    replace hj := hj.le hle7
    replace hle0 := hle0.trans hle7
    obtain ⟨c1, c2⟩ := long_put (R := Q) (p := p)
    have hplq := pieces_length (195 :: (List.replicate p 121 ++ 169 :: Q))
    have hplt := pieces_length T
    have hbq := nBrk_le (pieces (195 :: (List.replicate p 121 ++ 169 :: Q)))
    have hbt := nBrk_le (pieces T)
    rw [hT] at c1 c2
    have hql : (195 :: (List.replicate p 121 ++ 169 :: Q)).length = n + p := by simp; omega
    have hjl : (T ++ List.replicate p 122).length = n + p := by rw [List.length_append]; omega
    rw [c1, c2]
    rw [c1, hql] at hplq
    rw [c1, c2] at hbq
    generalize 195 :: (List.replicate p 121 ++ 169 :: Q) = QQ at *
    generalize T ++ List.replicate p 122 = JJ at *
    (try (refine st_O23_1 ?_; intros))
    refine w_callF Try.func11 ?_ (hs := works_true hle0)
    rintro v m9 H ⟨hle9, rfl, rfl⟩
    (try (refine st_O23_1 ?_; intros))
    exact q_fin0 (H0 := H) ⟨rfl, hle9⟩ (hd := zpk)
end Go.Proofs.Ytljfncpecpkhhaa

