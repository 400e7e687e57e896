/-
  Parts of a walk, joined: E16 E10 ET14 E17 E19 EngV EV LM1. No condition.
-/
import Derived.Test.YtelgegefmjlimaaP8
import Derived.Test.YtelgegefmjlimaaP9
import Derived.Test.YtelgegefmjlimaaP7
import Derived.Test.YtelgegefmjlimaaP6
import Derived.Deep.Strs
import Derived.Test.YtelgegefmjlimaaRows
/-
  The walk of the reference's Compose: two changes, one behind the other. No condition.
-/
namespace Go.Eng
open Go Go.RowKit
def mV (x : Int × UInt8) : List Value := [.int .i64 x.1, .int .u8 (x.2.toNat : Int)]
theorem pend_more {A pre rest : List Atm} {ds : List UInt8} {next : Nat} (h : A = pre ++ (ds.map .d ++ rest)) (hn : next ≤ fromA pre) :
    ((bytesA A).take (fromA pre + ds.length)).drop next = ((bytesA A).take (fromA pre)).drop next ++ ds := by
  have hl := bytesA_len pre
  rw [h, bytesA_append, bytesA_append, bytesA_ds, ← hl, List.take_length_add_append, List.take_left, List.take_left, List.drop_append_of_le_length (by omega)]
theorem mids_at {A pre rest : List Atm} {ds : List UInt8} {c : UInt8} (h : A = pre ++ (ds.map .d ++ .p c :: rest)) : (midsA 0 A)[toA pre]? = some (-1, c) := by
  rw [h, midsA_append, List.getElem?_append_right (by rw [midsA_len]; exact Nat.le_refl _), midsA_len, Nat.sub_self, midsA_append, midsA_ds]
  rfl
theorem mids_atk {A pre rest : List Atm} {ds : List UInt8} (h : A = pre ++ (ds.map .d ++ .k :: rest)) : (midsA 0 A)[toA pre]? = some (((fromA pre + ds.length : Nat) : Int), 0) := by
  rw [h, midsA_append, List.getElem?_append_right (by rw [midsA_len]; exact Nat.le_refl _), midsA_len, Nat.sub_self, midsA_append, midsA_ds, fromA_d, Nat.zero_add]
  rfl
theorem midsTo_zero (P : List (List UInt8)) (D : List Bool) : midsTo P D 0 = [] := rfl
theorem midsTo_succ (P : List (List UInt8)) (D : List Bool) (p : Nat) : midsTo P D (p + 1) = midsTo P D p ++ (P.getD p []).map (fun c => (-1, c)) ++ (if D.getD p true = false then [((p : Int), 0)] else []) := rfl
end Go.Eng
namespace Go.Proofs.Ytelgegefmjlimaa
open Go Go.Eng
set_option maxRecDepth 100000
set_option maxHeartbeats 4000000
set_option linter.all false
attribute [local irreducible] WL WC WQ QFun QLoop Does Q1 QRound QAssign Go.Addr.add
attribute [local irreducible] sizesF sizesOf cmpT putsOf dropsOf bytesOf gapsOf midsTo
theorem mdrop_any {b : Nat} {c : Option Addr} {cp : Nat} (B : Bld) (d : UInt8) (hB : B.d.length ≤ 100000000000) (w0 : World) (m : Mem) (H : SHeap) :
    Does Try.prog 49 #[.pointer (some ⟨b, 0, none⟩), .int .u8 (d.toNat : Int)] w0 m (.blk b (.cells [.slice c B.l.length cp, str B.p, str B.d].toArray 109 (0, 0)) :: H)
      (fun v m' H' => v = .tuple #[] ∧ m' = m ∧ H' = .blk b (.cells [.slice c B.l.length cp, str B.p, str (B.d ++ [d])].toArray 109 (0, 0)) :: H) := by
  refine Does.of_body (args := [.pointer (some ⟨b, 0, none⟩), .int .u8 (d.toNat : Int)]) Try.func49 rfl Try.ntmps49 rfl ?_
  have hd1 : [d].length = 1 := rfl
  refine WC.drawE 11 ([.blk b (.cells [.slice c B.l.length cp, str B.p, str B.d].toArray 109 (0, 0))]) (H) rfl (by decide +kernel) (fun w h => Pick.sat (by iterate 60 (try (first | exact Pick.all | (apply Pick.take; (· (repeat (first | exact Out.here | apply Out.there)))) | apply Pick.drop))) h) ?_
  ((try (refine WE.calm 0 (by decide +kernel) rfl rfl (by decide +kernel) rfl (fun c h => by cases h) (by intro zm zF zle; ((repeat (refine sp ?_; intros)); exact WQ.q1 rfl)) ?_)); (try (refine WE.calm 1 (by decide +kernel) rfl rfl (by decide +kernel) rfl (fun c h => by cases h) (by intro zm zF zle; ((repeat (refine sp ?_; intros)); exact WQ.q1 rfl)) ?_)); (try (refine WE.calm 2 (by decide +kernel) rfl rfl (by decide +kernel) rfl (fun c h => by cases h) (by intro zm zF zle; ((repeat (refine sp ?_; intros)); exact WQ.q1 rfl)) ?_)); (try (refine WE.calm 3 (by decide +kernel) rfl rfl (by decide +kernel) rfl (fun c h => by cases h) (by intro zm zF zle; ((repeat (refine sp ?_; intros)); exact WQ.q1 rfl)) ?_)); (try (refine WE.calm 4 (by decide +kernel) rfl rfl (by decide +kernel) rfl (fun c h => by cases h) (by intro zm zF zle; ((repeat (refine sp ?_; intros)); exact WQ.q1 rfl)) ?_)); (try (refine WE.calm 5 (by decide +kernel) rfl rfl (by decide +kernel) rfl (fun c h => by cases h) (by intro zm zF zle; ((repeat (refine sp ?_; intros)); exact WQ.q1 rfl)) ?_)); (try (refine WE.calm 6 (by decide +kernel) rfl rfl (by decide +kernel) rfl (fun c h => by cases h) (by intro zm zF zle; ((repeat (refine sp ?_; intros)); exact WQ.q1 rfl)) ?_)); (try (refine WE.calm 7 (by decide +kernel) rfl rfl (by decide +kernel) rfl (fun c h => by cases h) (by intro zm zF zle; ((repeat (refine sp ?_; intros)); exact WQ.q1 rfl)) ?_)); (try (refine WE.calm 8 (by decide +kernel) rfl rfl (by decide +kernel) rfl (fun c h => by cases h) (by intro zm zF zle; ((repeat (refine sp ?_; intros)); exact WQ.q1 rfl)) ?_)); (try (refine WE.calm 9 (by decide +kernel) rfl rfl (by decide +kernel) rfl (fun c h => by cases h) (by intro zm zF zle; ((repeat (refine sp ?_; intros)); exact WQ.q1 rfl)) ?_)); (try (refine WE.calm 10 (by decide +kernel) rfl rfl (by decide +kernel) rfl (fun c h => by cases h) (by intro zm zF zle; ((repeat (refine sp ?_; intros)); exact WQ.q1 rfl)) ?_)); (try (refine WE.calm 11 (by decide +kernel) rfl rfl (by decide +kernel) rfl (fun c h => by cases h) (by intro zm zF zle; ((repeat (refine sp ?_; intros)); exact WQ.q1 rfl)) ?_)); (try (refine WE.calm 12 (by decide +kernel) rfl rfl (by decide +kernel) rfl (fun c h => by cases h) (by intro zm zF zle; ((repeat (refine sp ?_; intros)); exact WQ.q1 rfl)) ?_)); (try (refine WE.calm 13 (by decide +kernel) rfl rfl (by decide +kernel) rfl (fun c h => by cases h) (by intro zm zF zle; ((repeat (refine sp ?_; intros)); exact WQ.q1 rfl)) ?_)); (try (refine WE.calm 14 (by decide +kernel) rfl rfl (by decide +kernel) rfl (fun c h => by cases h) (by intro zm zF zle; ((repeat (refine sp ?_; intros)); exact WQ.q1 rfl)) ?_)); (try (refine WE.calm 15 (by decide +kernel) rfl rfl (by decide +kernel) rfl (fun c h => by cases h) (by intro zm zF zle; ((repeat (refine sp ?_; intros)); exact WQ.q1 rfl)) ?_)); (try (refine WE.calm 16 (by decide +kernel) rfl rfl (by decide +kernel) rfl (fun c h => by cases h) (by intro zm zF zle; ((repeat (refine sp ?_; intros)); exact WQ.q1 rfl)) ?_)); (try (refine WE.calm 17 (by decide +kernel) rfl rfl (by decide +kernel) rfl (fun c h => by cases h) (by intro zm zF zle; ((repeat (refine sp ?_; intros)); exact WQ.q1 rfl)) ?_)); (try (refine WE.calm 18 (by decide +kernel) rfl rfl (by decide +kernel) rfl (fun c h => by cases h) (by intro zm zF zle; ((repeat (refine sp ?_; intros)); exact WQ.q1 rfl)) ?_)); (try (refine WE.calm 19 (by decide +kernel) rfl rfl (by decide +kernel) rfl (fun c h => by cases h) (by intro zm zF zle; ((repeat (refine sp ?_; intros)); exact WQ.q1 rfl)) ?_)); (try (refine WE.calm 20 (by decide +kernel) rfl rfl (by decide +kernel) rfl (fun c h => by cases h) (by intro zm zF zle; ((repeat (refine sp ?_; intros)); exact WQ.q1 rfl)) ?_)); (try (refine WE.calm 21 (by decide +kernel) rfl rfl (by decide +kernel) rfl (fun c h => by cases h) (by intro zm zF zle; ((repeat (refine sp ?_; intros)); exact WQ.q1 rfl)) ?_)); (try (refine WE.calm 22 (by decide +kernel) rfl rfl (by decide +kernel) rfl (fun c h => by cases h) (by intro zm zF zle; ((repeat (refine sp ?_; intros)); exact WQ.q1 rfl)) ?_)); (try (refine WE.calm 23 (by decide +kernel) rfl rfl (by decide +kernel) rfl (fun c h => by cases h) (by intro zm zF zle; ((repeat (refine sp ?_; intros)); exact WQ.q1 rfl)) ?_)); (try (refine WE.calm 24 (by decide +kernel) rfl rfl (by decide +kernel) rfl (fun c h => by cases h) (by intro zm zF zle; ((repeat (refine sp ?_; intros)); exact WQ.q1 rfl)) ?_)); (try (refine WE.calm 25 (by decide +kernel) rfl rfl (by decide +kernel) rfl (fun c h => by cases h) (by intro zm zF zle; ((repeat (refine sp ?_; intros)); exact WQ.q1 rfl)) ?_)); (try (refine WE.calm 26 (by decide +kernel) rfl rfl (by decide +kernel) rfl (fun c h => by cases h) (by intro zm zF zle; ((repeat (refine sp ?_; intros)); exact WQ.q1 rfl)) ?_)); (try (refine WE.calm 27 (by decide +kernel) rfl rfl (by decide +kernel) rfl (fun c h => by cases h) (by intro zm zF zle; ((repeat (refine sp ?_; intros)); exact WQ.q1 rfl)) ?_)); (try (refine WE.calm 28 (by decide +kernel) rfl rfl (by decide +kernel) rfl (fun c h => by cases h) (by intro zm zF zle; ((repeat (refine sp ?_; intros)); exact WQ.q1 rfl)) ?_)); (try (refine WE.calm 29 (by decide +kernel) rfl rfl (by decide +kernel) rfl (fun c h => by cases h) (by intro zm zF zle; ((repeat (refine sp ?_; intros)); exact WQ.q1 rfl)) ?_)); (try (refine WE.calm 30 (by decide +kernel) rfl rfl (by decide +kernel) rfl (fun c h => by cases h) (by intro zm zF zle; ((repeat (refine sp ?_; intros)); exact WQ.q1 rfl)) ?_)); (try (refine WE.calm 31 (by decide +kernel) rfl rfl (by decide +kernel) rfl (fun c h => by cases h) (by intro zm zF zle; ((repeat (refine sp ?_; intros)); exact WQ.q1 rfl)) ?_)); (try (refine WE.calm 32 (by decide +kernel) rfl rfl (by decide +kernel) rfl (fun c h => by cases h) (by intro zm zF zle; ((repeat (refine sp ?_; intros)); exact WQ.q1 rfl)) ?_)); (try (refine WE.calm 33 (by decide +kernel) rfl rfl (by decide +kernel) rfl (fun c h => by cases h) (by intro zm zF zle; ((repeat (refine sp ?_; intros)); exact WQ.q1 rfl)) ?_)); (try (refine WE.calm 34 (by decide +kernel) rfl rfl (by decide +kernel) rfl (fun c h => by cases h) (by intro zm zF zle; ((repeat (refine sp ?_; intros)); exact WQ.q1 rfl)) ?_)); (try (refine WE.calm 35 (by decide +kernel) rfl rfl (by decide +kernel) rfl (fun c h => by cases h) (by intro zm zF zle; ((repeat (refine sp ?_; intros)); exact WQ.q1 rfl)) ?_)); (try (refine WE.calm 36 (by decide +kernel) rfl rfl (by decide +kernel) rfl (fun c h => by cases h) (by intro zm zF zle; ((repeat (refine sp ?_; intros)); exact WQ.q1 rfl)) ?_)); (try (refine WE.calm 37 (by decide +kernel) rfl rfl (by decide +kernel) rfl (fun c h => by cases h) (by intro zm zF zle; ((repeat (refine sp ?_; intros)); exact WQ.q1 rfl)) ?_)); (try (refine WE.calm 38 (by decide +kernel) rfl rfl (by decide +kernel) rfl (fun c h => by cases h) (by intro zm zF zle; ((repeat (refine sp ?_; intros)); exact WQ.q1 rfl)) ?_)); (try (refine WE.calm 39 (by decide +kernel) rfl rfl (by decide +kernel) rfl (fun c h => by cases h) (by intro zm zF zle; ((repeat (refine sp ?_; intros)); exact WQ.q1 rfl)) ?_)); (try (refine WE.calm 40 (by decide +kernel) rfl rfl (by decide +kernel) rfl (fun c h => by cases h) (by intro zm zF zle; ((repeat (refine sp ?_; intros)); exact WQ.q1 rfl)) ?_)); (try (refine WE.calm 41 (by decide +kernel) rfl rfl (by decide +kernel) rfl (fun c h => by cases h) (by intro zm zF zle; ((repeat (refine sp ?_; intros)); exact WQ.q1 rfl)) ?_)))
  refine WE.act1 6 (by decide +kernel) rfl rfl (fun c h => by cases h) ?_
  (refine st ?_; intros; rename_i q)
  refine WQ.acted (B := [.blk q (.cells [.int .u8 (d.toNat : Int)].toArray 5 (0, 0))]) (U := H) rfl (Mem.le.refl _) (fun w h => Pick.sat (by iterate 60 (try (first | exact Pick.all | (apply Pick.take; (· (repeat (first | exact Out.here | apply Out.there)))) | apply Pick.drop))) h) ?_
  ((try (refine WE.calm 0 (by decide +kernel) rfl rfl (by decide +kernel) rfl (fun c h => by cases h) (by intro zm zF zle; try refine WL.blkStr (s := [d]) rfl (by (repeat (first | exact List.Mem.head _ | apply List.Mem.tail))) rfl rfl rfl rfl rfl rfl rfl ?_; ((repeat (refine sp ?_; intros)); exact WQ.q1 rfl)) ?_)); (try (refine WE.calm 1 (by decide +kernel) rfl rfl (by decide +kernel) rfl (fun c h => by cases h) (by intro zm zF zle; try refine WL.blkStr (s := [d]) rfl (by (repeat (first | exact List.Mem.head _ | apply List.Mem.tail))) rfl rfl rfl rfl rfl rfl rfl ?_; ((repeat (refine sp ?_; intros)); exact WQ.q1 rfl)) ?_)); (try (refine WE.calm 2 (by decide +kernel) rfl rfl (by decide +kernel) rfl (fun c h => by cases h) (by intro zm zF zle; try refine WL.blkStr (s := [d]) rfl (by (repeat (first | exact List.Mem.head _ | apply List.Mem.tail))) rfl rfl rfl rfl rfl rfl rfl ?_; ((repeat (refine sp ?_; intros)); exact WQ.q1 rfl)) ?_)); (try (refine WE.calm 3 (by decide +kernel) rfl rfl (by decide +kernel) rfl (fun c h => by cases h) (by intro zm zF zle; try refine WL.blkStr (s := [d]) rfl (by (repeat (first | exact List.Mem.head _ | apply List.Mem.tail))) rfl rfl rfl rfl rfl rfl rfl ?_; ((repeat (refine sp ?_; intros)); exact WQ.q1 rfl)) ?_)); (try (refine WE.calm 4 (by decide +kernel) rfl rfl (by decide +kernel) rfl (fun c h => by cases h) (by intro zm zF zle; try refine WL.blkStr (s := [d]) rfl (by (repeat (first | exact List.Mem.head _ | apply List.Mem.tail))) rfl rfl rfl rfl rfl rfl rfl ?_; ((repeat (refine sp ?_; intros)); exact WQ.q1 rfl)) ?_)); (try (refine WE.calm 5 (by decide +kernel) rfl rfl (by decide +kernel) rfl (fun c h => by cases h) (by intro zm zF zle; try refine WL.blkStr (s := [d]) rfl (by (repeat (first | exact List.Mem.head _ | apply List.Mem.tail))) rfl rfl rfl rfl rfl rfl rfl ?_; ((repeat (refine sp ?_; intros)); exact WQ.q1 rfl)) ?_)); (try (refine WE.calm 6 (by decide +kernel) rfl rfl (by decide +kernel) rfl (fun c h => by cases h) (by intro zm zF zle; try refine WL.blkStr (s := [d]) rfl (by (repeat (first | exact List.Mem.head _ | apply List.Mem.tail))) rfl rfl rfl rfl rfl rfl rfl ?_; ((repeat (refine sp ?_; intros)); exact WQ.q1 rfl)) ?_)); (try (refine WE.calm 7 (by decide +kernel) rfl rfl (by decide +kernel) rfl (fun c h => by cases h) (by intro zm zF zle; try refine WL.blkStr (s := [d]) rfl (by (repeat (first | exact List.Mem.head _ | apply List.Mem.tail))) rfl rfl rfl rfl rfl rfl rfl ?_; ((repeat (refine sp ?_; intros)); exact WQ.q1 rfl)) ?_)); (try (refine WE.calm 8 (by decide +kernel) rfl rfl (by decide +kernel) rfl (fun c h => by cases h) (by intro zm zF zle; try refine WL.blkStr (s := [d]) rfl (by (repeat (first | exact List.Mem.head _ | apply List.Mem.tail))) rfl rfl rfl rfl rfl rfl rfl ?_; ((repeat (refine sp ?_; intros)); exact WQ.q1 rfl)) ?_)); (try (refine WE.calm 9 (by decide +kernel) rfl rfl (by decide +kernel) rfl (fun c h => by cases h) (by intro zm zF zle; try refine WL.blkStr (s := [d]) rfl (by (repeat (first | exact List.Mem.head _ | apply List.Mem.tail))) rfl rfl rfl rfl rfl rfl rfl ?_; ((repeat (refine sp ?_; intros)); exact WQ.q1 rfl)) ?_)); (try (refine WE.calm 10 (by decide +kernel) rfl rfl (by decide +kernel) rfl (fun c h => by cases h) (by intro zm zF zle; try refine WL.blkStr (s := [d]) rfl (by (repeat (first | exact List.Mem.head _ | apply List.Mem.tail))) rfl rfl rfl rfl rfl rfl rfl ?_; ((repeat (refine sp ?_; intros)); exact WQ.q1 rfl)) ?_)); (try (refine WE.calm 11 (by decide +kernel) rfl rfl (by decide +kernel) rfl (fun c h => by cases h) (by intro zm zF zle; try refine WL.blkStr (s := [d]) rfl (by (repeat (first | exact List.Mem.head _ | apply List.Mem.tail))) rfl rfl rfl rfl rfl rfl rfl ?_; ((repeat (refine sp ?_; intros)); exact WQ.q1 rfl)) ?_)); (try (refine WE.calm 12 (by decide +kernel) rfl rfl (by decide +kernel) rfl (fun c h => by cases h) (by intro zm zF zle; try refine WL.blkStr (s := [d]) rfl (by (repeat (first | exact List.Mem.head _ | apply List.Mem.tail))) rfl rfl rfl rfl rfl rfl rfl ?_; ((repeat (refine sp ?_; intros)); exact WQ.q1 rfl)) ?_)); (try (refine WE.calm 13 (by decide +kernel) rfl rfl (by decide +kernel) rfl (fun c h => by cases h) (by intro zm zF zle; try refine WL.blkStr (s := [d]) rfl (by (repeat (first | exact List.Mem.head _ | apply List.Mem.tail))) rfl rfl rfl rfl rfl rfl rfl ?_; ((repeat (refine sp ?_; intros)); exact WQ.q1 rfl)) ?_)); (try (refine WE.calm 14 (by decide +kernel) rfl rfl (by decide +kernel) rfl (fun c h => by cases h) (by intro zm zF zle; try refine WL.blkStr (s := [d]) rfl (by (repeat (first | exact List.Mem.head _ | apply List.Mem.tail))) rfl rfl rfl rfl rfl rfl rfl ?_; ((repeat (refine sp ?_; intros)); exact WQ.q1 rfl)) ?_)); (try (refine WE.calm 15 (by decide +kernel) rfl rfl (by decide +kernel) rfl (fun c h => by cases h) (by intro zm zF zle; try refine WL.blkStr (s := [d]) rfl (by (repeat (first | exact List.Mem.head _ | apply List.Mem.tail))) rfl rfl rfl rfl rfl rfl rfl ?_; ((repeat (refine sp ?_; intros)); exact WQ.q1 rfl)) ?_)); (try (refine WE.calm 16 (by decide +kernel) rfl rfl (by decide +kernel) rfl (fun c h => by cases h) (by intro zm zF zle; try refine WL.blkStr (s := [d]) rfl (by (repeat (first | exact List.Mem.head _ | apply List.Mem.tail))) rfl rfl rfl rfl rfl rfl rfl ?_; ((repeat (refine sp ?_; intros)); exact WQ.q1 rfl)) ?_)); (try (refine WE.calm 17 (by decide +kernel) rfl rfl (by decide +kernel) rfl (fun c h => by cases h) (by intro zm zF zle; try refine WL.blkStr (s := [d]) rfl (by (repeat (first | exact List.Mem.head _ | apply List.Mem.tail))) rfl rfl rfl rfl rfl rfl rfl ?_; ((repeat (refine sp ?_; intros)); exact WQ.q1 rfl)) ?_)); (try (refine WE.calm 18 (by decide +kernel) rfl rfl (by decide +kernel) rfl (fun c h => by cases h) (by intro zm zF zle; try refine WL.blkStr (s := [d]) rfl (by (repeat (first | exact List.Mem.head _ | apply List.Mem.tail))) rfl rfl rfl rfl rfl rfl rfl ?_; ((repeat (refine sp ?_; intros)); exact WQ.q1 rfl)) ?_)); (try (refine WE.calm 19 (by decide +kernel) rfl rfl (by decide +kernel) rfl (fun c h => by cases h) (by intro zm zF zle; try refine WL.blkStr (s := [d]) rfl (by (repeat (first | exact List.Mem.head _ | apply List.Mem.tail))) rfl rfl rfl rfl rfl rfl rfl ?_; ((repeat (refine sp ?_; intros)); exact WQ.q1 rfl)) ?_)); (try (refine WE.calm 20 (by decide +kernel) rfl rfl (by decide +kernel) rfl (fun c h => by cases h) (by intro zm zF zle; try refine WL.blkStr (s := [d]) rfl (by (repeat (first | exact List.Mem.head _ | apply List.Mem.tail))) rfl rfl rfl rfl rfl rfl rfl ?_; ((repeat (refine sp ?_; intros)); exact WQ.q1 rfl)) ?_)); (try (refine WE.calm 21 (by decide +kernel) rfl rfl (by decide +kernel) rfl (fun c h => by cases h) (by intro zm zF zle; try refine WL.blkStr (s := [d]) rfl (by (repeat (first | exact List.Mem.head _ | apply List.Mem.tail))) rfl rfl rfl rfl rfl rfl rfl ?_; ((repeat (refine sp ?_; intros)); exact WQ.q1 rfl)) ?_)); (try (refine WE.calm 22 (by decide +kernel) rfl rfl (by decide +kernel) rfl (fun c h => by cases h) (by intro zm zF zle; try refine WL.blkStr (s := [d]) rfl (by (repeat (first | exact List.Mem.head _ | apply List.Mem.tail))) rfl rfl rfl rfl rfl rfl rfl ?_; ((repeat (refine sp ?_; intros)); exact WQ.q1 rfl)) ?_)); (try (refine WE.calm 23 (by decide +kernel) rfl rfl (by decide +kernel) rfl (fun c h => by cases h) (by intro zm zF zle; try refine WL.blkStr (s := [d]) rfl (by (repeat (first | exact List.Mem.head _ | apply List.Mem.tail))) rfl rfl rfl rfl rfl rfl rfl ?_; ((repeat (refine sp ?_; intros)); exact WQ.q1 rfl)) ?_)); (try (refine WE.calm 24 (by decide +kernel) rfl rfl (by decide +kernel) rfl (fun c h => by cases h) (by intro zm zF zle; try refine WL.blkStr (s := [d]) rfl (by (repeat (first | exact List.Mem.head _ | apply List.Mem.tail))) rfl rfl rfl rfl rfl rfl rfl ?_; ((repeat (refine sp ?_; intros)); exact WQ.q1 rfl)) ?_)); (try (refine WE.calm 25 (by decide +kernel) rfl rfl (by decide +kernel) rfl (fun c h => by cases h) (by intro zm zF zle; try refine WL.blkStr (s := [d]) rfl (by (repeat (first | exact List.Mem.head _ | apply List.Mem.tail))) rfl rfl rfl rfl rfl rfl rfl ?_; ((repeat (refine sp ?_; intros)); exact WQ.q1 rfl)) ?_)); (try (refine WE.calm 26 (by decide +kernel) rfl rfl (by decide +kernel) rfl (fun c h => by cases h) (by intro zm zF zle; try refine WL.blkStr (s := [d]) rfl (by (repeat (first | exact List.Mem.head _ | apply List.Mem.tail))) rfl rfl rfl rfl rfl rfl rfl ?_; ((repeat (refine sp ?_; intros)); exact WQ.q1 rfl)) ?_)); (try (refine WE.calm 27 (by decide +kernel) rfl rfl (by decide +kernel) rfl (fun c h => by cases h) (by intro zm zF zle; try refine WL.blkStr (s := [d]) rfl (by (repeat (first | exact List.Mem.head _ | apply List.Mem.tail))) rfl rfl rfl rfl rfl rfl rfl ?_; ((repeat (refine sp ?_; intros)); exact WQ.q1 rfl)) ?_)); (try (refine WE.calm 28 (by decide +kernel) rfl rfl (by decide +kernel) rfl (fun c h => by cases h) (by intro zm zF zle; try refine WL.blkStr (s := [d]) rfl (by (repeat (first | exact List.Mem.head _ | apply List.Mem.tail))) rfl rfl rfl rfl rfl rfl rfl ?_; ((repeat (refine sp ?_; intros)); exact WQ.q1 rfl)) ?_)); (try (refine WE.calm 29 (by decide +kernel) rfl rfl (by decide +kernel) rfl (fun c h => by cases h) (by intro zm zF zle; try refine WL.blkStr (s := [d]) rfl (by (repeat (first | exact List.Mem.head _ | apply List.Mem.tail))) rfl rfl rfl rfl rfl rfl rfl ?_; ((repeat (refine sp ?_; intros)); exact WQ.q1 rfl)) ?_)); (try (refine WE.calm 30 (by decide +kernel) rfl rfl (by decide +kernel) rfl (fun c h => by cases h) (by intro zm zF zle; try refine WL.blkStr (s := [d]) rfl (by (repeat (first | exact List.Mem.head _ | apply List.Mem.tail))) rfl rfl rfl rfl rfl rfl rfl ?_; ((repeat (refine sp ?_; intros)); exact WQ.q1 rfl)) ?_)); (try (refine WE.calm 31 (by decide +kernel) rfl rfl (by decide +kernel) rfl (fun c h => by cases h) (by intro zm zF zle; try refine WL.blkStr (s := [d]) rfl (by (repeat (first | exact List.Mem.head _ | apply List.Mem.tail))) rfl rfl rfl rfl rfl rfl rfl ?_; ((repeat (refine sp ?_; intros)); exact WQ.q1 rfl)) ?_)); (try (refine WE.calm 32 (by decide +kernel) rfl rfl (by decide +kernel) rfl (fun c h => by cases h) (by intro zm zF zle; try refine WL.blkStr (s := [d]) rfl (by (repeat (first | exact List.Mem.head _ | apply List.Mem.tail))) rfl rfl rfl rfl rfl rfl rfl ?_; ((repeat (refine sp ?_; intros)); exact WQ.q1 rfl)) ?_)); (try (refine WE.calm 33 (by decide +kernel) rfl rfl (by decide +kernel) rfl (fun c h => by cases h) (by intro zm zF zle; try refine WL.blkStr (s := [d]) rfl (by (repeat (first | exact List.Mem.head _ | apply List.Mem.tail))) rfl rfl rfl rfl rfl rfl rfl ?_; ((repeat (refine sp ?_; intros)); exact WQ.q1 rfl)) ?_)); (try (refine WE.calm 34 (by decide +kernel) rfl rfl (by decide +kernel) rfl (fun c h => by cases h) (by intro zm zF zle; try refine WL.blkStr (s := [d]) rfl (by (repeat (first | exact List.Mem.head _ | apply List.Mem.tail))) rfl rfl rfl rfl rfl rfl rfl ?_; ((repeat (refine sp ?_; intros)); exact WQ.q1 rfl)) ?_)); (try (refine WE.calm 35 (by decide +kernel) rfl rfl (by decide +kernel) rfl (fun c h => by cases h) (by intro zm zF zle; try refine WL.blkStr (s := [d]) rfl (by (repeat (first | exact List.Mem.head _ | apply List.Mem.tail))) rfl rfl rfl rfl rfl rfl rfl ?_; ((repeat (refine sp ?_; intros)); exact WQ.q1 rfl)) ?_)); (try (refine WE.calm 36 (by decide +kernel) rfl rfl (by decide +kernel) rfl (fun c h => by cases h) (by intro zm zF zle; try refine WL.blkStr (s := [d]) rfl (by (repeat (first | exact List.Mem.head _ | apply List.Mem.tail))) rfl rfl rfl rfl rfl rfl rfl ?_; ((repeat (refine sp ?_; intros)); exact WQ.q1 rfl)) ?_)); (try (refine WE.calm 37 (by decide +kernel) rfl rfl (by decide +kernel) rfl (fun c h => by cases h) (by intro zm zF zle; try refine WL.blkStr (s := [d]) rfl (by (repeat (first | exact List.Mem.head _ | apply List.Mem.tail))) rfl rfl rfl rfl rfl rfl rfl ?_; ((repeat (refine sp ?_; intros)); exact WQ.q1 rfl)) ?_)); (try (refine WE.calm 38 (by decide +kernel) rfl rfl (by decide +kernel) rfl (fun c h => by cases h) (by intro zm zF zle; try refine WL.blkStr (s := [d]) rfl (by (repeat (first | exact List.Mem.head _ | apply List.Mem.tail))) rfl rfl rfl rfl rfl rfl rfl ?_; ((repeat (refine sp ?_; intros)); exact WQ.q1 rfl)) ?_)); (try (refine WE.calm 39 (by decide +kernel) rfl rfl (by decide +kernel) rfl (fun c h => by cases h) (by intro zm zF zle; try refine WL.blkStr (s := [d]) rfl (by (repeat (first | exact List.Mem.head _ | apply List.Mem.tail))) rfl rfl rfl rfl rfl rfl rfl ?_; ((repeat (refine sp ?_; intros)); exact WQ.q1 rfl)) ?_)); (try (refine WE.calm 40 (by decide +kernel) rfl rfl (by decide +kernel) rfl (fun c h => by cases h) (by intro zm zF zle; try refine WL.blkStr (s := [d]) rfl (by (repeat (first | exact List.Mem.head _ | apply List.Mem.tail))) rfl rfl rfl rfl rfl rfl rfl ?_; ((repeat (refine sp ?_; intros)); exact WQ.q1 rfl)) ?_)); (try (refine WE.calm 41 (by decide +kernel) rfl rfl (by decide +kernel) rfl (fun c h => by cases h) (by intro zm zF zle; try refine WL.blkStr (s := [d]) rfl (by (repeat (first | exact List.Mem.head _ | apply List.Mem.tail))) rfl rfl rfl rfl rfl rfl rfl ?_; ((repeat (refine sp ?_; intros)); exact WQ.q1 rfl)) ?_)))
  ((try (refine WE.calm 0 (by decide +kernel) rfl rfl (by decide +kernel) rfl (fun c h => by cases h) (by intro zm zF zle; ((repeat (refine sp ?_; intros)); exact WQ.q1 rfl)) ?_)); (try (refine WE.calm 1 (by decide +kernel) rfl rfl (by decide +kernel) rfl (fun c h => by cases h) (by intro zm zF zle; ((repeat (refine sp ?_; intros)); exact WQ.q1 rfl)) ?_)); (try (refine WE.calm 2 (by decide +kernel) rfl rfl (by decide +kernel) rfl (fun c h => by cases h) (by intro zm zF zle; ((repeat (refine sp ?_; intros)); exact WQ.q1 rfl)) ?_)); (try (refine WE.calm 3 (by decide +kernel) rfl rfl (by decide +kernel) rfl (fun c h => by cases h) (by intro zm zF zle; ((repeat (refine sp ?_; intros)); exact WQ.q1 rfl)) ?_)); (try (refine WE.calm 4 (by decide +kernel) rfl rfl (by decide +kernel) rfl (fun c h => by cases h) (by intro zm zF zle; ((repeat (refine sp ?_; intros)); exact WQ.q1 rfl)) ?_)); (try (refine WE.calm 5 (by decide +kernel) rfl rfl (by decide +kernel) rfl (fun c h => by cases h) (by intro zm zF zle; ((repeat (refine sp ?_; intros)); exact WQ.q1 rfl)) ?_)); (try (refine WE.calm 6 (by decide +kernel) rfl rfl (by decide +kernel) rfl (fun c h => by cases h) (by intro zm zF zle; ((repeat (refine sp ?_; intros)); exact WQ.q1 rfl)) ?_)); (try (refine WE.calm 7 (by decide +kernel) rfl rfl (by decide +kernel) rfl (fun c h => by cases h) (by intro zm zF zle; ((repeat (refine sp ?_; intros)); exact WQ.q1 rfl)) ?_)); (try (refine WE.calm 8 (by decide +kernel) rfl rfl (by decide +kernel) rfl (fun c h => by cases h) (by intro zm zF zle; ((repeat (refine sp ?_; intros)); exact WQ.q1 rfl)) ?_)); (try (refine WE.calm 9 (by decide +kernel) rfl rfl (by decide +kernel) rfl (fun c h => by cases h) (by intro zm zF zle; ((repeat (refine sp ?_; intros)); exact WQ.q1 rfl)) ?_)); (try (refine WE.calm 10 (by decide +kernel) rfl rfl (by decide +kernel) rfl (fun c h => by cases h) (by intro zm zF zle; ((repeat (refine sp ?_; intros)); exact WQ.q1 rfl)) ?_)); (try (refine WE.calm 11 (by decide +kernel) rfl rfl (by decide +kernel) rfl (fun c h => by cases h) (by intro zm zF zle; ((repeat (refine sp ?_; intros)); exact WQ.q1 rfl)) ?_)); (try (refine WE.calm 12 (by decide +kernel) rfl rfl (by decide +kernel) rfl (fun c h => by cases h) (by intro zm zF zle; ((repeat (refine sp ?_; intros)); exact WQ.q1 rfl)) ?_)); (try (refine WE.calm 13 (by decide +kernel) rfl rfl (by decide +kernel) rfl (fun c h => by cases h) (by intro zm zF zle; ((repeat (refine sp ?_; intros)); exact WQ.q1 rfl)) ?_)); (try (refine WE.calm 14 (by decide +kernel) rfl rfl (by decide +kernel) rfl (fun c h => by cases h) (by intro zm zF zle; ((repeat (refine sp ?_; intros)); exact WQ.q1 rfl)) ?_)); (try (refine WE.calm 15 (by decide +kernel) rfl rfl (by decide +kernel) rfl (fun c h => by cases h) (by intro zm zF zle; ((repeat (refine sp ?_; intros)); exact WQ.q1 rfl)) ?_)); (try (refine WE.calm 16 (by decide +kernel) rfl rfl (by decide +kernel) rfl (fun c h => by cases h) (by intro zm zF zle; ((repeat (refine sp ?_; intros)); exact WQ.q1 rfl)) ?_)); (try (refine WE.calm 17 (by decide +kernel) rfl rfl (by decide +kernel) rfl (fun c h => by cases h) (by intro zm zF zle; ((repeat (refine sp ?_; intros)); exact WQ.q1 rfl)) ?_)); (try (refine WE.calm 18 (by decide +kernel) rfl rfl (by decide +kernel) rfl (fun c h => by cases h) (by intro zm zF zle; ((repeat (refine sp ?_; intros)); exact WQ.q1 rfl)) ?_)); (try (refine WE.calm 19 (by decide +kernel) rfl rfl (by decide +kernel) rfl (fun c h => by cases h) (by intro zm zF zle; ((repeat (refine sp ?_; intros)); exact WQ.q1 rfl)) ?_)); (try (refine WE.calm 20 (by decide +kernel) rfl rfl (by decide +kernel) rfl (fun c h => by cases h) (by intro zm zF zle; ((repeat (refine sp ?_; intros)); exact WQ.q1 rfl)) ?_)); (try (refine WE.calm 21 (by decide +kernel) rfl rfl (by decide +kernel) rfl (fun c h => by cases h) (by intro zm zF zle; ((repeat (refine sp ?_; intros)); exact WQ.q1 rfl)) ?_)); (try (refine WE.calm 22 (by decide +kernel) rfl rfl (by decide +kernel) rfl (fun c h => by cases h) (by intro zm zF zle; ((repeat (refine sp ?_; intros)); exact WQ.q1 rfl)) ?_)); (try (refine WE.calm 23 (by decide +kernel) rfl rfl (by decide +kernel) rfl (fun c h => by cases h) (by intro zm zF zle; ((repeat (refine sp ?_; intros)); exact WQ.q1 rfl)) ?_)); (try (refine WE.calm 24 (by decide +kernel) rfl rfl (by decide +kernel) rfl (fun c h => by cases h) (by intro zm zF zle; ((repeat (refine sp ?_; intros)); exact WQ.q1 rfl)) ?_)); (try (refine WE.calm 25 (by decide +kernel) rfl rfl (by decide +kernel) rfl (fun c h => by cases h) (by intro zm zF zle; ((repeat (refine sp ?_; intros)); exact WQ.q1 rfl)) ?_)); (try (refine WE.calm 26 (by decide +kernel) rfl rfl (by decide +kernel) rfl (fun c h => by cases h) (by intro zm zF zle; ((repeat (refine sp ?_; intros)); exact WQ.q1 rfl)) ?_)); (try (refine WE.calm 27 (by decide +kernel) rfl rfl (by decide +kernel) rfl (fun c h => by cases h) (by intro zm zF zle; ((repeat (refine sp ?_; intros)); exact WQ.q1 rfl)) ?_)); (try (refine WE.calm 28 (by decide +kernel) rfl rfl (by decide +kernel) rfl (fun c h => by cases h) (by intro zm zF zle; ((repeat (refine sp ?_; intros)); exact WQ.q1 rfl)) ?_)); (try (refine WE.calm 29 (by decide +kernel) rfl rfl (by decide +kernel) rfl (fun c h => by cases h) (by intro zm zF zle; ((repeat (refine sp ?_; intros)); exact WQ.q1 rfl)) ?_)); (try (refine WE.calm 30 (by decide +kernel) rfl rfl (by decide +kernel) rfl (fun c h => by cases h) (by intro zm zF zle; ((repeat (refine sp ?_; intros)); exact WQ.q1 rfl)) ?_)); (try (refine WE.calm 31 (by decide +kernel) rfl rfl (by decide +kernel) rfl (fun c h => by cases h) (by intro zm zF zle; ((repeat (refine sp ?_; intros)); exact WQ.q1 rfl)) ?_)); (try (refine WE.calm 32 (by decide +kernel) rfl rfl (by decide +kernel) rfl (fun c h => by cases h) (by intro zm zF zle; ((repeat (refine sp ?_; intros)); exact WQ.q1 rfl)) ?_)); (try (refine WE.calm 33 (by decide +kernel) rfl rfl (by decide +kernel) rfl (fun c h => by cases h) (by intro zm zF zle; ((repeat (refine sp ?_; intros)); exact WQ.q1 rfl)) ?_)); (try (refine WE.calm 34 (by decide +kernel) rfl rfl (by decide +kernel) rfl (fun c h => by cases h) (by intro zm zF zle; ((repeat (refine sp ?_; intros)); exact WQ.q1 rfl)) ?_)); (try (refine WE.calm 35 (by decide +kernel) rfl rfl (by decide +kernel) rfl (fun c h => by cases h) (by intro zm zF zle; ((repeat (refine sp ?_; intros)); exact WQ.q1 rfl)) ?_)); (try (refine WE.calm 36 (by decide +kernel) rfl rfl (by decide +kernel) rfl (fun c h => by cases h) (by intro zm zF zle; ((repeat (refine sp ?_; intros)); exact WQ.q1 rfl)) ?_)); (try (refine WE.calm 37 (by decide +kernel) rfl rfl (by decide +kernel) rfl (fun c h => by cases h) (by intro zm zF zle; ((repeat (refine sp ?_; intros)); exact WQ.q1 rfl)) ?_)); (try (refine WE.calm 38 (by decide +kernel) rfl rfl (by decide +kernel) rfl (fun c h => by cases h) (by intro zm zF zle; ((repeat (refine sp ?_; intros)); exact WQ.q1 rfl)) ?_)); (try (refine WE.calm 39 (by decide +kernel) rfl rfl (by decide +kernel) rfl (fun c h => by cases h) (by intro zm zF zle; ((repeat (refine sp ?_; intros)); exact WQ.q1 rfl)) ?_)); (try (refine WE.calm 40 (by decide +kernel) rfl rfl (by decide +kernel) rfl (fun c h => by cases h) (by intro zm zF zle; ((repeat (refine sp ?_; intros)); exact WQ.q1 rfl)) ?_)); (try (refine WE.calm 41 (by decide +kernel) rfl rfl (by decide +kernel) rfl (fun c h => by cases h) (by intro zm zF zle; ((repeat (refine sp ?_; intros)); exact WQ.q1 rfl)) ?_)))
  refine WE.done (by decide +kernel) ?_
  (try (refine st ?_; intros))
  exact q_finNorm0 (H0 := .blk b (.cells [.slice c B.l.length cp, str B.p, str (B.d ++ [d])].toArray 109 (0, 0)) :: H) ⟨rfl, rfl, rfl⟩ (hd := (fun w h => Pick.sat (by iterate 60 (try (first | exact Pick.all | (apply Pick.take; (· (repeat (first | exact Out.here | apply Out.there)))) | apply Pick.drop))) h))
theorem sq_E16_1 {G : Prop} (h : G := by (repeat (first | (refine sp ?_; (repeat intro zzc)) | (refine iF 14 rfl ?_; refine w_callG Try.func14 ?_ (hs := refSizes_any (by assumption) _ _ _ (by assumption))))); exact WQ.q1 rfl) : G := h
theorem st_E16_1 {G G' : Prop} (next : G') (h : Bx G' → G := by intro zzn; (first | ((refine st ?_; (repeat intro zzc)); (try ((first | (refine iF 14 rfl ?_; refine w_callG Try.func14 ?_ (hs := refSizes_any (by assumption) _ _ _ (by assumption))) | ((refine iDraw ?_; (first | refine WC.drawAll rfl (by decide +kernel) ?_ | refine WC.draw 1 rfl (by decide +kernel) ?_ | refine WC.draw 2 rfl (by decide +kernel) ?_ | refine WC.draw 3 rfl (by decide +kernel) ?_ | refine WC.draw 4 rfl (by decide +kernel) ?_ | refine WC.draw 5 rfl (by decide +kernel) ?_ | refine WC.draw 6 rfl (by decide +kernel) ?_ | refine WC.draw 7 rfl (by decide +kernel) ?_ | refine WC.draw 8 rfl (by decide +kernel) ?_ | refine WC.draw 9 rfl (by decide +kernel) ?_ | refine WC.draw 10 rfl (by decide +kernel) ?_ | refine WC.draw 11 rfl (by decide +kernel) ?_ | refine WC.draw 12 rfl (by decide +kernel) ?_ | refine WC.draw 13 rfl (by decide +kernel) ?_ | refine WC.draw 14 rfl (by decide +kernel) ?_ | refine WC.draw 15 rfl (by decide +kernel) ?_ | refine WC.draw 16 rfl (by decide +kernel) ?_ | refine WC.draw 17 rfl (by decide +kernel) ?_ | refine WC.draw 18 rfl (by decide +kernel) ?_ | refine WC.draw 19 rfl (by decide +kernel) ?_ | refine WC.draw 20 rfl (by decide +kernel) ?_ | refine WC.draw 21 rfl (by decide +kernel) ?_ | refine WC.draw 22 rfl (by decide +kernel) ?_ | refine WC.draw 23 rfl (by decide +kernel) ?_ | refine WC.draw 24 rfl (by decide +kernel) ?_)); (repeat (refine WD.cons rfl (fun c h => by cases h) sq_E16_1 ?_)); refine WD.nil ?_)); (try (refine st ?_; (repeat intro zzc)))))) | ((first | (refine iF 14 rfl ?_; refine w_callG Try.func14 ?_ (hs := refSizes_any (by assumption) _ _ _ (by assumption))) | ((refine iDraw ?_; (first | refine WC.drawAll rfl (by decide +kernel) ?_ | refine WC.draw 1 rfl (by decide +kernel) ?_ | refine WC.draw 2 rfl (by decide +kernel) ?_ | refine WC.draw 3 rfl (by decide +kernel) ?_ | refine WC.draw 4 rfl (by decide +kernel) ?_ | refine WC.draw 5 rfl (by decide +kernel) ?_ | refine WC.draw 6 rfl (by decide +kernel) ?_ | refine WC.draw 7 rfl (by decide +kernel) ?_ | refine WC.draw 8 rfl (by decide +kernel) ?_ | refine WC.draw 9 rfl (by decide +kernel) ?_ | refine WC.draw 10 rfl (by decide +kernel) ?_ | refine WC.draw 11 rfl (by decide +kernel) ?_ | refine WC.draw 12 rfl (by decide +kernel) ?_ | refine WC.draw 13 rfl (by decide +kernel) ?_ | refine WC.draw 14 rfl (by decide +kernel) ?_ | refine WC.draw 15 rfl (by decide +kernel) ?_ | refine WC.draw 16 rfl (by decide +kernel) ?_ | refine WC.draw 17 rfl (by decide +kernel) ?_ | refine WC.draw 18 rfl (by decide +kernel) ?_ | refine WC.draw 19 rfl (by decide +kernel) ?_ | refine WC.draw 20 rfl (by decide +kernel) ?_ | refine WC.draw 21 rfl (by decide +kernel) ?_ | refine WC.draw 22 rfl (by decide +kernel) ?_ | refine WC.draw 23 rfl (by decide +kernel) ?_ | refine WC.draw 24 rfl (by decide +kernel) ?_)); (repeat (refine WD.cons rfl (fun c h => by cases h) sq_E16_1 ?_)); refine WD.nil ?_)); (try (refine st ?_; (repeat intro zzc))))); (repeat ((first | (refine iF 14 rfl ?_; refine w_callG Try.func14 ?_ (hs := refSizes_any (by assumption) _ _ _ (by assumption))) | ((refine iDraw ?_; (first | refine WC.drawAll rfl (by decide +kernel) ?_ | refine WC.draw 1 rfl (by decide +kernel) ?_ | refine WC.draw 2 rfl (by decide +kernel) ?_ | refine WC.draw 3 rfl (by decide +kernel) ?_ | refine WC.draw 4 rfl (by decide +kernel) ?_ | refine WC.draw 5 rfl (by decide +kernel) ?_ | refine WC.draw 6 rfl (by decide +kernel) ?_ | refine WC.draw 7 rfl (by decide +kernel) ?_ | refine WC.draw 8 rfl (by decide +kernel) ?_ | refine WC.draw 9 rfl (by decide +kernel) ?_ | refine WC.draw 10 rfl (by decide +kernel) ?_ | refine WC.draw 11 rfl (by decide +kernel) ?_ | refine WC.draw 12 rfl (by decide +kernel) ?_ | refine WC.draw 13 rfl (by decide +kernel) ?_ | refine WC.draw 14 rfl (by decide +kernel) ?_ | refine WC.draw 15 rfl (by decide +kernel) ?_ | refine WC.draw 16 rfl (by decide +kernel) ?_ | refine WC.draw 17 rfl (by decide +kernel) ?_ | refine WC.draw 18 rfl (by decide +kernel) ?_ | refine WC.draw 19 rfl (by decide +kernel) ?_ | refine WC.draw 20 rfl (by decide +kernel) ?_ | refine WC.draw 21 rfl (by decide +kernel) ?_ | refine WC.draw 22 rfl (by decide +kernel) ?_ | refine WC.draw 23 rfl (by decide +kernel) ?_ | refine WC.draw 24 rfl (by decide +kernel) ?_)); (repeat (refine WD.cons rfl (fun c h => by cases h) sq_E16_1 ?_)); refine WD.nil ?_)); (try (refine st ?_; (repeat intro zzc))))); (repeat revert zzc); exact zzn.out) : G := h ⟨next⟩
theorem rCompose_any {pa pb : Option Addr} {ca cb : Nat} {a b : List Stp} {fa ta fb tb : Int} (hfa : Fit a) (hfb : Fit b) (hsa : sizesOf a = some (fa, ta)) (hsb : sizesOf b = some (fb, tb)) (w0 : World) (m : Mem) (H : SHeap) (hra : RowR w0 m H 3 pa (a.map Stp.cs)) (hrb : RowR w0 m H 3 pb (b.map Stp.cs)) :
    Does Try.prog 18 #[.slice pa a.length ca, .slice pb b.length cb] w0 m H (ListP 84 (comP a b) .i64 m H) := by
  refine Does.of_body (args := [.slice pa a.length ca, .slice pb b.length cb]) Try.func18 rfl Try.ntmps18 rfl ?_
  have e2 : szR (sizesOf a) = .tuple #[.int .i64 fa, .int .i64 ta, .bool true] := by rw [hsa]; rfl
  have e3 : szR (sizesOf b) = .tuple #[.int .i64 fb, .int .i64 tb, .bool true] := by rw [hsb]; rfl
  obtain ⟨hoka, hal, hpla, hfra, htoa, _, _, _, _⟩ := sized hsa
  obtain ⟨hokb, hbl, hplb, hfrb, htob, _, _, _, _⟩ := sized hsb
  (try (refine st_E16_1 ?_; intros))
  rw [e2]
  (try (refine st_E16_1 ?_; intros))
  rw [e3]
  by_cases hmf : ta = fb
  · (try (refine st_E16_1 ?_; intros))
    refine w_callF Try.func43 ?_ (hs := say_any hfa hsa _ _ _ hra)
    rintro _ m _ ⟨rfl, q2, q4, q6, rfl, rfl⟩
    (try (refine st_E16_1 ?_; intros))
    refine w_callF Try.func43 ?_ (hs := say_any hfb hsb _ _ _ hrb.more.more.more)
    rintro _ m _ ⟨rfl, z2, z4, z6, rfl, rfl⟩
    have hda := drops_from a hoka
    have hdb := drops_from b hokb
    obtain ⟨la1, la2⟩ := said_len (gapsOf a)
    obtain ⟨lb1, lb2⟩ := said_len (gapsOf b)
    have hma := mids_all a
    obtain ⟨na1, na2⟩ := nf_sizes a hoka
    have hba := bytes_nf (gapsOf a)
    have hpb : posOf (gapsOf b) = (putsOf (gapsOf b)).zip ((dropsOf (gapsOf b)).zip (bytesOf (gapsOf b))) := rfl
    have hlb : lastOf (gapsOf b) = (putsOf (gapsOf b)).getD (dropsOf (gapsOf b)).length [] := rfl
    have hcom : comP a b = match cmpT Bld.start (nfOf (gapsOf a)) (sdA (posOf (gapsOf b)) (lastOf (gapsOf b))) with
        | none => .inl 270
        | some l => .inr l := by
      simp only [comP, hsa, hsb]
      rw [if_neg (fun h => h hmf), sd_atoms]
      cases cmpT Bld.start (nfOf (gapsOf a)) (nfOf (gapsOf b)) <;> rfl
    generalize putsOf (gapsOf a) = PX at *
    generalize dropsOf (gapsOf a) = DX at *
    generalize bytesOf (gapsOf a) = BX at *
    generalize putsOf (gapsOf b) = PY at *
    generalize dropsOf (gapsOf b) = DY at *
    generalize bytesOf (gapsOf b) = BY at *
    have hPl : (PX.map sV).length = PX.length := by simp
    have hDl : (DX.map oV).length = DX.length := by simp
    have hBl : (BX.map uV).length = BX.length := by simp
    have hPl2 : (PY.map sV).length = PY.length := by simp
    have hDl2 : (DY.map oV).length = DY.length := by simp
    have hBl2 : (BY.map uV).length = BY.length := by simp
    have hMl : (midsTo PX DX PX.length).length = toA (atomsOf a) := by rw [hma, midsA_len, na2]
    have hMle : ∀ p, p ≤ PX.length → (midsTo PX DX p).length ≤ toA (atomsOf a) := by
      intro p hp
      rw [← hMl]
      obtain ⟨d, hd⟩ : ∃ d, PX.length = p + d := ⟨PX.length - p, by omega⟩
      rw [hd]
      clear hd hp
      induction d with
      | zero => exact Nat.le_refl _
      | succ d ih => rw [← Nat.add_assoc]; refine Nat.le_trans ih ?_; rw [midsTo_succ]; simp only [List.length_append]; omega
    (refine st_E16_1 ?_; intros; rename_i x y)
    refine WC.newRow (T := 107) (sz := 2) ?_
    refine WC.loopH [(15, .int .i64 ((0) : Int)), (14, .slice (none) (0) (0)), (13, .pointer (some ⟨y, 0, none⟩)), (12, .pointer (some ⟨x, 0, none⟩))] ?_ ?_ (fun j r ds m' H' => ∃ (p : Nat) (cl : Option Addr) (pl : Nat) (n : Nat) (M : List (Int × UInt8)), j = PX.length - p ∧ r = [(15, .int .i64 (p : Int)), (14, .slice cl n pl), (13, .pointer (some ⟨y, 0, none⟩)), (12, .pointer (some ⟨x, 0, none⟩))] ∧ ds = [] ∧ m = m' ∧ H' = .row cl pl 107 2 (M.map mV) :: .blk x (.cells [.slice (some ⟨q2, 0, none⟩) PX.length PX.length, .slice (some ⟨q4, 0, none⟩) DX.length DX.length, .slice (some ⟨q6, 0, none⟩) BX.length BX.length].toArray 92 (0, 0)) :: .row (some ⟨q2, 0, none⟩) PX.length 9 1 (PX.map sV) :: .row (some ⟨q4, 0, none⟩) DX.length 4 1 (DX.map oV) :: .row (some ⟨q6, 0, none⟩) BX.length 5 1 (BX.map uV) :: .blk y (.cells [.slice (some ⟨z2, 0, none⟩) PY.length PY.length, .slice (some ⟨z4, 0, none⟩) DY.length DY.length, .slice (some ⟨z6, 0, none⟩) BY.length BY.length].toArray 92 (0, 0)) :: .row (some ⟨z2, 0, none⟩) PY.length 9 1 (PY.map sV) :: .row (some ⟨z4, 0, none⟩) DY.length 4 1 (DY.map oV) :: .row (some ⟨z6, 0, none⟩) BY.length 5 1 (BY.map uV) :: H ∧ (p ≤ PX.length) ∧ (M = midsTo PX DX p) ∧ (n = M.length)) (PX.length - (0)) ⟨0, none, 0, 0, ([] : List (Int × UInt8)), rfl, rfl, rfl, rfl, rfl, by omega, (midsTo_zero PX DX).symm, rfl⟩ ?_
    · (repeat (first | exact Env.Sub.nil | refine Env.Sub.cons rfl ?_))
    · exact (fun w h => Pick.sat (by iterate 60 (try (first | exact Pick.all | (apply Pick.take; (· (repeat (first | exact Out.here | apply Out.there)))) | apply Pick.drop))) h)
    rintro j r ds m' H' ⟨p, cl, pl, n, M, rfl, rfl, rfl, rfl, rfl, hp, hM, hn⟩
    · subst hn
      subst hM
      by_cases hlt : p < PX.length
      · have hget : (PX.map sV)[p]? = some [str PX[p]] := by rw [List.getElem?_map, List.getElem?_eq_getElem hlt]; rfl
        have hnx := midsTo_succ PX DX p
        have hnl := hMle (p + 1) (by omega)
        have ePg : PX.getD p [] = PX[p] := by rw [List.getD_eq_getElem?_getD, List.getElem?_eq_getElem hlt]; rfl
        rw [ePg] at hnx
        have hnl2 := congrArg List.length hnx
        simp only [List.length_append, List.length_map] at hnl2
        (try (refine st_E16_1 ?_; intros))
        refine WC.loopH [(16, .int .i64 ((0) : Int)), (15, .int .i64 (p : Int)), (14, .slice (cl) ((midsTo PX DX p).length) (pl)), (13, .pointer (some ⟨y, 0, none⟩)), (12, .pointer (some ⟨x, 0, none⟩))] ?_ ?_ (fun j r ds m' H' => ∃ (k : Nat) (cl : Option Addr) (pl : Nat) (n : Nat) (M : List (Int × UInt8)), j = PX[p].length - k ∧ r = [(16, .int .i64 (k : Int)), (15, .int .i64 (p : Int)), (14, .slice cl n pl), (13, .pointer (some ⟨y, 0, none⟩)), (12, .pointer (some ⟨x, 0, none⟩))] ∧ ds = [] ∧ m = m' ∧ H' = .row cl pl 107 2 (M.map mV) :: .blk x (.cells [.slice (some ⟨q2, 0, none⟩) PX.length PX.length, .slice (some ⟨q4, 0, none⟩) DX.length DX.length, .slice (some ⟨q6, 0, none⟩) BX.length BX.length].toArray 92 (0, 0)) :: .row (some ⟨q2, 0, none⟩) PX.length 9 1 (PX.map sV) :: .row (some ⟨q4, 0, none⟩) DX.length 4 1 (DX.map oV) :: .row (some ⟨q6, 0, none⟩) BX.length 5 1 (BX.map uV) :: .blk y (.cells [.slice (some ⟨z2, 0, none⟩) PY.length PY.length, .slice (some ⟨z4, 0, none⟩) DY.length DY.length, .slice (some ⟨z6, 0, none⟩) BY.length BY.length].toArray 92 (0, 0)) :: .row (some ⟨z2, 0, none⟩) PY.length 9 1 (PY.map sV) :: .row (some ⟨z4, 0, none⟩) DY.length 4 1 (DY.map oV) :: .row (some ⟨z6, 0, none⟩) BY.length 5 1 (BY.map uV) :: H ∧ (k ≤ PX[p].length) ∧ (M = midsTo PX DX p ++ (PX[p].take k).map fun c => (-1, c)) ∧ (n = M.length)) (PX[p].length - (0)) ⟨0, cl, pl, (midsTo PX DX p).length, midsTo PX DX p, rfl, rfl, rfl, rfl, rfl, by omega, by simp, rfl⟩ ?_
        · (repeat (first | exact Env.Sub.nil | refine Env.Sub.cons rfl ?_))
        · exact (fun w h => Pick.sat (by iterate 60 (try (first | exact Pick.all | (apply Pick.take; (· (repeat (first | exact Out.here | apply Out.there)))) | apply Pick.drop))) h)
        rintro j r ds m' H' ⟨k, cl, pl, n, M, rfl, rfl, rfl, rfl, rfl, hk, hM, hn⟩
        subst hn
        have hml : (M.map mV).length = M.length := by simp
        have hMl3 : M.length = (midsTo PX DX p).length + k := by rw [hM]; simp; omega
        by_cases hk2 : k < PX[p].length
        · have hg := gb_at hk2
          (refine st_E16_1 ?_; intros; rename_i c2 p2)
          have em : M.map mV ++ [[.int .i64 (-1), .int .u8 (gb PX[p] k : Int)]] = (M ++ [(-1, PX[p][k])]).map mV := by rw [List.map_append, hg]; rfl
          rw [em, hml]
          refine WQ.next (PX[p].length - (k + 1)) ⟨k + 1, c2, p2, M.length + 1, M ++ [(-1, PX[p][k])], rfl, rfl, rfl, rfl, rfl, ?_, ?_, ?_⟩ (by omega) (by (repeat (first | exact Env.Sub.nil | refine Env.Sub.cons rfl ?_))) (fun w h => Pick.sat (by iterate 60 (try (first | exact Pick.all | (apply Pick.take; (· (repeat (first | exact Out.here | apply Out.there)))) | apply Pick.drop))) h)
          · omega
          · rw [hM, List.take_succ_eq_append_getElem hk2, List.map_append, List.append_assoc]; rfl
          · simp
        · obtain rfl : k = PX[p].length := by omega
          rw [List.take_length] at hM
          by_cases hpd : p < DX.length
          · have hgd : (DX.map oV)[p]? = some [.bool DX[p]] := by rw [List.getElem?_map, List.getElem?_eq_getElem hpd]; rfl
            have eDg : DX.getD p true = DX[p] := by rw [List.getD_eq_getElem?_getD, List.getElem?_eq_getElem hpd]; rfl
            rw [eDg] at hnx hnl2
            cases hdp : DX[p] with
            | true =>
              rw [hdp] at hgd hnx
              (try (refine st_E16_1 ?_; intros))
              refine WQ.next (PX.length - (p + 1)) ⟨p + 1, cl, pl, M.length, M, rfl, rfl, rfl, rfl, rfl, ?_, ?_, ?_⟩ (by omega) (by (repeat (first | exact Env.Sub.nil | refine Env.Sub.cons rfl ?_))) (fun w h => Pick.sat (by iterate 60 (try (first | exact Pick.all | (apply Pick.take; (· (repeat (first | exact Out.here | apply Out.there)))) | apply Pick.drop))) h)
              · omega
              · rw [hnx, hM]; simp
              · rfl
            | false =>
              rw [hdp] at hgd hnx hnl2
              simp only [if_true, List.length_cons, List.length_nil] at hnl2
              (refine st_E16_1 ?_; intros; rename_i c2 p2)
              have em : M.map mV ++ [[.int .i64 (p : Int), .int .u8 0]] = (M ++ [((p : Int), 0)]).map mV := by rw [List.map_append]; rfl
              rw [em, hml]
              refine WQ.next (PX.length - (p + 1)) ⟨p + 1, c2, p2, M.length + 1, M ++ [((p : Int), 0)], rfl, rfl, rfl, rfl, rfl, ?_, ?_, ?_⟩ (by omega) (by (repeat (first | exact Env.Sub.nil | refine Env.Sub.cons rfl ?_))) (fun w h => Pick.sat (by iterate 60 (try (first | exact Pick.all | (apply Pick.take; (· (repeat (first | exact Out.here | apply Out.there)))) | apply Pick.drop))) h)
              · omega
              · rw [hnx, hM]; simp
              · simp
          · have eDg : DX.getD p true = true := by rw [List.getD_eq_getElem?_getD, List.getElem?_eq_none (by omega)]; rfl
            rw [eDg] at hnx
            (try (refine st_E16_1 ?_; intros))
            refine WQ.next (PX.length - (p + 1)) ⟨p + 1, cl, pl, M.length, M, rfl, rfl, rfl, rfl, rfl, ?_, ?_, ?_⟩ (by omega) (by (repeat (first | exact Env.Sub.nil | refine Env.Sub.cons rfl ?_))) (fun w h => Pick.sat (by iterate 60 (try (first | exact Pick.all | (apply Pick.take; (· (repeat (first | exact Out.here | apply Out.there)))) | apply Pick.drop))) h)
            · omega
            · rw [hnx, hM]; simp
            · rfl
      · obtain rfl : p = PX.length := by omega
        rw [hma] at hMl ⊢
        have hla2 : (nfOf (gapsOf a)).length ≤ 200000 := by have := atoms_le (nfOf (gapsOf a)); omega
        have hlb2 : (sdA (posOf (gapsOf b)) (lastOf (gapsOf b))).length ≤ 200000 := by
          rw [sd_atoms]; have := atoms_le (nfOf (gapsOf b)); obtain ⟨nb1, nb2⟩ := nf_sizes b hokb; omega
        clear hMle hma
        generalize hAA : nfOf (gapsOf a) = A at *
        generalize hMM : midsA 0 A = M at *
        generalize posOf (gapsOf b) = YP at *
        generalize lastOf (gapsOf b) = YL at *
        have hml : (M.map mV).length = M.length := by simp
        have hMA : M.length = toA A := by omega
        have hMD : M.length = DY.length := by omega
        have hYl : YP.length = DY.length := by rw [hpb]; simp only [List.length_zip]; omega
        (refine st_E16_1 ?_; intros; rename_i bm)
        refine WC.newRow (T := 84) (sz := 3) ?_
        refine WC.loopH [(19, .int .i64 ((0) : Int)), (18, .int .i64 ((0) : Int)), (17, .pointer (some ⟨bm, 0, none⟩)), (14, .slice cl M.length pl), (13, .pointer (some ⟨y, 0, none⟩)), (12, .pointer (some ⟨x, 0, none⟩))] ?_ ?_ (fun j r ds m' H' => ∃ (q : Nat) (next : Nat) (c : Option Addr) (cp : Nat) (B : Bld) (k : Nat) (pre : List Atm) (xs : List Atm), j = M.length + 1 - q ∧ r = [(19, .int .i64 (q : Int)), (18, .int .i64 (next : Int)), (17, .pointer (some ⟨bm, 0, none⟩)), (14, .slice cl M.length pl), (13, .pointer (some ⟨y, 0, none⟩)), (12, .pointer (some ⟨x, 0, none⟩))] ∧ ds = [] ∧ m = m' ∧ H' = .blk bm (.cells [.slice c B.l.length cp, str B.p, str B.d].toArray 109 (0, 0)) :: .row c cp 84 3 (B.l.map Stp.cs) :: .row cl pl 107 2 (M.map mV) :: .blk x (.cells [.slice (some ⟨q2, 0, none⟩) PX.length PX.length, .slice (some ⟨q4, 0, none⟩) DX.length DX.length, .slice (some ⟨q6, 0, none⟩) BX.length BX.length].toArray 92 (0, 0)) :: .row (some ⟨q2, 0, none⟩) PX.length 9 1 (PX.map sV) :: .row (some ⟨q4, 0, none⟩) DX.length 4 1 (DX.map oV) :: .row (some ⟨q6, 0, none⟩) BX.length 5 1 (BX.map uV) :: .blk y (.cells [.slice (some ⟨z2, 0, none⟩) PY.length PY.length, .slice (some ⟨z4, 0, none⟩) DY.length DY.length, .slice (some ⟨z6, 0, none⟩) BY.length BY.length].toArray 92 (0, 0)) :: .row (some ⟨z2, 0, none⟩) PY.length 9 1 (PY.map sV) :: .row (some ⟨z4, 0, none⟩) DY.length 4 1 (DY.map oV) :: .row (some ⟨z6, 0, none⟩) BY.length 5 1 (BY.map uV) :: H ∧ (A = pre ++ xs) ∧ (q = toA pre) ∧ (next ≤ fromA pre) ∧ (BFit k B) ∧ (k + 4 * ((sdA (YP.drop q) YL).length + xs.length + (fromA pre - next)) ≤ 10000000) ∧ (cmpT ⟨B.l, B.p, B.d ++ (BX.take (fromA pre)).drop next⟩ xs (sdA (YP.drop q) YL) = cmpT Bld.start A (sdA YP YL))) (M.length + 1 - (0)) ⟨0, 0, none, 0, Bld.start, 0, [], A, rfl, rfl, rfl, rfl, rfl, rfl, rfl, Nat.le_refl _, BFit.start, by rw [List.drop_zero]; simp only [fromA]; omega, by simp [fromA, Bld.start]⟩ ?_
        · (repeat (first | exact Env.Sub.nil | refine Env.Sub.cons rfl ?_))
        · exact (fun w h => Pick.sat (by iterate 60 (try (first | exact Pick.all | (apply Pick.take; (· (repeat (first | exact Out.here | apply Out.there)))) | apply Pick.drop))) h)
        rintro j r ds m' H' ⟨q, next, c, cp, B, k, pre, xs, rfl, rfl, rfl, rfl, rfl, hA, hq, hnx, hB, hk, ht⟩
        have hAs : toA A = toA pre + toA xs := by rw [hA, toA_append]
        have hAf : fromA A = fromA pre + fromA xs := by rw [hA, fromA_append]
        have hqp : q < PY.length := by omega
        have hgp : (PY.map sV)[q]? = some [str PY[q]] := by rw [List.getElem?_map, List.getElem?_eq_getElem hqp]; rfl
        have hBp := hB.p
        have hBd := hB.d
        have hBl3 := hB.len
        by_cases hlt : q < M.length
        · have hqd : q < DY.length := by omega
          have hqb : q < BY.length := by omega
          have hgd : (DY.map oV)[q]? = some [.bool DY[q]] := by rw [List.getElem?_map, List.getElem?_eq_getElem hqd]; rfl
          have hgb : (BY.map uV)[q]? = some [.int .u8 (BY[q].toNat : Int)] := by rw [List.getElem?_map, List.getElem?_eq_getElem hqb]; rfl
          have eY : YP.drop q = (PY[q], DY[q], BY[q]) :: YP.drop (q + 1) := by
            rw [List.drop_eq_getElem_cons (by omega)]
            congr 1
            subst hpb
            simp
          refine WC.rowSome (a := cl) (es := M.map mV) (by (repeat (first | exact List.Mem.head _ | apply List.Mem.tail))) (by omega) ?_
          rintro cl0 rfl
          rw [eY, sdA_cons] at hk ht
          rw [cmpT_p] at ht
          dsimp only at hk ht
          simp only [List.length_append, List.length_map, List.length_cons] at hk
          rcases split_mid xs with ⟨ds, rfl⟩ | ⟨ds, rest, rfl⟩ | ⟨ds, d, rest, rfl⟩
          · rw [toA_d] at hAs; omega
          · have hgm : (M.map mV)[q]? = some [.int .i64 ((fromA pre + ds.length : Nat) : Int), .int .u8 0] := by
              rw [List.getElem?_map, ← hMM, hq, mids_atk hA]; rfl
            rw [cmpT_d _ _ _ _ (by cases DY[q] <;> rfl)] at ht
            dsimp only at ht
            have hpm := pend_more (rest := .k :: rest) hA hnx
            rw [hba] at hpm
            rw [List.append_assoc, ← hpm] at ht
            have hpre : fromA (pre ++ ds.map .d ++ [.k]) = fromA pre + ds.length + 1 := by rw [fromA_append, fromA_append, fromA_d]; rfl
            have htopre : toA (pre ++ ds.map .d ++ [.k]) = toA pre + 1 := by rw [toA_append, toA_append, toA_d]; rfl
            simp only [List.length_append, List.length_map, List.length_cons] at hk
            rw [fromA_append, fromA_d, show fromA (.k :: rest) = fromA rest + 1 from rfl] at hAf
            have hBXl : BX.length = fromA A := by omega
            generalize hAt : fromA pre + ds.length = At at *
            have hpq : (B.p ++ PY[q]).length ≤ 100000000 := by rw [List.length_append]; omega
            (try (refine st_E16_1 ?_; intros))
            refine WC.loopH [(18, .int .i64 ((next) : Int)), (19, .int .i64 (q : Int)), (17, .pointer (some ⟨bm, 0, none⟩)), (14, .slice (some cl0) M.length pl), (13, .pointer (some ⟨y, 0, none⟩)), (12, .pointer (some ⟨x, 0, none⟩))] ?_ ?_ (fun j r ds m' H' => ∃ (nx : Nat) (D : List UInt8), j = At - nx ∧ r = [(18, .int .i64 (nx : Int)), (19, .int .i64 (q : Int)), (17, .pointer (some ⟨bm, 0, none⟩)), (14, .slice (some cl0) M.length pl), (13, .pointer (some ⟨y, 0, none⟩)), (12, .pointer (some ⟨x, 0, none⟩))] ∧ ds = [] ∧ m = m' ∧ H' = .blk bm (.cells [.slice c B.l.length cp, str (B.p ++ PY[q]), str D].toArray 109 (0, 0)) :: .row c cp 84 3 (B.l.map Stp.cs) :: .row (some cl0) pl 107 2 (M.map mV) :: .blk x (.cells [.slice (some ⟨q2, 0, none⟩) PX.length PX.length, .slice (some ⟨q4, 0, none⟩) DX.length DX.length, .slice (some ⟨q6, 0, none⟩) BX.length BX.length].toArray 92 (0, 0)) :: .row (some ⟨q2, 0, none⟩) PX.length 9 1 (PX.map sV) :: .row (some ⟨q4, 0, none⟩) DX.length 4 1 (DX.map oV) :: .row (some ⟨q6, 0, none⟩) BX.length 5 1 (BX.map uV) :: .blk y (.cells [.slice (some ⟨z2, 0, none⟩) PY.length PY.length, .slice (some ⟨z4, 0, none⟩) DY.length DY.length, .slice (some ⟨z6, 0, none⟩) BY.length BY.length].toArray 92 (0, 0)) :: .row (some ⟨z2, 0, none⟩) PY.length 9 1 (PY.map sV) :: .row (some ⟨z4, 0, none⟩) DY.length 4 1 (DY.map oV) :: .row (some ⟨z6, 0, none⟩) BY.length 5 1 (BY.map uV) :: H ∧ (next ≤ nx ∧ nx ≤ At) ∧ (D = B.d ++ (BX.take nx).drop next)) (At - (next)) ⟨next, B.d, rfl, rfl, rfl, rfl, rfl, by omega, by rw [List.drop_take, Nat.sub_self, List.take_zero, List.append_nil]⟩ ?_
            · (repeat (first | exact Env.Sub.nil | refine Env.Sub.cons rfl ?_))
            · exact (fun w h => Pick.sat (by iterate 60 (try (first | exact Pick.all | (apply Pick.take; (· (repeat (first | exact Out.here | apply Out.there)))) | apply Pick.drop))) h)
            rintro j r ds m' H' ⟨nx, D, rfl, rfl, rfl, rfl, rfl, hj, hD⟩
            have hDl : D.length = B.d.length + (nx - next) := by rw [hD]; simp only [List.length_append, List.length_drop, List.length_take]; omega
            by_cases hjl : nx < At
            · have hnb : nx < BX.length := by omega
              have hgx : (BX.map uV)[nx]? = some [.int .u8 (BX[nx].toNat : Int)] := by rw [List.getElem?_map, List.getElem?_eq_getElem hnb]; rfl
              (try (refine st_E16_1 ?_; intros))
              refine w_callF Try.func49 ?_ (hs := mdrop_any ⟨B.l, B.p ++ PY[q], D⟩ BX[nx] (by simp only; omega) _ _ _)
              rintro v m H1 ⟨rfl, rfl, rfl⟩
              (try (refine st_E16_1 ?_; intros))
              refine WQ.next (At - (nx + 1)) ⟨nx + 1, D ++ [BX[nx]], rfl, rfl, rfl, rfl, rfl, ?_, ?_⟩ (by omega) (by (repeat (first | exact Env.Sub.nil | refine Env.Sub.cons rfl ?_))) (fun w h => Pick.sat (by iterate 60 (try (first | exact Pick.all | (apply Pick.take; (· (repeat (first | exact Out.here | apply Out.there)))) | apply Pick.drop))) h)
              · omega
              · rw [hD, List.take_succ_eq_append_getElem hnb, List.drop_append_of_le_length (by rw [List.length_take]; omega), List.append_assoc]
            · obtain rfl : nx = At := by omega
              have hB1 : BFit (k + PY[q].length + (nx - next)) ⟨B.l, B.p ++ PY[q], D⟩ := ⟨by simp only; omega, fun s hs => by have := hB.k s hs; omega, by simp only [List.length_append]; omega, by simp only; omega⟩
              rw [← hD] at ht
              have hz : (BX.take (nx + 1)).drop (nx + 1) = [] := by rw [List.drop_take, Nat.sub_self, List.take_zero]
              cases hdq : DY[q] with
              | true =>
                rw [hdq] at hgd ht
                simp only [if_true] at ht
                rw [cmpT_kd] at ht
                dsimp only at ht
                (try (refine st_E16_1 ?_; intros))
                refine w_callF Try.func49 ?_ (hs := mdrop_any ⟨B.l, B.p ++ PY[q], D⟩ BY[q] (by simp only; omega) _ _ _)
                rintro v m H1 ⟨rfl, rfl, rfl⟩
                (try (refine st_E16_1 ?_; intros))
                refine WQ.next (M.length + 1 - (q + 1)) ⟨q + 1, nx + 1, c, cp, ⟨B.l, B.p ++ PY[q], D ++ [BY[q]]⟩, k + PY[q].length + (nx - next) + 1, pre ++ ds.map .d ++ [.k], rest, rfl, rfl, rfl, rfl, rfl, ?_, ?_, ?_, ?_, ?_, ?_⟩ (by omega) (by (repeat (first | exact Env.Sub.nil | refine Env.Sub.cons rfl ?_))) (fun w h => Pick.sat (by iterate 60 (try (first | exact Pick.all | (apply Pick.take; (· (repeat (first | exact Out.here | apply Out.there)))) | apply Pick.drop))) h)
                · rw [hA]; simp
                · rw [htopre, ← hq]
                · omega
                · exact ⟨by simp only; omega, fun s hs => by have := hB.k s hs; omega, by simp only [List.length_append]; omega, by simp only [List.length_append, List.length_singleton]; omega⟩
                · omega
                · rw [hpre, hz, List.append_nil]; exact ht
              | false =>
                rw [hdq] at hgd ht
                simp only [Bool.false_eq_true, if_false] at ht
                rw [cmpT_kk] at ht
                (try (refine st_E16_1 ?_; intros))
                refine w_callF Try.func50 ?_ (hs := mkeep_any ⟨B.l, B.p ++ PY[q], D⟩ 1 (by omega) (hB1.mono (by omega)) _ _ _)
                rintro v m H1 ⟨rfl, rfl, c2, cp2, rfl⟩
                (try (refine st_E16_1 ?_; intros))
                refine WQ.next (M.length + 1 - (q + 1)) ⟨q + 1, nx + 1, c2, cp2, (⟨B.l, B.p ++ PY[q], D⟩ : Bld).keep 1, k + PY[q].length + (nx - next) + 4, pre ++ ds.map .d ++ [.k], rest, rfl, rfl, rfl, rfl, rfl, ?_, ?_, ?_, ?_, ?_, ?_⟩ (by omega) (by (repeat (first | exact Env.Sub.nil | refine Env.Sub.cons rfl ?_))) (fun w h => Pick.sat (by iterate 60 (try (first | exact Pick.all | (apply Pick.take; (· (repeat (first | exact Out.here | apply Out.there)))) | apply Pick.drop))) h)
                · rw [hA]; simp
                · rw [htopre, ← hq]
                · omega
                · exact (hB1.keep (n := 1)).mono (by omega)
                · omega
                · rw [hpre, hz, List.append_nil]; exact ht
          · have hgm : (M.map mV)[q]? = some [.int .i64 (-1), .int .u8 (d.toNat : Int)] := by
              rw [List.getElem?_map, ← hMM, hq, mids_at hA]; rfl
            rw [cmpT_d _ _ _ _ (by cases DY[q] <;> rfl)] at ht
            dsimp only at ht
            have hpm := pend_more (rest := .p d :: rest) hA hnx
            rw [hba] at hpm
            rw [List.append_assoc, ← hpm] at ht
            have hpre : fromA (pre ++ ds.map .d ++ [.p d]) = fromA pre + ds.length := by rw [fromA_append, fromA_append, fromA_d]; rfl
            have htopre : toA (pre ++ ds.map .d ++ [.p d]) = toA pre + 1 := by rw [toA_append, toA_append, toA_d]; rfl
            simp only [List.length_append, List.length_map, List.length_cons] at hk
            cases hdq : DY[q] with
            | false =>
              rw [hdq] at hgd ht
              simp only [Bool.false_eq_true, if_false] at ht
              rw [cmpT_pk] at ht
              dsimp only at ht
              have hd1 : [d].length = 1 := rfl
              have hpq : (B.p ++ PY[q]).length ≤ 100000000 := by rw [List.length_append]; omega
              (try (refine st_E16_1 ?_; intros))
              refine WC.drawE 11 ([.blk bm (.cells [.slice c B.l.length cp, str (B.p ++ PY[q]), str B.d].toArray 109 (0, 0)), .row (some cl0) pl 107 2 (M.map mV)]) (.row c cp 84 3 (B.l.map Stp.cs) :: .blk x (.cells [.slice (some ⟨q2, 0, none⟩) PX.length PX.length, .slice (some ⟨q4, 0, none⟩) DX.length DX.length, .slice (some ⟨q6, 0, none⟩) BX.length BX.length].toArray 92 (0, 0)) :: .row (some ⟨q2, 0, none⟩) PX.length 9 1 (PX.map sV) :: .row (some ⟨q4, 0, none⟩) DX.length 4 1 (DX.map oV) :: .row (some ⟨q6, 0, none⟩) BX.length 5 1 (BX.map uV) :: .blk y (.cells [.slice (some ⟨z2, 0, none⟩) PY.length PY.length, .slice (some ⟨z4, 0, none⟩) DY.length DY.length, .slice (some ⟨z6, 0, none⟩) BY.length BY.length].toArray 92 (0, 0)) :: .row (some ⟨z2, 0, none⟩) PY.length 9 1 (PY.map sV) :: .row (some ⟨z4, 0, none⟩) DY.length 4 1 (DY.map oV) :: .row (some ⟨z6, 0, none⟩) BY.length 5 1 (BY.map uV) :: H) rfl (by decide +kernel) (fun w h => Pick.sat (by iterate 60 (try (first | exact Pick.all | (apply Pick.take; (· (repeat (first | exact Out.here | apply Out.there)))) | apply Pick.drop))) h) ?_
              ((try (refine WE.calm 0 (by decide +kernel) rfl rfl (by decide +kernel) rfl (fun c h => by cases h) (by intro zm zF zle; exact sq_E16_1) ?_)); (try (refine WE.calm 1 (by decide +kernel) rfl rfl (by decide +kernel) rfl (fun c h => by cases h) (by intro zm zF zle; exact sq_E16_1) ?_)); (try (refine WE.calm 2 (by decide +kernel) rfl rfl (by decide +kernel) rfl (fun c h => by cases h) (by intro zm zF zle; exact sq_E16_1) ?_)); (try (refine WE.calm 3 (by decide +kernel) rfl rfl (by decide +kernel) rfl (fun c h => by cases h) (by intro zm zF zle; exact sq_E16_1) ?_)); (try (refine WE.calm 4 (by decide +kernel) rfl rfl (by decide +kernel) rfl (fun c h => by cases h) (by intro zm zF zle; exact sq_E16_1) ?_)); (try (refine WE.calm 5 (by decide +kernel) rfl rfl (by decide +kernel) rfl (fun c h => by cases h) (by intro zm zF zle; exact sq_E16_1) ?_)); (try (refine WE.calm 6 (by decide +kernel) rfl rfl (by decide +kernel) rfl (fun c h => by cases h) (by intro zm zF zle; exact sq_E16_1) ?_)); (try (refine WE.calm 7 (by decide +kernel) rfl rfl (by decide +kernel) rfl (fun c h => by cases h) (by intro zm zF zle; exact sq_E16_1) ?_)); (try (refine WE.calm 8 (by decide +kernel) rfl rfl (by decide +kernel) rfl (fun c h => by cases h) (by intro zm zF zle; exact sq_E16_1) ?_)); (try (refine WE.calm 9 (by decide +kernel) rfl rfl (by decide +kernel) rfl (fun c h => by cases h) (by intro zm zF zle; exact sq_E16_1) ?_)); (try (refine WE.calm 10 (by decide +kernel) rfl rfl (by decide +kernel) rfl (fun c h => by cases h) (by intro zm zF zle; exact sq_E16_1) ?_)); (try (refine WE.calm 11 (by decide +kernel) rfl rfl (by decide +kernel) rfl (fun c h => by cases h) (by intro zm zF zle; exact sq_E16_1) ?_)); (try (refine WE.calm 12 (by decide +kernel) rfl rfl (by decide +kernel) rfl (fun c h => by cases h) (by intro zm zF zle; exact sq_E16_1) ?_)); (try (refine WE.calm 13 (by decide +kernel) rfl rfl (by decide +kernel) rfl (fun c h => by cases h) (by intro zm zF zle; exact sq_E16_1) ?_)); (try (refine WE.calm 14 (by decide +kernel) rfl rfl (by decide +kernel) rfl (fun c h => by cases h) (by intro zm zF zle; exact sq_E16_1) ?_)); (try (refine WE.calm 15 (by decide +kernel) rfl rfl (by decide +kernel) rfl (fun c h => by cases h) (by intro zm zF zle; exact sq_E16_1) ?_)); (try (refine WE.calm 16 (by decide +kernel) rfl rfl (by decide +kernel) rfl (fun c h => by cases h) (by intro zm zF zle; exact sq_E16_1) ?_)); (try (refine WE.calm 17 (by decide +kernel) rfl rfl (by decide +kernel) rfl (fun c h => by cases h) (by intro zm zF zle; exact sq_E16_1) ?_)); (try (refine WE.calm 18 (by decide +kernel) rfl rfl (by decide +kernel) rfl (fun c h => by cases h) (by intro zm zF zle; exact sq_E16_1) ?_)); (try (refine WE.calm 19 (by decide +kernel) rfl rfl (by decide +kernel) rfl (fun c h => by cases h) (by intro zm zF zle; exact sq_E16_1) ?_)); (try (refine WE.calm 20 (by decide +kernel) rfl rfl (by decide +kernel) rfl (fun c h => by cases h) (by intro zm zF zle; exact sq_E16_1) ?_)); (try (refine WE.calm 21 (by decide +kernel) rfl rfl (by decide +kernel) rfl (fun c h => by cases h) (by intro zm zF zle; exact sq_E16_1) ?_)); (try (refine WE.calm 22 (by decide +kernel) rfl rfl (by decide +kernel) rfl (fun c h => by cases h) (by intro zm zF zle; exact sq_E16_1) ?_)); (try (refine WE.calm 23 (by decide +kernel) rfl rfl (by decide +kernel) rfl (fun c h => by cases h) (by intro zm zF zle; exact sq_E16_1) ?_)); (try (refine WE.calm 24 (by decide +kernel) rfl rfl (by decide +kernel) rfl (fun c h => by cases h) (by intro zm zF zle; exact sq_E16_1) ?_)); (try (refine WE.calm 25 (by decide +kernel) rfl rfl (by decide +kernel) rfl (fun c h => by cases h) (by intro zm zF zle; exact sq_E16_1) ?_)); (try (refine WE.calm 26 (by decide +kernel) rfl rfl (by decide +kernel) rfl (fun c h => by cases h) (by intro zm zF zle; exact sq_E16_1) ?_)); (try (refine WE.calm 27 (by decide +kernel) rfl rfl (by decide +kernel) rfl (fun c h => by cases h) (by intro zm zF zle; exact sq_E16_1) ?_)); (try (refine WE.calm 28 (by decide +kernel) rfl rfl (by decide +kernel) rfl (fun c h => by cases h) (by intro zm zF zle; exact sq_E16_1) ?_)); (try (refine WE.calm 29 (by decide +kernel) rfl rfl (by decide +kernel) rfl (fun c h => by cases h) (by intro zm zF zle; exact sq_E16_1) ?_)); (try (refine WE.calm 30 (by decide +kernel) rfl rfl (by decide +kernel) rfl (fun c h => by cases h) (by intro zm zF zle; exact sq_E16_1) ?_)); (try (refine WE.calm 31 (by decide +kernel) rfl rfl (by decide +kernel) rfl (fun c h => by cases h) (by intro zm zF zle; exact sq_E16_1) ?_)); (try (refine WE.calm 32 (by decide +kernel) rfl rfl (by decide +kernel) rfl (fun c h => by cases h) (by intro zm zF zle; exact sq_E16_1) ?_)); (try (refine WE.calm 33 (by decide +kernel) rfl rfl (by decide +kernel) rfl (fun c h => by cases h) (by intro zm zF zle; exact sq_E16_1) ?_)); (try (refine WE.calm 34 (by decide +kernel) rfl rfl (by decide +kernel) rfl (fun c h => by cases h) (by intro zm zF zle; exact sq_E16_1) ?_)); (try (refine WE.calm 35 (by decide +kernel) rfl rfl (by decide +kernel) rfl (fun c h => by cases h) (by intro zm zF zle; exact sq_E16_1) ?_)); (try (refine WE.calm 36 (by decide +kernel) rfl rfl (by decide +kernel) rfl (fun c h => by cases h) (by intro zm zF zle; exact sq_E16_1) ?_)); (try (refine WE.calm 37 (by decide +kernel) rfl rfl (by decide +kernel) rfl (fun c h => by cases h) (by intro zm zF zle; exact sq_E16_1) ?_)); (try (refine WE.calm 38 (by decide +kernel) rfl rfl (by decide +kernel) rfl (fun c h => by cases h) (by intro zm zF zle; exact sq_E16_1) ?_)); (try (refine WE.calm 39 (by decide +kernel) rfl rfl (by decide +kernel) rfl (fun c h => by cases h) (by intro zm zF zle; exact sq_E16_1) ?_)); (try (refine WE.calm 40 (by decide +kernel) rfl rfl (by decide +kernel) rfl (fun c h => by cases h) (by intro zm zF zle; exact sq_E16_1) ?_)); (try (refine WE.calm 41 (by decide +kernel) rfl rfl (by decide +kernel) rfl (fun c h => by cases h) (by intro zm zF zle; exact sq_E16_1) ?_)))
              refine WE.act1 7 (by decide +kernel) rfl rfl (fun c h => by cases h) ?_
              (refine st_E16_1 ?_; intros; rename_i qz)
              refine WQ.acted (B := [.blk qz (.cells [.int .u8 (d.toNat : Int)].toArray 5 (0, 0))]) (U := .row c cp 84 3 (B.l.map Stp.cs) :: .blk x (.cells [.slice (some ⟨q2, 0, none⟩) PX.length PX.length, .slice (some ⟨q4, 0, none⟩) DX.length DX.length, .slice (some ⟨q6, 0, none⟩) BX.length BX.length].toArray 92 (0, 0)) :: .row (some ⟨q2, 0, none⟩) PX.length 9 1 (PX.map sV) :: .row (some ⟨q4, 0, none⟩) DX.length 4 1 (DX.map oV) :: .row (some ⟨q6, 0, none⟩) BX.length 5 1 (BX.map uV) :: .blk y (.cells [.slice (some ⟨z2, 0, none⟩) PY.length PY.length, .slice (some ⟨z4, 0, none⟩) DY.length DY.length, .slice (some ⟨z6, 0, none⟩) BY.length BY.length].toArray 92 (0, 0)) :: .row (some ⟨z2, 0, none⟩) PY.length 9 1 (PY.map sV) :: .row (some ⟨z4, 0, none⟩) DY.length 4 1 (DY.map oV) :: .row (some ⟨z6, 0, none⟩) BY.length 5 1 (BY.map uV) :: H) rfl (Mem.le.refl _) (fun w h => Pick.sat (by iterate 60 (try (first | exact Pick.all | (apply Pick.take; (· (repeat (first | exact Out.here | apply Out.there)))) | apply Pick.drop))) h) ?_
              (refine WE.calm 8 (by decide +kernel) rfl rfl (by decide +kernel) rfl (fun c h => by cases h) (by intro zm zF zle; refine WL.blkStr (s := [d]) rfl (by (repeat (first | exact List.Mem.head _ | apply List.Mem.tail))) rfl rfl rfl rfl rfl rfl rfl ?_; exact sq_E16_1) ?_)
              (refine WE.calm 9 (by decide +kernel) rfl rfl (by decide +kernel) rfl (fun c h => by cases h) (by intro zm zF zle; exact sq_E16_1) ?_)
              (refine WE.calm 10 (by decide +kernel) rfl rfl (by decide +kernel) rfl (fun c h => by cases h) (by intro zm zF zle; exact sq_E16_1) ?_)
              refine WE.done (by decide +kernel) ?_
              (try (refine st_E16_1 ?_; intros))
              refine WQ.next (M.length + 1 - (q + 1)) ⟨q + 1, next, c, cp, ⟨B.l, B.p ++ PY[q] ++ [d], B.d⟩, k + PY[q].length + 1, pre ++ ds.map .d ++ [.p d], rest, rfl, rfl, rfl, rfl, rfl, ?_, ?_, ?_, ?_, ?_, ?_⟩ (by omega) (by (repeat (first | exact Env.Sub.nil | refine Env.Sub.cons rfl ?_))) (fun w h => Pick.sat (by iterate 60 (try (first | exact Pick.all | (apply Pick.take; (· (repeat (first | exact Out.here | apply Out.there)))) | apply Pick.drop))) h)
              · rw [hA]; simp
              · rw [htopre, ← hq]
              · omega
              · exact ⟨by simp only; omega, fun s hs => by have := hB.k s hs; omega, by simp only [List.length_append, List.length_singleton]; omega, by simp only; omega⟩
              · omega
              · rw [hpre]; exact ht
            | true =>
              rw [hdq] at hgd ht
              simp only [if_true] at ht
              rw [cmpT_pd] at ht
              by_cases hdc : d = BY[q]
              · rw [if_pos hdc] at ht
                have hdc' : (BY[q].toNat : Int) = (d.toNat : Int) := by rw [hdc]
                (try (refine st_E16_1 ?_; intros))
                refine WQ.next (M.length + 1 - (q + 1)) ⟨q + 1, next, c, cp, ⟨B.l, B.p ++ PY[q], B.d⟩, k + PY[q].length, pre ++ ds.map .d ++ [.p d], rest, rfl, rfl, rfl, rfl, rfl, ?_, ?_, ?_, ?_, ?_, ?_⟩ (by omega) (by (repeat (first | exact Env.Sub.nil | refine Env.Sub.cons rfl ?_))) (fun w h => Pick.sat (by iterate 60 (try (first | exact Pick.all | (apply Pick.take; (· (repeat (first | exact Out.here | apply Out.there)))) | apply Pick.drop))) h)
                · rw [hA]; simp
                · rw [htopre, ← hq]
                · omega
                · exact ⟨by simp only; omega, fun s hs => by have := hB.k s hs; omega, by simp only [List.length_append]; omega, by simp only; omega⟩
                · omega
                · rw [hpre]; exact ht
              · rw [if_neg hdc] at ht
                have hdc' : ¬ (BY[q].toNat : Int) = (d.toNat : Int) := fun h => hdc (UInt8.toNat_inj.1 (by omega))
                have e : comP a b = .inl 270 := by rw [hcom, ← ht]
                rw [e]
                (try (refine st_E16_1 ?_; intros))
                exact q_fin0 (H0 := H) ⟨rfl, rfl, rfl⟩ (hd := (fun w h => Pick.sat (by iterate 60 (try (first | exact Pick.all | (apply Pick.take; (· (repeat (first | exact Out.here | apply Out.there)))) | apply Pick.drop))) h))
        · have hqe : q = M.length := by omega
          have eY : YP.drop q = [] := List.drop_eq_nil_of_le (by omega)
          have eL : YL = PY[q] := by
            rw [hlb, List.getD_eq_getElem?_getD, List.getElem?_eq_getElem (by omega), Option.getD_some]
            congr 1; omega
          rw [eY, sdA_nil] at hk ht
          rw [eL] at hk
          simp only [List.length_map] at hk
          have hxs : ∃ ds : List UInt8, xs = ds.map .d := by
            rcases split_mid xs with h | ⟨ds, rest, rfl⟩ | ⟨ds, d, rest, rfl⟩
            · exact h
            · rw [toA_append, show toA (.k :: rest) = toA rest + 1 from rfl] at hAs; omega
            · rw [toA_append, show toA (.p d :: rest) = toA rest + 1 from rfl] at hAs; omega
          obtain ⟨ds, rfl⟩ := hxs
          have ht2 := cmpT_p ⟨B.l, B.p, B.d ++ (BX.take (fromA pre)).drop next⟩ (ds.map .d) YL []
          rw [List.append_nil, ht, cmpT_end] at ht2
          dsimp only at ht2
          rw [fromA_d] at hAf
          have hBXl : BX.length = fromA A := by omega
          have hpm := pend_more (A := A) (ds := ds) (rest := []) (by rw [hA, List.append_nil]) hnx
          rw [hba, ← hAf, List.take_of_length_le (by omega)] at hpm
          rw [List.append_assoc, ← hpm, eL] at ht2
          have hpq : (B.p ++ PY[q]).length ≤ 100000000 := by rw [List.length_append]; omega
          have hcomE : comP a b = .inr (⟨B.l, B.p ++ PY[q], B.d ++ BX.drop next⟩ : Bld).close.l := by rw [hcom, eL, ht2]
          rw [hcomE]
          (try (refine st_E16_1 ?_; intros))
          refine WC.loopH [(18, .int .i64 ((next) : Int)), (17, .pointer (some ⟨bm, 0, none⟩)), (12, .pointer (some ⟨x, 0, none⟩))] ?_ ?_ (fun j r ds m' H' => ∃ (nx : Nat) (D : List UInt8), j = DX.length - nx ∧ r = [(18, .int .i64 (nx : Int)), (17, .pointer (some ⟨bm, 0, none⟩)), (12, .pointer (some ⟨x, 0, none⟩))] ∧ ds = [] ∧ m = m' ∧ H' = .blk bm (.cells [.slice c B.l.length cp, str (B.p ++ PY[q]), str D].toArray 109 (0, 0)) :: .row c cp 84 3 (B.l.map Stp.cs) :: .blk x (.cells [.slice (some ⟨q2, 0, none⟩) PX.length PX.length, .slice (some ⟨q4, 0, none⟩) DX.length DX.length, .slice (some ⟨q6, 0, none⟩) BX.length BX.length].toArray 92 (0, 0)) :: .row (some ⟨q2, 0, none⟩) PX.length 9 1 (PX.map sV) :: .row (some ⟨q4, 0, none⟩) DX.length 4 1 (DX.map oV) :: .row (some ⟨q6, 0, none⟩) BX.length 5 1 (BX.map uV) :: H ∧ (next ≤ nx ∧ nx ≤ DX.length) ∧ (D = B.d ++ (BX.take nx).drop next)) (DX.length - (next)) ⟨next, B.d, rfl, rfl, rfl, rfl, rfl, by omega, by rw [List.drop_take, Nat.sub_self, List.take_zero, List.append_nil]⟩ ?_
          · (repeat (first | exact Env.Sub.nil | refine Env.Sub.cons rfl ?_))
          · exact (fun w h => Pick.sat (by iterate 60 (try (first | exact Pick.all | (apply Pick.take; (· (repeat (first | exact Out.here | apply Out.there)))) | apply Pick.drop))) h)
          rintro j r ds m' H' ⟨nx, D, rfl, rfl, rfl, rfl, rfl, hj, hD⟩
          have hDl : D.length = B.d.length + (nx - next) := by rw [hD]; simp only [List.length_append, List.length_drop, List.length_take]; omega
          by_cases hjl : nx < DX.length
          · have hnb : nx < BX.length := by omega
            have hgx : (BX.map uV)[nx]? = some [.int .u8 (BX[nx].toNat : Int)] := by rw [List.getElem?_map, List.getElem?_eq_getElem hnb]; rfl
            (try (refine st_E16_1 ?_; intros))
            refine w_callF Try.func49 ?_ (hs := mdrop_any ⟨B.l, B.p ++ PY[q], D⟩ BX[nx] (by simp only; omega) _ _ _)
            rintro v m H1 ⟨rfl, rfl, rfl⟩
            (try (refine st_E16_1 ?_; intros))
            refine WQ.next (DX.length - (nx + 1)) ⟨nx + 1, D ++ [BX[nx]], rfl, rfl, rfl, rfl, rfl, ?_, ?_⟩ (by omega) (by (repeat (first | exact Env.Sub.nil | refine Env.Sub.cons rfl ?_))) (fun w h => Pick.sat (by iterate 60 (try (first | exact Pick.all | (apply Pick.take; (· (repeat (first | exact Out.here | apply Out.there)))) | apply Pick.drop))) h)
            · omega
            · rw [hD, List.take_succ_eq_append_getElem hnb, List.drop_append_of_le_length (by rw [List.length_take]; omega), List.append_assoc]
          · obtain rfl : nx = DX.length := by omega
            rw [List.take_of_length_le (by omega)] at hD
            rw [← hD]
            (try (refine st_E16_1 ?_; intros))
            refine WL.heap (H' := .blk bm (.cells [.slice c B.l.length cp, str (B.p ++ PY[q]), str D].toArray 109 (0, 0)) :: .row c cp 84 3 (B.l.map Stp.cs) :: H) (fun w h => Pick.sat (by iterate 60 (try (first | exact Pick.all | (apply Pick.take; (· (repeat (first | exact Out.here | apply Out.there)))) | apply Pick.drop))) h) ?_
            refine w_callF Try.func51 ?_ (hs := end_any ⟨B.l, B.p ++ PY[q], D⟩ (by simp only; omega) _ _ _)
            rintro v m H1 ⟨rfl, rfl, c2, cp2, rfl⟩
            (try (refine st_E16_1 ?_; intros))
            exact q_fin0 (H0 := .row c2 cp2 84 3 ((⟨B.l, B.p ++ PY[q], D⟩ : Bld).close.l.map Stp.cs) :: H) ⟨rfl, c2, cp2, rfl, rfl⟩ (hd := (fun w h => Pick.sat (by iterate 60 (try (first | exact Pick.all | (apply Pick.take; (· (repeat (first | exact Out.here | apply Out.there)))) | apply Pick.drop))) h))
  · have e : comP a b = .inl 5 := by simp only [comP, hsa, hsb]; rw [if_pos hmf]
    rw [e]
    (try (refine st_E16_1 ?_; intros))
    exact q_fin0 (H0 := H) ⟨rfl, rfl, rfl⟩ (hd := (fun w h => Pick.sat (by iterate 60 (try (first | exact Pick.all | (apply Pick.take; (· (repeat (first | exact Out.here | apply Out.there)))) | apply Pick.drop))) h))
end Go.Proofs.Ytelgegefmjlimaa

/-
  The walks of package edit, tenth part: what a change makes of a text; the law's example. No condition.
-/
namespace Go.Eng
open Go Go.RowKit
theorem RowR.blk {w0 : World} {m : Mem} {H : SHeap} {b sz : Nat} {T : TypeId} {fz : Nat × Nat} {es : List (List Value)} {L : List Value} (hm : Item.blk b (.cells L.toArray T fz) ∈ H) (h1 : ∀ e ∈ es, e.length = sz) (hL : es.flatten = L) : RowR w0 m H sz (.some ⟨b, 0, .none⟩) es := by
  subst hL
  intro w hs
  refine ⟨h1, fun j v hj => ?_⟩
  rw [add_none]
  exact Cell.blk hm (by simpa using hj) w hs
def bV (b : UInt8) : List Value := [.int .u8 (b.toNat : Int)]
def applyV (s : List UInt8) (l : List Stp) : Value := match sizesOf l with
  | none => .tuple #[str [], .int .i64 2]
  | some (f, _) => if f ≠ s.length then .tuple #[str [], .int .i64 5] else match applyA s (atomsOf l) with
    | none => .tuple #[str [], .int .i64 270]
    | some o => .tuple #[str o, .int .i64 0]
end Go.Eng
namespace Go.Proofs.Ytelgegefmjlimaa
open Go Go.Eng
set_option maxRecDepth 100000
set_option maxHeartbeats 4000000
set_option linter.all false
attribute [local irreducible] WL WC WQ QFun QLoop Does Q1 QRound QAssign Go.Addr.add
attribute [local irreducible] applyA sizesF sizesOf
theorem sq_E10_1 {G : Prop} (h : G := by (repeat (first | (refine sp ?_; (repeat intro zzc)) | (refine iF 40 rfl ?_; refine w_callG Try.func40 ?_ (hs := sizes_any (by assumption) _ _ _ (by assumption))))); exact WQ.q1 rfl) : G := h
theorem st_E10_1 {G G' : Prop} (next : G') (h : Bx G' → G := by intro zzn; (first | ((refine st ?_; (repeat intro zzc)); (try ((first | (refine iF 40 rfl ?_; refine w_callG Try.func40 ?_ (hs := sizes_any (by assumption) _ _ _ (by assumption))) | ((refine iDraw ?_; (first | refine WC.drawAll rfl (by decide +kernel) ?_ | refine WC.draw 1 rfl (by decide +kernel) ?_ | refine WC.draw 2 rfl (by decide +kernel) ?_ | refine WC.draw 3 rfl (by decide +kernel) ?_ | refine WC.draw 4 rfl (by decide +kernel) ?_ | refine WC.draw 5 rfl (by decide +kernel) ?_ | refine WC.draw 6 rfl (by decide +kernel) ?_ | refine WC.draw 7 rfl (by decide +kernel) ?_ | refine WC.draw 8 rfl (by decide +kernel) ?_ | refine WC.draw 9 rfl (by decide +kernel) ?_ | refine WC.draw 10 rfl (by decide +kernel) ?_ | refine WC.draw 11 rfl (by decide +kernel) ?_ | refine WC.draw 12 rfl (by decide +kernel) ?_ | refine WC.draw 13 rfl (by decide +kernel) ?_ | refine WC.draw 14 rfl (by decide +kernel) ?_ | refine WC.draw 15 rfl (by decide +kernel) ?_ | refine WC.draw 16 rfl (by decide +kernel) ?_ | refine WC.draw 17 rfl (by decide +kernel) ?_ | refine WC.draw 18 rfl (by decide +kernel) ?_ | refine WC.draw 19 rfl (by decide +kernel) ?_ | refine WC.draw 20 rfl (by decide +kernel) ?_ | refine WC.draw 21 rfl (by decide +kernel) ?_ | refine WC.draw 22 rfl (by decide +kernel) ?_ | refine WC.draw 23 rfl (by decide +kernel) ?_ | refine WC.draw 24 rfl (by decide +kernel) ?_)); (repeat (refine WD.cons rfl (fun c h => by cases h) sq_E10_1 ?_)); refine WD.nil ?_)); (try (refine st ?_; (repeat intro zzc)))))) | ((first | (refine iF 40 rfl ?_; refine w_callG Try.func40 ?_ (hs := sizes_any (by assumption) _ _ _ (by assumption))) | ((refine iDraw ?_; (first | refine WC.drawAll rfl (by decide +kernel) ?_ | refine WC.draw 1 rfl (by decide +kernel) ?_ | refine WC.draw 2 rfl (by decide +kernel) ?_ | refine WC.draw 3 rfl (by decide +kernel) ?_ | refine WC.draw 4 rfl (by decide +kernel) ?_ | refine WC.draw 5 rfl (by decide +kernel) ?_ | refine WC.draw 6 rfl (by decide +kernel) ?_ | refine WC.draw 7 rfl (by decide +kernel) ?_ | refine WC.draw 8 rfl (by decide +kernel) ?_ | refine WC.draw 9 rfl (by decide +kernel) ?_ | refine WC.draw 10 rfl (by decide +kernel) ?_ | refine WC.draw 11 rfl (by decide +kernel) ?_ | refine WC.draw 12 rfl (by decide +kernel) ?_ | refine WC.draw 13 rfl (by decide +kernel) ?_ | refine WC.draw 14 rfl (by decide +kernel) ?_ | refine WC.draw 15 rfl (by decide +kernel) ?_ | refine WC.draw 16 rfl (by decide +kernel) ?_ | refine WC.draw 17 rfl (by decide +kernel) ?_ | refine WC.draw 18 rfl (by decide +kernel) ?_ | refine WC.draw 19 rfl (by decide +kernel) ?_ | refine WC.draw 20 rfl (by decide +kernel) ?_ | refine WC.draw 21 rfl (by decide +kernel) ?_ | refine WC.draw 22 rfl (by decide +kernel) ?_ | refine WC.draw 23 rfl (by decide +kernel) ?_ | refine WC.draw 24 rfl (by decide +kernel) ?_)); (repeat (refine WD.cons rfl (fun c h => by cases h) sq_E10_1 ?_)); refine WD.nil ?_)); (try (refine st ?_; (repeat intro zzc))))); (repeat ((first | (refine iF 40 rfl ?_; refine w_callG Try.func40 ?_ (hs := sizes_any (by assumption) _ _ _ (by assumption))) | ((refine iDraw ?_; (first | refine WC.drawAll rfl (by decide +kernel) ?_ | refine WC.draw 1 rfl (by decide +kernel) ?_ | refine WC.draw 2 rfl (by decide +kernel) ?_ | refine WC.draw 3 rfl (by decide +kernel) ?_ | refine WC.draw 4 rfl (by decide +kernel) ?_ | refine WC.draw 5 rfl (by decide +kernel) ?_ | refine WC.draw 6 rfl (by decide +kernel) ?_ | refine WC.draw 7 rfl (by decide +kernel) ?_ | refine WC.draw 8 rfl (by decide +kernel) ?_ | refine WC.draw 9 rfl (by decide +kernel) ?_ | refine WC.draw 10 rfl (by decide +kernel) ?_ | refine WC.draw 11 rfl (by decide +kernel) ?_ | refine WC.draw 12 rfl (by decide +kernel) ?_ | refine WC.draw 13 rfl (by decide +kernel) ?_ | refine WC.draw 14 rfl (by decide +kernel) ?_ | refine WC.draw 15 rfl (by decide +kernel) ?_ | refine WC.draw 16 rfl (by decide +kernel) ?_ | refine WC.draw 17 rfl (by decide +kernel) ?_ | refine WC.draw 18 rfl (by decide +kernel) ?_ | refine WC.draw 19 rfl (by decide +kernel) ?_ | refine WC.draw 20 rfl (by decide +kernel) ?_ | refine WC.draw 21 rfl (by decide +kernel) ?_ | refine WC.draw 22 rfl (by decide +kernel) ?_ | refine WC.draw 23 rfl (by decide +kernel) ?_ | refine WC.draw 24 rfl (by decide +kernel) ?_)); (repeat (refine WD.cons rfl (fun c h => by cases h) sq_E10_1 ?_)); refine WD.nil ?_)); (try (refine st ?_; (repeat intro zzc))))); (repeat revert zzc); exact zzn.out) : G := h ⟨next⟩
theorem apply_any {a : Option Addr} {cap : Nat} {l : List Stp} {s : List UInt8} (hf : Fit l) (hsl : s.length ≤ 1000000000) (w0 : World) (m : Mem) (H : SHeap) (hr : RowR w0 m H 3 a (l.map Stp.cs)) :
    Does Try.prog 22 #[str s, .slice a l.length cap] w0 m H (Gives (applyV s l) m H) := by
  refine Does.of_body (args := [str s, .slice a l.length cap]) Try.func22 rfl Try.ntmps22 rfl ?_
  have hln : (l.map Stp.cs).length = l.length := by simp
  have hlen := hf.len
  cases hs : sizesOf l with
  | none =>
    have e : applyV s l = .tuple #[str [], .int .i64 2] := by simp only [applyV, hs]
    have e2 : szP (sizesOf l) = .tuple #[.int .i64 0, .int .i64 0, .int .i64 2] := by rw [hs]; rfl
    rw [e]
    (try (refine st_E10_1 ?_; intros))
    rw [e2]
    (try (refine st_E10_1 ?_; intros))
    exact q_fin0 (H0 := H) (Gives.mk rfl) (hd := (fun w h => Pick.sat (by iterate 60 (try (first | exact Pick.all | (apply Pick.take; (· (repeat (first | exact Out.here | apply Out.there)))) | apply Pick.drop))) h))
  | some ft =>
    obtain ⟨f, t⟩ := ft
    have e2 : szP (sizesOf l) = .tuple #[.int .i64 f, .int .i64 t, .int .i64 0] := by rw [hs]; rfl
    obtain ⟨hok, hal, hpl, hfr, _, g1, g2, _, _⟩ := sized hs
    by_cases hfs : f = s.length
    · (try (refine st_E10_1 ?_; intros))
      rw [e2]
      (try (refine st_E10_1 ?_; intros))
      refine WC.newRow (T := 5) (sz := 1) ?_
      refine WC.loopH [(29, .int .i64 ((0) : Int)), (28, .int .i64 (l.length : Int)), (27, .slice a l.length cap), (0, str (s)), (9, .slice (none) (0) (0))] ?_ ?_ (fun j r ds m' H' => ∃ i S a9 c9 n9 O, j = l.length - i ∧ r = [(29, .int .i64 (i : Int)), (28, .int .i64 (l.length : Int)), (27, .slice a l.length cap), (0, str S), (9, .slice a9 n9 c9)] ∧ ds = [] ∧ m = m' ∧ H' = .row a9 c9 5 1 (O.map bV) :: H ∧ (i ≤ l.length) ∧ (n9 = O.length) ∧ (O.length ≤ (atomsOf (l.take i)).length + s.length - S.length) ∧ (S.length ≤ s.length) ∧ (fromA (atomsOf (l.drop i)) = S.length) ∧ ((applyA S (atomsOf (l.drop i))).map (O ++ ·) = applyA s (atomsOf l))) (l.length - (0)) ⟨0, s, none, 0, 0, ([] : List UInt8), rfl, rfl, rfl, rfl, rfl, by omega, rfl, by simp, by omega, by rw [List.drop_zero]; omega, by simp⟩ ?_
      · (repeat (first | exact Env.Sub.nil | refine Env.Sub.cons rfl ?_))
      · exact (fun w h => Pick.sat (by iterate 60 (try (first | exact Pick.all | (apply Pick.take; (· (repeat (first | exact Out.here | apply Out.there)))) | apply Pick.drop))) h)
      rintro j r ds m' H' ⟨i, S, a9, c9, n9, O, rfl, rfl, rfl, rfl, rfl, hi, hn9, hO, hSl, hSf, hR⟩
      have hOl : (O.map bV).length = O.length := by simp
      have htl : (atomsOf (l.take i)).length ≤ (atomsOf l).length := by
        have e : atomsOf l = atomsOf (l.take i) ++ atomsOf (l.drop i) := by rw [← atoms_append, List.take_append_drop]
        rw [e]; simp
      subst hn9
      by_cases hlt : i < l.length
      · obtain ⟨x, hx, hget, htk, hmem, hdr⟩ := at_idx (f := Stp.cs) hlt
        have hxl : (atomsOf (l.take (i + 1))).length = (atomsOf (l.take i)).length + x.atoms.length := by rw [htk, atoms_append, atoms_one, List.length_append]
        have hxm : (atomsOf (l.take (i + 1))).length ≤ (atomsOf l).length := by
          have e : atomsOf l = atomsOf (l.take (i + 1)) ++ atomsOf (l.drop (i + 1)) := by rw [← atoms_append, List.take_append_drop]
          rw [e, List.length_append]; omega
        rw [atoms_len] at hxl
        rw [hdr, atoms_cons] at hR hSf
        rw [fromA_append, from_step] at hSf
        have hr1 := hr.more (i := .row a9 c9 5 1 (O.map bV))
        have hxok := hok x hmem
        refine WC.rSome hr1 (by omega) ?_
        rintro a0 rfl
        rcases hxok with ⟨h1, h2, h3⟩ | ⟨h1, h2, h3⟩ | ⟨h1, h2, h3⟩
        · have h2' : x.d.length = 0 := by rw [h2]; rfl
          have h3' : x.p.length = 0 := by rw [h3]; rfl
          have ea : x.atoms = List.replicate x.k.toNat .k := by simp [Stp.atoms, h2, h3]
          rw [ea, applyA_ks x.k.toNat S _ (by omega), Option.map_map] at hR
          have hmin : (S.take x.k.toNat).length = x.k.toNat := by simp; omega
          have hed : (S.drop x.k.toNat).length = S.length - x.k.toNat := by simp
          (refine st_E10_1 ?_; intros; rename_i bx a8 c8)
          rw [hOl, hmin]
          have em : O.map bV ++ (S.take x.k.toNat).map (fun b => [Value.int .u8 (b.toNat : Int)]) = (O ++ S.take x.k.toNat).map bV := by rw [List.map_append]; rfl
          rw [em]
          refine WQ.next (l.length - (i + 1)) ⟨i + 1, S.drop x.k.toNat, a8, c8, O.length + x.k.toNat, O ++ S.take x.k.toNat, rfl, rfl, rfl, rfl, rfl, ?_, ?_, ?_, ?_, ?_, ?_⟩ (by omega) (by (repeat (first | exact Env.Sub.nil | refine Env.Sub.cons rfl ?_))) (fun w h => Pick.sat (by iterate 60 (try (first | exact Pick.all | (apply Pick.take; (· (repeat (first | exact Out.here | apply Out.there)))) | apply Pick.drop))) h)
          · omega
          · rw [List.length_append, hmin]
          · rw [List.length_append, hmin]; omega
          · omega
          · omega
          · rw [← hR]; congr 1; funext q; simp
        · have h3' : x.p.length = 0 := by rw [h3]; rfl
          have ea : x.atoms = x.d.map .d := by simp [Stp.atoms, h1, h3]
          rw [ea, applyA_ds x.d S _ (by omega)] at hR
          have hed : (S.drop x.d.length).length = S.length - x.d.length := by simp
          by_cases h4 : S.take x.d.length = x.d
          · rw [if_pos h4] at hR
            (try (refine st_E10_1 ?_; intros))
            refine WQ.next (l.length - (i + 1)) ⟨i + 1, S.drop x.d.length, a9, c9, O.length, O, rfl, rfl, rfl, rfl, rfl, ?_, ?_, ?_, ?_, ?_, ?_⟩ (by omega) (by (repeat (first | exact Env.Sub.nil | refine Env.Sub.cons rfl ?_))) (fun w h => Pick.sat (by iterate 60 (try (first | exact Pick.all | (apply Pick.take; (· (repeat (first | exact Out.here | apply Out.there)))) | apply Pick.drop))) h)
            · omega
            · rfl
            · omega
            · omega
            · omega
            · exact hR
          · rw [if_neg h4] at hR
            have e : applyV s l = .tuple #[str [], .int .i64 270] := by simp only [applyV, hs, hfs, ne_eq, not_true, if_false, ← hR, Option.map_none]
            rw [e]
            (try (refine st_E10_1 ?_; intros))
            exact q_fin0 (H0 := H) (Gives.mk rfl) (hd := (fun w h => Pick.sat (by iterate 60 (try (first | exact Pick.all | (apply Pick.take; (· (repeat (first | exact Out.here | apply Out.there)))) | apply Pick.drop))) h))
        · have h2' : x.d.length = 0 := by rw [h2]; rfl
          have ea : x.atoms = x.p.map .p := by simp [Stp.atoms, h1, h2]
          rw [ea, applyA_ps S x.p, Option.map_map] at hR
          (refine st_E10_1 ?_; intros; rename_i bx a8 c8)
          rw [hOl]
          have em : O.map bV ++ x.p.map (fun b => [Value.int .u8 (b.toNat : Int)]) = (O ++ x.p).map bV := by rw [List.map_append]; rfl
          rw [em]
          refine WQ.next (l.length - (i + 1)) ⟨i + 1, S, a8, c8, O.length + x.p.length, O ++ x.p, rfl, rfl, rfl, rfl, rfl, ?_, ?_, ?_, ?_, ?_, ?_⟩ (by omega) (by (repeat (first | exact Env.Sub.nil | refine Env.Sub.cons rfl ?_))) (fun w h => Pick.sat (by iterate 60 (try (first | exact Pick.all | (apply Pick.take; (· (repeat (first | exact Out.here | apply Out.there)))) | apply Pick.drop))) h)
          · omega
          · rw [List.length_append]
          · rw [List.length_append]; omega
          · omega
          · omega
          · rw [← hR]; congr 1; funext q; simp
      · obtain rfl : i = l.length := by omega
        rw [List.drop_length] at hR
        have e : applyV s l = .tuple #[str O, .int .i64 0] := by
          have : some O = applyA s (atomsOf l) := by rw [← hR, show atomsOf [] = [] from rfl, applyA_nil]; simp
          simp only [applyV, hs, hfs, ne_eq, not_true, if_false, ← this]
        rw [e]
        (try (refine st_E10_1 ?_; intros))
        refine WL.rowStr (s := O) rfl rfl (by (repeat (first | exact List.Mem.head _ | apply List.Mem.tail))) rfl rfl rfl rfl rfl ?_
        (try (refine st_E10_1 ?_; intros))
        exact q_fin0 (H0 := H) (Gives.mk rfl) (hd := (fun w h => Pick.sat (by iterate 60 (try (first | exact Pick.all | (apply Pick.take; (· (repeat (first | exact Out.here | apply Out.there)))) | apply Pick.drop))) h))
    · have e : applyV s l = .tuple #[str [], .int .i64 5] := by simp [applyV, hs, hfs]
      rw [e]
      (try (refine st_E10_1 ?_; intros))
      rw [e2]
      (try (refine st_E10_1 ?_; intros))
      exact q_fin0 (H0 := H) (Gives.mk rfl) (hd := (fun w h => Pick.sat (by iterate 60 (try (first | exact Pick.all | (apply Pick.take; (· (repeat (first | exact Out.here | apply Out.there)))) | apply Pick.drop))) h))
theorem sq_E10_2 {G : Prop} (h : G := by (repeat (first | (refine sp ?_; (repeat intro zzc)))); exact WQ.q1 rfl) : G := h
theorem st_E10_2 {G G' : Prop} (next : G') (h : Bx G' → G := by intro zzn; (first | ((refine st ?_; (repeat intro zzc)); (try ((first | ((refine iDraw ?_; (first | refine WC.drawAll rfl (by decide +kernel) ?_ | refine WC.draw 1 rfl (by decide +kernel) ?_ | refine WC.draw 2 rfl (by decide +kernel) ?_ | refine WC.draw 3 rfl (by decide +kernel) ?_ | refine WC.draw 4 rfl (by decide +kernel) ?_ | refine WC.draw 5 rfl (by decide +kernel) ?_ | refine WC.draw 6 rfl (by decide +kernel) ?_ | refine WC.draw 7 rfl (by decide +kernel) ?_ | refine WC.draw 8 rfl (by decide +kernel) ?_ | refine WC.draw 9 rfl (by decide +kernel) ?_ | refine WC.draw 10 rfl (by decide +kernel) ?_ | refine WC.draw 11 rfl (by decide +kernel) ?_ | refine WC.draw 12 rfl (by decide +kernel) ?_ | refine WC.draw 13 rfl (by decide +kernel) ?_ | refine WC.draw 14 rfl (by decide +kernel) ?_ | refine WC.draw 15 rfl (by decide +kernel) ?_ | refine WC.draw 16 rfl (by decide +kernel) ?_ | refine WC.draw 17 rfl (by decide +kernel) ?_ | refine WC.draw 18 rfl (by decide +kernel) ?_ | refine WC.draw 19 rfl (by decide +kernel) ?_ | refine WC.draw 20 rfl (by decide +kernel) ?_ | refine WC.draw 21 rfl (by decide +kernel) ?_ | refine WC.draw 22 rfl (by decide +kernel) ?_ | refine WC.draw 23 rfl (by decide +kernel) ?_ | refine WC.draw 24 rfl (by decide +kernel) ?_)); (repeat (refine WD.cons rfl (fun c h => by cases h) sq_E10_2 ?_)); refine WD.nil ?_)); (try (refine st ?_; (repeat intro zzc)))))) | ((first | ((refine iDraw ?_; (first | refine WC.drawAll rfl (by decide +kernel) ?_ | refine WC.draw 1 rfl (by decide +kernel) ?_ | refine WC.draw 2 rfl (by decide +kernel) ?_ | refine WC.draw 3 rfl (by decide +kernel) ?_ | refine WC.draw 4 rfl (by decide +kernel) ?_ | refine WC.draw 5 rfl (by decide +kernel) ?_ | refine WC.draw 6 rfl (by decide +kernel) ?_ | refine WC.draw 7 rfl (by decide +kernel) ?_ | refine WC.draw 8 rfl (by decide +kernel) ?_ | refine WC.draw 9 rfl (by decide +kernel) ?_ | refine WC.draw 10 rfl (by decide +kernel) ?_ | refine WC.draw 11 rfl (by decide +kernel) ?_ | refine WC.draw 12 rfl (by decide +kernel) ?_ | refine WC.draw 13 rfl (by decide +kernel) ?_ | refine WC.draw 14 rfl (by decide +kernel) ?_ | refine WC.draw 15 rfl (by decide +kernel) ?_ | refine WC.draw 16 rfl (by decide +kernel) ?_ | refine WC.draw 17 rfl (by decide +kernel) ?_ | refine WC.draw 18 rfl (by decide +kernel) ?_ | refine WC.draw 19 rfl (by decide +kernel) ?_ | refine WC.draw 20 rfl (by decide +kernel) ?_ | refine WC.draw 21 rfl (by decide +kernel) ?_ | refine WC.draw 22 rfl (by decide +kernel) ?_ | refine WC.draw 23 rfl (by decide +kernel) ?_ | refine WC.draw 24 rfl (by decide +kernel) ?_)); (repeat (refine WD.cons rfl (fun c h => by cases h) sq_E10_2 ?_)); refine WD.nil ?_)); (try (refine st ?_; (repeat intro zzc))))); (repeat ((first | ((refine iDraw ?_; (first | refine WC.drawAll rfl (by decide +kernel) ?_ | refine WC.draw 1 rfl (by decide +kernel) ?_ | refine WC.draw 2 rfl (by decide +kernel) ?_ | refine WC.draw 3 rfl (by decide +kernel) ?_ | refine WC.draw 4 rfl (by decide +kernel) ?_ | refine WC.draw 5 rfl (by decide +kernel) ?_ | refine WC.draw 6 rfl (by decide +kernel) ?_ | refine WC.draw 7 rfl (by decide +kernel) ?_ | refine WC.draw 8 rfl (by decide +kernel) ?_ | refine WC.draw 9 rfl (by decide +kernel) ?_ | refine WC.draw 10 rfl (by decide +kernel) ?_ | refine WC.draw 11 rfl (by decide +kernel) ?_ | refine WC.draw 12 rfl (by decide +kernel) ?_ | refine WC.draw 13 rfl (by decide +kernel) ?_ | refine WC.draw 14 rfl (by decide +kernel) ?_ | refine WC.draw 15 rfl (by decide +kernel) ?_ | refine WC.draw 16 rfl (by decide +kernel) ?_ | refine WC.draw 17 rfl (by decide +kernel) ?_ | refine WC.draw 18 rfl (by decide +kernel) ?_ | refine WC.draw 19 rfl (by decide +kernel) ?_ | refine WC.draw 20 rfl (by decide +kernel) ?_ | refine WC.draw 21 rfl (by decide +kernel) ?_ | refine WC.draw 22 rfl (by decide +kernel) ?_ | refine WC.draw 23 rfl (by decide +kernel) ?_ | refine WC.draw 24 rfl (by decide +kernel) ?_)); (repeat (refine WD.cons rfl (fun c h => by cases h) sq_E10_2 ?_)); refine WD.nil ?_)); (try (refine st ?_; (repeat intro zzc))))); (repeat revert zzc); exact zzn.out) : G := h ⟨next⟩
theorem live_val : applyV [97, 98] [⟨1, [], []⟩, ⟨0, [98], []⟩, ⟨0, [], [99]⟩] = .tuple #[str [97, 99], .int .i64 0] := by
  have h1 : sizesOf [⟨1, [], []⟩, ⟨0, [98], []⟩, ⟨0, [], [99]⟩] = some (2, 2) := by decide +kernel
  have h2 : applyA [97, 98] (atomsOf [⟨1, [], []⟩, ⟨0, [98], []⟩, ⟨0, [], [99]⟩]) = some [97, 99] := by decide +kernel
  simp only [applyV, h1, h2]
  rfl
theorem live_any (w0 : World) (m : Mem) (H : SHeap) : Does Try.prog 12 #[] w0 m H (Gives (.bool true) m H) := by
  refine Does.of_body (args := []) Try.func12 rfl Try.ntmps12 rfl ?_
  (refine st_E10_2 ?_; intros; rename_i b)
  refine w_callF Try.func22 ?_ (hs := apply_any (s := [97, 98]) (l := [⟨1, [], []⟩, ⟨0, [98], []⟩, ⟨0, [], [99]⟩]) ⟨by decide, by decide, by decide, by decide⟩ (by decide) _ _ _ (RowR.blk (by (repeat (first | exact List.Mem.head _ | apply List.Mem.tail))) (by decide) rfl))
  rintro v m1 H1 ⟨rfl, rfl, rfl⟩
  rw [live_val]
  (try (refine st_E10_2 ?_; intros))
  (refine q_fin0 ?_)
  exact Gives.mk (by rw [dcd_true rfl])
end Go.Proofs.Ytelgegefmjlimaa

/-
  Plain facts on changes: how much composing and carrying make. No condition.
-/
namespace Go.Eng
open Go
theorem compA_len (xs ys : List Atm) : ∀ o, compA xs ys = some o → o.length ≤ xs.length + ys.length := by
  fun_induction compA xs ys <;> intro o h
  all_goals first
    | (simp only [Option.some.injEq] at h; subst h; simp)
    | (rename_i ih; obtain ⟨o', h', rfl⟩ := Option.map_eq_some_iff.1 h; have := ih o' h'; simp only [List.length_cons] at this ⊢; omega)
    | (rename_i ih; have := ih o h; simp only [List.length_cons] at this ⊢; omega)
    | (cases h)
theorem carA_len (xs ys : List Atm) : ∀ o, carA xs ys = some o → o.1.length ≤ xs.length + ys.length ∧ o.2.length ≤ xs.length + ys.length := by
  fun_induction carA xs ys <;> intro o h
  all_goals first
    | (simp only [Option.some.injEq] at h; subst h; simp)
    | (rename_i ih; obtain ⟨o', h', rfl⟩ := Option.map_eq_some_iff.1 h; have := ih o' h'; simp only [List.length_cons] at this ⊢; omega)
    | (rename_i ih; have := ih o h; simp only [List.length_cons] at this ⊢; omega)
    | (cases h)
theorem list_len (L : List Atm) : (listOf L).length ≤ 4 * L.length + 2 := (BFit.close (BFit.runs L)).len
theorem cmpT_list (A B : List Atm) : cmpT Bld.start A B = (compA A B).map listOf := rfl
theorem carT_list (A B : List Atm) : carT Bld.start Bld.start 0 A B = (carA A B).map fun o => (listOf o.1, listOf o.2, 0 + toA o.1) := rfl
/-- what a change that may be is of, in its one form -/
theorem nf_len {l : List Stp} {f t : Int} (h : sizesOf l = some (f, t)) : (nfOf (gapsOf l)).length ≤ 131072 ∧ (fromA (nfOf (gapsOf l)) : Int) = f ∧ (toA (nfOf (gapsOf l)) : Int) = t := by
  obtain ⟨h1, h2, h3, h4, h5⟩ := sizesOf_some h
  have hok : ∀ s ∈ l, stpOk s := fun s hs => (h1 s hs).1
  obtain ⟨n1, n2⟩ := nf_sizes l hok
  have := atoms_le (nfOf (gapsOf l))
  unfold maxT at h4 h5
  omega
end Go.Eng

/-
  The walk of the law's comparison of changes. No condition.
-/
namespace Go.Eng
open Go
theorem comP_len {a b l : List Stp} (h : comP a b = .inr l) : l.length ≤ 2000000 := by
  unfold comP at h
  split at h
  · rename_i f1 mid f2 t2 hsa hsb
    split at h
    · cases h
    · rw [cmpT_list] at h
      cases hc : compA (nfOf (gapsOf a)) (nfOf (gapsOf b)) with
      | none => rw [hc] at h; cases h
      | some o =>
        rw [hc] at h
        simp only [Option.map_some, Sum.inr.injEq] at h
        subst h
        have h1 := list_len o
        have h2 := compA_len _ _ _ hc
        have h3 := (nf_len hsa).1
        have h4 := (nf_len hsb).1
        omega
  · cases h
end Go.Eng
namespace Go.Proofs.Ytelgegefmjlimaa
open Go Go.Eng
set_option maxRecDepth 100000
set_option maxHeartbeats 4000000
set_option linter.all false
attribute [local irreducible] WL WC WQ QFun QLoop Does Q1 QRound QAssign Go.Addr.add
theorem same_any {pa pb : Option Addr} {ca cb : Nat} {l : List Stp} (hl : l.length ≤ 1000000000) (w0 : World) (m : Mem) (H : SHeap) (hra : RowR w0 m H 3 pa (l.map Stp.cs)) (hrb : RowR w0 m H 3 pb (l.map Stp.cs)) :
    Does Try.prog 19 #[.slice pa l.length ca, .slice pb l.length cb] w0 m H (Gives (.bool true) m H) := by
  refine Does.of_body (args := [.slice pa l.length ca, .slice pb l.length cb]) Try.func19 rfl Try.ntmps19 rfl ?_
  have hln : (l.map Stp.cs).length = l.length := by simp
  (try (refine st ?_; intros))
  refine WC.loopH [(5, .int .i64 ((0) : Int)), (0, .slice pa l.length ca), (1, .slice pb l.length cb)] ?_ ?_ (fun j r ds m' H' => ∃ i, j = l.length - i ∧ r = [(5, .int .i64 (i : Int)), (0, .slice pa l.length ca), (1, .slice pb l.length cb)] ∧ ds = [] ∧ m = m' ∧ H' = H ∧ (i ≤ l.length) ∧ (RowR w0 m H 3 pa (l.map Stp.cs)) ∧ (RowR w0 m H 3 pb (l.map Stp.cs))) (l.length - (0)) ⟨0, rfl, rfl, rfl, rfl, rfl, by omega, hra, hrb⟩ ?_
  · (repeat (first | exact Env.Sub.nil | refine Env.Sub.cons rfl ?_))
  · exact (fun w h => Pick.sat (by iterate 60 (try (first | exact Pick.all | (apply Pick.take; (· (repeat (first | exact Out.here | apply Out.there)))) | apply Pick.drop))) h)
  rintro j r ds m' H' ⟨i, rfl, rfl, rfl, rfl, rfl, hi, hra, hrb⟩
  generalize H' = H at *
  by_cases hlt : i < l.length
  · obtain ⟨x, hx, hget, htk, hmem, hdr⟩ := at_idx (f := Stp.cs) hlt
    refine WC.rSome hra (by omega) ?_
    rintro a0 rfl
    refine WC.rSome hrb (by omega) ?_
    rintro b0 rfl
    have h1 : x.d = x.d := rfl
    have h2 : x.p = x.p := rfl
    (try (refine st ?_; intros))
    refine WQ.next (l.length - (i + 1)) ⟨i + 1, rfl, rfl, rfl, rfl, rfl, ?_, ?_, ?_⟩ (by omega) (by (repeat (first | exact Env.Sub.nil | refine Env.Sub.cons rfl ?_))) (fun w h => Pick.sat (by iterate 60 (try (first | exact Pick.all | (apply Pick.take; (· (repeat (first | exact Out.here | apply Out.there)))) | apply Pick.drop))) h)
    · omega
    · assumption
    · assumption
  · obtain rfl : i = l.length := by omega
    (try (refine st ?_; intros))
    exact q_fin0 (H0 := H) (Gives.mk rfl) (hd := (fun w h => Pick.sat (by iterate 60 (try (first | exact Pick.all | (apply Pick.take; (· (repeat (first | exact Out.here | apply Out.there)))) | apply Pick.drop))) h))
end Go.Proofs.Ytelgegefmjlimaa

/-
  The walk of the law EditComposes. No condition.
-/
namespace Go.Proofs.Ytelgegefmjlimaa
open Go Go.Eng
set_option maxRecDepth 100000
set_option maxHeartbeats 4000000
set_option linter.all false
attribute [local irreducible] WL WC WQ QFun QLoop Does Q1 QRound QAssign Go.Addr.add
theorem sq_E19_1 {G : Prop} (h : G := by (repeat (first | (refine sp ?_; (repeat intro zzc)) | (refine iF 12 rfl ?_; refine w_callG Try.func12 ?_ (hs := live_any _ _ _)))); exact WQ.q1 rfl) : G := h
theorem st_E19_1 {G G' : Prop} (next : G') (h : Bx G' → G := by intro zzn; (first | ((refine st ?_; (repeat intro zzc)); (try ((first | (refine iF 12 rfl ?_; refine w_callG Try.func12 ?_ (hs := live_any _ _ _)) | ((refine iDraw ?_; (first | refine WC.drawAll rfl (by decide +kernel) ?_ | refine WC.draw 1 rfl (by decide +kernel) ?_ | refine WC.draw 2 rfl (by decide +kernel) ?_ | refine WC.draw 3 rfl (by decide +kernel) ?_ | refine WC.draw 4 rfl (by decide +kernel) ?_ | refine WC.draw 5 rfl (by decide +kernel) ?_ | refine WC.draw 6 rfl (by decide +kernel) ?_ | refine WC.draw 7 rfl (by decide +kernel) ?_ | refine WC.draw 8 rfl (by decide +kernel) ?_ | refine WC.draw 9 rfl (by decide +kernel) ?_ | refine WC.draw 10 rfl (by decide +kernel) ?_ | refine WC.draw 11 rfl (by decide +kernel) ?_ | refine WC.draw 12 rfl (by decide +kernel) ?_ | refine WC.draw 13 rfl (by decide +kernel) ?_ | refine WC.draw 14 rfl (by decide +kernel) ?_ | refine WC.draw 15 rfl (by decide +kernel) ?_ | refine WC.draw 16 rfl (by decide +kernel) ?_ | refine WC.draw 17 rfl (by decide +kernel) ?_ | refine WC.draw 18 rfl (by decide +kernel) ?_ | refine WC.draw 19 rfl (by decide +kernel) ?_ | refine WC.draw 20 rfl (by decide +kernel) ?_ | refine WC.draw 21 rfl (by decide +kernel) ?_ | refine WC.draw 22 rfl (by decide +kernel) ?_ | refine WC.draw 23 rfl (by decide +kernel) ?_ | refine WC.draw 24 rfl (by decide +kernel) ?_)); (repeat (refine WD.cons rfl (fun c h => by cases h) sq_E19_1 ?_)); refine WD.nil ?_)); (try (refine st ?_; (repeat intro zzc)))))) | ((first | (refine iF 12 rfl ?_; refine w_callG Try.func12 ?_ (hs := live_any _ _ _)) | ((refine iDraw ?_; (first | refine WC.drawAll rfl (by decide +kernel) ?_ | refine WC.draw 1 rfl (by decide +kernel) ?_ | refine WC.draw 2 rfl (by decide +kernel) ?_ | refine WC.draw 3 rfl (by decide +kernel) ?_ | refine WC.draw 4 rfl (by decide +kernel) ?_ | refine WC.draw 5 rfl (by decide +kernel) ?_ | refine WC.draw 6 rfl (by decide +kernel) ?_ | refine WC.draw 7 rfl (by decide +kernel) ?_ | refine WC.draw 8 rfl (by decide +kernel) ?_ | refine WC.draw 9 rfl (by decide +kernel) ?_ | refine WC.draw 10 rfl (by decide +kernel) ?_ | refine WC.draw 11 rfl (by decide +kernel) ?_ | refine WC.draw 12 rfl (by decide +kernel) ?_ | refine WC.draw 13 rfl (by decide +kernel) ?_ | refine WC.draw 14 rfl (by decide +kernel) ?_ | refine WC.draw 15 rfl (by decide +kernel) ?_ | refine WC.draw 16 rfl (by decide +kernel) ?_ | refine WC.draw 17 rfl (by decide +kernel) ?_ | refine WC.draw 18 rfl (by decide +kernel) ?_ | refine WC.draw 19 rfl (by decide +kernel) ?_ | refine WC.draw 20 rfl (by decide +kernel) ?_ | refine WC.draw 21 rfl (by decide +kernel) ?_ | refine WC.draw 22 rfl (by decide +kernel) ?_ | refine WC.draw 23 rfl (by decide +kernel) ?_ | refine WC.draw 24 rfl (by decide +kernel) ?_)); (repeat (refine WD.cons rfl (fun c h => by cases h) sq_E19_1 ?_)); refine WD.nil ?_)); (try (refine st ?_; (repeat intro zzc))))); (repeat ((first | (refine iF 12 rfl ?_; refine w_callG Try.func12 ?_ (hs := live_any _ _ _)) | ((refine iDraw ?_; (first | refine WC.drawAll rfl (by decide +kernel) ?_ | refine WC.draw 1 rfl (by decide +kernel) ?_ | refine WC.draw 2 rfl (by decide +kernel) ?_ | refine WC.draw 3 rfl (by decide +kernel) ?_ | refine WC.draw 4 rfl (by decide +kernel) ?_ | refine WC.draw 5 rfl (by decide +kernel) ?_ | refine WC.draw 6 rfl (by decide +kernel) ?_ | refine WC.draw 7 rfl (by decide +kernel) ?_ | refine WC.draw 8 rfl (by decide +kernel) ?_ | refine WC.draw 9 rfl (by decide +kernel) ?_ | refine WC.draw 10 rfl (by decide +kernel) ?_ | refine WC.draw 11 rfl (by decide +kernel) ?_ | refine WC.draw 12 rfl (by decide +kernel) ?_ | refine WC.draw 13 rfl (by decide +kernel) ?_ | refine WC.draw 14 rfl (by decide +kernel) ?_ | refine WC.draw 15 rfl (by decide +kernel) ?_ | refine WC.draw 16 rfl (by decide +kernel) ?_ | refine WC.draw 17 rfl (by decide +kernel) ?_ | refine WC.draw 18 rfl (by decide +kernel) ?_ | refine WC.draw 19 rfl (by decide +kernel) ?_ | refine WC.draw 20 rfl (by decide +kernel) ?_ | refine WC.draw 21 rfl (by decide +kernel) ?_ | refine WC.draw 22 rfl (by decide +kernel) ?_ | refine WC.draw 23 rfl (by decide +kernel) ?_ | refine WC.draw 24 rfl (by decide +kernel) ?_)); (repeat (refine WD.cons rfl (fun c h => by cases h) sq_E19_1 ?_)); refine WD.nil ?_)); (try (refine st ?_; (repeat intro zzc))))); (repeat revert zzc); exact zzn.out) : G := h ⟨next⟩
attribute [local irreducible] sizesOf comP
theorem editComposes_any {pa pb : Option Addr} {ca cb : Nat} {a b : List Stp} (hfa : Fit a) (hfb : Fit b) (w0 : World) (m : Mem) (H : SHeap) (hra : ∀ Hp, RowR w0 m Hp 3 pa (a.map Stp.cs)) (hrb : ∀ Hp, RowR w0 m Hp 3 pb (b.map Stp.cs)) :
    Does Try.prog 4 #[.slice pa a.length ca, .slice pb b.length cb] w0 m H (fun v m' _ => v = .bool true ∧ m.le m') := by
  refine Does.of_body (args := [.slice pa a.length ca, .slice pb b.length cb]) Try.func4 rfl Try.ntmps4 rfl ?_
  have hla := hfa.len
  have hlb := hfb.len
  (try (refine st_E19_1 ?_; intros))
  refine w_callF Try.func13 ?_ (hs := ref_any hfa _ _ _ hra)
  rintro v m _ ⟨rfl, (⟨hsm, c1, p1, rfl, rfl⟩ | ⟨hsm, rfl, rfl⟩)⟩
  · (try (refine st_E19_1 ?_; intros))
    refine w_callF Try.func13 ?_ (hs := ref_any hfb _ _ _ hrb)
    rintro v m _ ⟨rfl, (⟨hsm2, c2, p2, rfl, rfl⟩ | ⟨hsm2, rfl, rfl⟩)⟩
    · (try (refine st_E19_1 ?_; intros))
      refine w_callF Try.func14 ?_ (hs := refSizes_any hfa _ _ _ (RowR.row (a := c1) (by (repeat (first | exact List.Mem.head _ | apply List.Mem.tail)))))
      rintro v m H1 ⟨rfl, rfl, rfl⟩
      cases hsa : sizesOf a with
      | none =>
        have e : comP a b = .inl 2 := by unfold comP; rw [hsa]
        rw [show szR none = .tuple #[.int .i64 0, .int .i64 0, .bool false] from rfl]
        (try (refine st_E19_1 ?_; intros))
        refine w_callF Try.func14 ?_ (hs := refSizes_any hfb _ _ _ (RowR.row (a := c2) (by (repeat (first | exact List.Mem.head _ | apply List.Mem.tail)))))
        rintro v m H1 ⟨rfl, rfl, rfl⟩
        have hz : ∃ f t bb, szR (sizesOf b) = .tuple #[.int .i64 f, .int .i64 t, .bool bb] := by
          cases sizesOf b with
          | none => exact ⟨_, _, _, rfl⟩
          | some x => exact ⟨_, _, _, rfl⟩
        obtain ⟨f, t, bb, hz⟩ := hz
        rw [hz]
        (try (refine st_E19_1 ?_; intros))
        refine w_callF Try.func17 ?_ (hs := compose_any hfa hfb _ _ _ (hra _) (hrb _))
        rintro v m H1 ⟨rfl, hv⟩
        rw [e] at hv
        obtain ⟨rfl, rfl⟩ := hv
        (try (refine st_E19_1 ?_; intros))
        (refine q_fin0 ?_)
        exact ⟨rfl, Mem.le.refl _⟩
      | some ft =>
        obtain ⟨fa, ta⟩ := ft
        rw [show szR (some (fa, ta)) = .tuple #[.int .i64 fa, .int .i64 ta, .bool true] from rfl]
        (try (refine st_E19_1 ?_; intros))
        refine w_callF Try.func14 ?_ (hs := refSizes_any hfb _ _ _ (RowR.row (a := c2) (by (repeat (first | exact List.Mem.head _ | apply List.Mem.tail)))))
        rintro v m H1 ⟨rfl, rfl, rfl⟩
        cases hsb : sizesOf b with
        | none =>
          have e : comP a b = .inl 2 := by unfold comP; rw [hsa, hsb]
          rw [show szR none = .tuple #[.int .i64 0, .int .i64 0, .bool false] from rfl]
          (try (refine st_E19_1 ?_; intros))
          refine w_callF Try.func17 ?_ (hs := compose_any hfa hfb _ _ _ (hra _) (hrb _))
          rintro v m H1 ⟨rfl, hv⟩
          rw [e] at hv
          obtain ⟨rfl, rfl⟩ := hv
          (try (refine st_E19_1 ?_; intros))
          (refine q_fin0 ?_)
          exact ⟨rfl, Mem.le.refl _⟩
        | some ft =>
          obtain ⟨fb, tb⟩ := ft
          rw [show szR (some (fb, tb)) = .tuple #[.int .i64 fb, .int .i64 tb, .bool true] from rfl]
          (try (refine st_E19_1 ?_; intros))
          refine w_callF Try.func17 ?_ (hs := compose_any hfa hfb _ _ _ (hra _) (hrb _))
          rintro v m H1 ⟨rfl, hv⟩
          cases hc : comP a b with
          | inl er =>
            rw [hc] at hv
            obtain ⟨rfl, rfl⟩ := hv
            (try (refine st_E19_1 ?_; intros))
            refine w_callF Try.func18 ?_ (hs := rCompose_any hfa hfb hsa hsb _ _ _ (RowR.row (a := c1) (by (repeat (first | exact List.Mem.head _ | apply List.Mem.tail)))) (RowR.row (a := c2) (by (repeat (first | exact List.Mem.head _ | apply List.Mem.tail)))))
            rintro v m H1 ⟨rfl, hv⟩
            rw [hc] at hv
            obtain ⟨rfl, rfl⟩ := hv
            have her : er = er := rfl
            (try (refine st_E19_1 ?_; intros))
            refine w_callF Try.func19 ?_ (hs := same_any (l := []) (by decide) _ _ _ RowR.nil RowR.nil)
            rintro v m H1 ⟨rfl, rfl, rfl⟩
            (try (refine st_E19_1 ?_; intros))
            refine w_callF Try.func19 ?_ (hs := same_any (l := a) (by omega) _ _ _ (hra _) (RowR.row (a := c1) (by (repeat (first | exact List.Mem.head _ | apply List.Mem.tail)))))
            rintro v m H1 ⟨rfl, rfl, rfl⟩
            (try (refine st_E19_1 ?_; intros))
            refine w_callF Try.func19 ?_ (hs := same_any (l := b) (by omega) _ _ _ (hrb _) (RowR.row (a := c2) (by (repeat (first | exact List.Mem.head _ | apply List.Mem.tail)))))
            rintro v m H1 ⟨rfl, rfl, rfl⟩
            (try (refine st_E19_1 ?_; intros))
            (refine q_fin0 ?_)
            exact ⟨rfl, Mem.le.refl _⟩
          | inr l =>
            have hll := comP_len hc
            rw [hc] at hv
            obtain ⟨c3, p3, rfl, rfl⟩ := hv
            (try (refine st_E19_1 ?_; intros))
            refine w_callF Try.func18 ?_ (hs := rCompose_any hfa hfb hsa hsb _ _ _ (RowR.row (a := c1) (by (repeat (first | exact List.Mem.head _ | apply List.Mem.tail)))) (RowR.row (a := c2) (by (repeat (first | exact List.Mem.head _ | apply List.Mem.tail)))))
            rintro v m H1 ⟨rfl, hv⟩
            rw [hc] at hv
            obtain ⟨c4, p4, rfl, rfl⟩ := hv
            (try (refine st_E19_1 ?_; intros))
            refine w_callF Try.func19 ?_ (hs := same_any (l := l) (by omega) _ _ _ (RowR.row (a := c3) (by (repeat (first | exact List.Mem.head _ | apply List.Mem.tail)))) (RowR.row (a := c4) (by (repeat (first | exact List.Mem.head _ | apply List.Mem.tail)))))
            rintro v m H1 ⟨rfl, rfl, rfl⟩
            (try (refine st_E19_1 ?_; intros))
            refine w_callF Try.func19 ?_ (hs := same_any (l := a) (by omega) _ _ _ (hra _) (RowR.row (a := c1) (by (repeat (first | exact List.Mem.head _ | apply List.Mem.tail)))))
            rintro v m H1 ⟨rfl, rfl, rfl⟩
            (try (refine st_E19_1 ?_; intros))
            refine w_callF Try.func19 ?_ (hs := same_any (l := b) (by omega) _ _ _ (hrb _) (RowR.row (a := c2) (by (repeat (first | exact List.Mem.head _ | apply List.Mem.tail)))))
            rintro v m H1 ⟨rfl, rfl, rfl⟩
            (try (refine st_E19_1 ?_; intros))
            (refine q_fin0 ?_)
            exact ⟨rfl, Mem.le.refl _⟩
    · (try (refine st_E19_1 ?_; intros))
      (refine q_fin0 ?_)
      exact ⟨rfl, Mem.le.refl _⟩
  · (try (refine st_E19_1 ?_; intros))
    refine w_callF Try.func13 ?_ (hs := ref_any hfb _ _ _ hrb)
    rintro v m _ ⟨rfl, (⟨hsm2, c2, p2, rfl, rfl⟩ | ⟨hsm2, rfl, rfl⟩)⟩
    all_goals ((try (refine st_E19_1 ?_; intros)); (refine q_fin0 ?_); exact ⟨rfl, Mem.le.refl _⟩)
end Go.Proofs.Ytelgegefmjlimaa

/-
  A walk's engine: a law's arguments that are slices of elements of several cells. No condition.
-/
set_option linter.all false
namespace Go.Eng
open Go Go.RowKit Go.ChangeShapes Go.WideShapes Go.ChangeMaps
section
variable {H : Type} {enc : TypeId × Value → H} {P : Program}
theorem rows_at {sz : Nat} : ∀ {es : List (List Value)}, (∀ e ∈ es, e.length = sz) → ∀ {j : Nat} {v : Value}, es.flatten[j]? = some v → ∃ i c e, es[i]? = some e ∧ c < sz ∧ j = i * sz + c ∧ e[c]? = some v
  | [], _, j, v, h => by simp at h
  | e :: es, he, j, v, h => by
    have hl : e.length = sz := he e List.mem_cons_self
    rw [List.flatten_cons] at h
    by_cases hj : j < sz
    · rw [List.getElem?_append_left (by omega)] at h
      exact ⟨0, j, e, rfl, hj, by simp, h⟩
    · rw [List.getElem?_append_right (by omega), hl] at h
      obtain ⟨i, c, e', h1, h2, h3, h4⟩ := rows_at (fun x hx => he x (List.mem_cons_of_mem _ hx)) h
      exact ⟨i + 1, c, e', by simpa using h1, h2, by rw [Nat.add_mul, Nat.one_mul]; omega, h4⟩
theorem open_rows {α : Type} [Inhabited α] (sz : Nat) (val : α → List Value) (dat : α → DataW H) (ok : α → Prop) (hsz : ∀ x, (val x).length = sz) {W : World} {r : Go.Reach} {b0 : Nat} {t e : TypeId} {v : Value} {d : DataW H} {ps : List MemPlace} (ht : P.underlying t = some (.slice e)) (hc : P.cellsOf e = sz)
    (hone : ∀ (n : Nat) (u : List Value) (y : DataW H × List MemPlace), DataW.trod enc P W 0 (fun _ => true) true n e u = some y → ∃ x, u = val x ∧ y.1 = dat x ∧ ok x)
    (hval : Value.okWide P W r b0 t v) (h : DataW.Trod enc P W 0 (fun _ => true) true t v d ps) : ∃ (a : Option Addr) (cap : Nat) (ns : List α) (spare : List (DataW H)), v = .slice a ns.length cap ∧ ns.length ≤ cap ∧ (∀ x ∈ ns, ok x) ∧
      (d = .nil ∧ ns = [] ∨ d = .slice (ns.map dat) spare) ∧ ∀ w0 Hp, RowR w0 (memOf W) Hp sz a (ns.map val) := by
  obtain ⟨a, len, cap, rfl⟩ := okWide_slice ht hval
  obtain ⟨n, hn⟩ := h
  rcases Deep.open_slice ht hn with ⟨h1, h2⟩ | ⟨a', len', cap', m, n', D, Pl, h1, _, hle, _, hm, h2, hx⟩
  · simp [Value.cells] at h1
    obtain ⟨rfl, rfl, rfl⟩ := h1
    exact ⟨none, 0, [], [], rfl, Nat.le_refl _, (by simp), .inl ⟨congrArg Prod.fst h2, rfl⟩, fun _ _ => RowR.nil⟩
  · simp [Value.cells] at h1
    obtain ⟨rfl, rfl, rfl⟩ := h1
    simp only [if_true] at hm
    subst hm
    rw [hc] at hx
    obtain ⟨X, hX⟩ := Deep.choose_lt (α := α) (n := m) (p := fun i x => W.cells? 0 (a'.add (i * sz)) sz = some (val x) ∧ D i = dat x ∧ ok x) (fun i hi => by
      obtain ⟨u, g1, g2⟩ := hx i hi
      obtain ⟨x, rfl, e2, e3⟩ := hone _ _ _ g2
      exact ⟨x, g1, e2, e3⟩)
    refine ⟨some a', m, (List.range len).map X, (List.range (m - len)).map fun j => D (len + j), by simp, by simpa using hle, ?_, .inr ?_, fun w0 Hp => ?_⟩
    · intro x hxm
      obtain ⟨i, hi, rfl⟩ := List.mem_map.1 hxm
      exact (hX i (by have := List.mem_range.1 hi; omega)).2.2
    · have := congrArg Prod.fst h2
      simp only at this
      rw [this, List.map_map]
      congr 1
      exact List.map_congr_left fun i hi => (hX i (by have := List.mem_range.1 hi; omega)).2.1
    · have hall : ∀ e ∈ ((List.range len).map X).map val, e.length = sz := by
        intro e he
        obtain ⟨x, _, rfl⟩ := List.mem_map.1 he
        exact hsz x
      refine RowR.came hall ?_
      intro j v hj
      obtain ⟨i, c, e, h1, h2, rfl, h4⟩ := rows_at hall hj
      rw [List.getElem?_map, List.getElem?_map] at h1
      obtain ⟨x, hx1, rfl⟩ := Option.map_eq_some_iff.1 h1
      obtain ⟨i', hi, rfl⟩ := Option.map_eq_some_iff.1 hx1
      obtain ⟨hjl, rfl⟩ := List.getElem?_eq_some_iff.1 hi
      rw [List.getElem_range] at h4
      have hjl' : i < len := by simpa using hjl
      have g := (World.cells?_some (hX i (by omega)).1).2.2 c h2
      rw [h4] at g
      rw [← g, Go.Addr.add_add]
/-- slices of elements of three cells: a number and two texts -/
theorem open_trips {k : IntKind} {f0 f1 f2 : Field} {W : World} {r : Go.Reach} {b0 : Nat} {t e : TypeId} {v : Value} {d : DataW H} {ps : List MemPlace} (ht : P.underlying t = some (.slice e)) (he : P.underlying e = some (.struct #[f0, f1, f2])) (hc : P.cellsOf e = 3)
    (h0 : f0.offset = 0 ∧ P.underlying f0.type = some (.int k) ∧ P.cellsOf f0.type = 1) (h1 : f1.offset = 1 ∧ P.underlying f1.type = some .string ∧ P.cellsOf f1.type = 1) (h2 : f2.offset = 2 ∧ P.underlying f2.type = some .string ∧ P.cellsOf f2.type = 1)
    (hval : Value.okWide P W r b0 t v) (h : DataW.Trod enc P W 0 (fun _ => true) true t v d ps) : ∃ (a : Option Addr) (cap : Nat) (ns : List (Int × List UInt8 × List UInt8)) (spare : List (DataW H)), v = .slice a ns.length cap ∧ ns.length ≤ cap ∧ (∀ x ∈ ns, (Lit.int k x.1).wf = true) ∧
      (d = .nil ∧ ns = [] ∨ d = .slice (ns.map fun x => .agg [.lit (.int k x.1), .lit (.string x.2.1), .lit (.string x.2.2)]) spare) ∧ ∀ w0 Hp, RowR w0 (memOf W) Hp 3 a (ns.map fun x => [Value.int k x.1, str x.2.1, str x.2.2]) := by
  refine open_rows 3 (fun x : Int × List UInt8 × List UInt8 => [Value.int k x.1, str x.2.1, str x.2.2]) _ (fun x => (Lit.int k x.1).wf = true) (fun _ => rfl) ht hc (fun n u y hy => ?_) hval h
  obtain ⟨y0, y1, y2, m, rfl, hl, g0, g1, g2⟩ := Deep.trod_struct3 he hy
  rw [hc] at hl
  obtain ⟨c0, c1, c2, rfl⟩ : ∃ c0 c1 c2, u = [c0, c1, c2] := by
    match u, hl with
    | [c0, c1, c2], _ => exact ⟨c0, c1, c2, rfl⟩
  rw [h0.1, h0.2.2] at g0
  rw [h1.1, h1.2.2] at g1
  rw [h2.1, h2.2.2] at g2
  obtain ⟨x0, e0, d0, w0⟩ := DataW.trod_int h0.2.1 g0
  obtain ⟨x1, e1, d1, w1⟩ := DataW.trod_string h1.2.1 g1
  obtain ⟨x2, e2, d2, w2⟩ := DataW.trod_string h2.2.1 g2
  simp at e0 e1 e2
  subst e0 e1 e2 d0 d1 d2
  refine ⟨(x0, x1.data.toList, x2.data.toList), rfl, ?_, w0⟩
  simp
end
end Go.Eng

/-
  How the laws' arguments that are changes are read. No condition.
-/
namespace Go.Eng
open Go Go.RowKit Go.ChangeShapes Go.WideShapes Go.ChangeMaps
def Stp.dat {H : Type} (x : Stp) : DataW H := .agg [.lit (.int .i64 x.k), .lit (.string x.d), .lit (.string x.p)]
theorem open_steps {H : Type} {enc : TypeId × Value → H} {P : Program} {f0 f1 f2 : Field} {W : World} {r : Go.Reach} {b0 : Nat} {t e : TypeId} {v : Value} {d : DataW H} {ps : List MemPlace} (ht : P.underlying t = some (.slice e)) (he : P.underlying e = some (.struct #[f0, f1, f2])) (hc : P.cellsOf e = 3)
    (h0 : f0.offset = 0 ∧ P.underlying f0.type = some (.int .i64) ∧ P.cellsOf f0.type = 1) (h1 : f1.offset = 1 ∧ P.underlying f1.type = some .string ∧ P.cellsOf f1.type = 1) (h2 : f2.offset = 2 ∧ P.underlying f2.type = some .string ∧ P.cellsOf f2.type = 1)
    (hval : Value.okWide P W r b0 t v) (h : DataW.Trod enc P W 0 (fun _ => true) true t v d ps) : ∃ (a : Option Addr) (cap : Nat) (l : List Stp) (spare : List (DataW H)), v = .slice a l.length cap ∧ l.length ≤ cap ∧ (∀ x ∈ l, -9223372036854775808 ≤ x.k ∧ x.k ≤ 9223372036854775807) ∧
      (d = .nil ∧ l = [] ∨ d = .slice (l.map Stp.dat) spare) ∧ ∀ w0 Hp, RowR w0 (memOf W) Hp 3 a (l.map Stp.cs) := by
  obtain ⟨a, cap, ns, sp, h1, h2, h3, h4, h5⟩ := open_trips (k := .i64) ht he hc h0 h1 h2 hval h
  refine ⟨a, cap, ns.map fun x => ⟨x.1, x.2.1, x.2.2⟩, sp, by rw [List.length_map]; exact h1, by rw [List.length_map]; exact h2, ?_, ?_, ?_⟩
  · intro x hx
    obtain ⟨y, hy, rfl⟩ := List.mem_map.1 hx
    have := h3 y hy
    simp only [Lit.wf, Bool.and_eq_true, decide_eq_true_eq] at this
    exact this
  · rcases h4 with ⟨g1, g2⟩ | g
    · exact .inl ⟨g1, by rw [g2]; rfl⟩
    · exact .inr (by rw [g, List.map_map]; rfl)
  · intro w0 Hp
    have := h5 w0 Hp
    rwa [List.map_map]
end Go.Eng
namespace Go.Proofs.Ytelgegefmjlimaa
open Go Go.Eng
theorem steps_len {H : Type} (l : List Stp) : l.length ≤ Rows.uptoBulkAll (l.map (Stp.dat (H := H))) ∧ ∀ x ∈ l, x.d.length ≤ Rows.uptoBulkAll (l.map (Stp.dat (H := H))) ∧ x.p.length ≤ Rows.uptoBulkAll (l.map (Stp.dat (H := H))) := by
  induction l with
  | nil => simp
  | cons x l ih =>
    have h1 : Rows.uptoBulk (Stp.dat (H := H) x) = 1 + (x.d.length + 1 + (x.p.length + 1)) + 1 := by simp [Stp.dat, Rows.uptoBulk, Rows.uptoBulkAll]
    simp only [List.map_cons, Rows.uptoBulkAll, List.length_cons]
    refine ⟨by omega, fun y hy => ?_⟩
    rcases List.mem_cons.1 hy with rfl | hy
    · omega
    · have := ih.2 y hy; omega
theorem fit_of {H : Type} {d : DataW H} {l : List Stp} {spare : List (DataW H)} (hk : ∀ x ∈ l, -9223372036854775808 ≤ x.k ∧ x.k ≤ 9223372036854775807) (hd : d = .nil ∧ l = [] ∨ d = .slice (l.map Stp.dat) spare) (hb : Rows.uptoBulk d ≤ 1048576) : Fit l := by
  rcases hd with ⟨rfl, rfl⟩ | rfl
  · exact ⟨by simp, by simp, by simp, by simp⟩
  · simp only [Rows.uptoBulk] at hb
    obtain ⟨h1, h2⟩ := steps_len (H := H) l
    exact ⟨by omega, hk, fun x hx => by have := h2 x hx; omega, fun x hx => by have := h2 x hx; omega⟩
end Go.Proofs.Ytelgegefmjlimaa

/-
  What the law EditComposes needs. No condition.
-/

