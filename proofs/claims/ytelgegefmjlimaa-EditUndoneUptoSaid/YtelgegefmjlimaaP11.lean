/-
  Parts of a walk, joined: E16 ET14 E20 E10 ET15. No condition.
-/
import Derived.Test.YtelgegefmjlimaaP8
import Derived.Test.YtelgegefmjlimaaP9
import Derived.Test.YtelgegefmjlimaaP10
import Derived.Test.YtelgegefmjlimaaP7
/-
  The walk of the reference's Compose: two changes, one behind the other. No condition.
-/
namespace Go.Eng
open Go Go.RowKit
def mV (x : Int × UInt8) : List Value := [.int .i64 x.1, .int .u8 (x.2.toNat : Int)]
theorem pend_more {A pre rest : List Atm} {ds : List UInt8} {next : Nat} (h : A = pre ++ (ds.map .d ++ rest)) (hn : next ≤ fromA pre) :
    ((bytesA A).take (fromA pre + ds.length)).drop next = ((bytesA A).take (fromA pre)).drop next ++ ds := by
  have hl := bytesA_len pre
  rw [h, bytesA_append, bytesA_append, bytesA_ds, ← hl, List.take_length_add_append, List.take_left, List.take_left, List.drop_append_of_le_length (by omega)]
theorem mids_at {A pre rest : List Atm} {ds : List UInt8} {c : UInt8} (h : A = pre ++ (ds.map .d ++ .p c :: rest)) : (midsA 0 A)[toA pre]? = some (-1, c) := by
  rw [h, midsA_append, List.getElem?_append_right (by rw [midsA_len]; exact Nat.le_refl _), midsA_len, Nat.sub_self, midsA_append, midsA_ds]
  rfl
theorem mids_atk {A pre rest : List Atm} {ds : List UInt8} (h : A = pre ++ (ds.map .d ++ .k :: rest)) : (midsA 0 A)[toA pre]? = some (((fromA pre + ds.length : Nat) : Int), 0) := by
  rw [h, midsA_append, List.getElem?_append_right (by rw [midsA_len]; exact Nat.le_refl _), midsA_len, Nat.sub_self, midsA_append, midsA_ds, fromA_d, Nat.zero_add]
  rfl
theorem midsTo_zero (P : List (List UInt8)) (D : List Bool) : midsTo P D 0 = [] := rfl
theorem midsTo_succ (P : List (List UInt8)) (D : List Bool) (p : Nat) : midsTo P D (p + 1) = midsTo P D p ++ (P.getD p []).map (fun c => (-1, c)) ++ (if D.getD p true = false then [((p : Int), 0)] else []) := rfl
end Go.Eng
namespace Go.Proofs.Ytelgegefmjlimaa
open Go Go.Eng
set_option maxRecDepth 100000
set_option maxHeartbeats 4000000
set_option linter.all false
attribute [local irreducible] WL WC WQ QFun QLoop Does Q1 QRound QAssign Go.Addr.add
attribute [local irreducible] sizesF sizesOf cmpT putsOf dropsOf bytesOf gapsOf midsTo
theorem mdrop_any {b : Nat} {c : Option Addr} {cp : Nat} (B : Bld) (d : UInt8) (hB : B.d.length ≤ 100000000000) (w0 : World) (m : Mem) (H : SHeap) :
    Does Try.prog 49 #[.pointer (some ⟨b, 0, none⟩), .int .u8 (d.toNat : Int)] w0 m (.blk b (.cells [.slice c B.l.length cp, str B.p, str B.d].toArray 109 (0, 0)) :: H)
      (fun v m' H' => v = .tuple #[] ∧ m' = m ∧ H' = .blk b (.cells [.slice c B.l.length cp, str B.p, str (B.d ++ [d])].toArray 109 (0, 0)) :: H) := by
  refine Does.of_body (args := [.pointer (some ⟨b, 0, none⟩), .int .u8 (d.toNat : Int)]) Try.func49 rfl Try.ntmps49 rfl ?_
  have hd1 : [d].length = 1 := rfl
  refine WC.drawE 11 ([.blk b (.cells [.slice c B.l.length cp, str B.p, str B.d].toArray 109 (0, 0))]) (H) rfl (by decide +kernel) (fun w h => Pick.sat (by iterate 60 (try (first | exact Pick.all | (apply Pick.take; (· (repeat (first | exact Out.here | apply Out.there)))) | apply Pick.drop))) h) ?_
  ((try (refine WE.calm 0 (by decide +kernel) rfl rfl (by decide +kernel) rfl (fun c h => by cases h) (by intro zm zF zle; ((repeat (refine sp ?_; intros)); exact WQ.q1 rfl)) ?_)); (try (refine WE.calm 1 (by decide +kernel) rfl rfl (by decide +kernel) rfl (fun c h => by cases h) (by intro zm zF zle; ((repeat (refine sp ?_; intros)); exact WQ.q1 rfl)) ?_)); (try (refine WE.calm 2 (by decide +kernel) rfl rfl (by decide +kernel) rfl (fun c h => by cases h) (by intro zm zF zle; ((repeat (refine sp ?_; intros)); exact WQ.q1 rfl)) ?_)); (try (refine WE.calm 3 (by decide +kernel) rfl rfl (by decide +kernel) rfl (fun c h => by cases h) (by intro zm zF zle; ((repeat (refine sp ?_; intros)); exact WQ.q1 rfl)) ?_)); (try (refine WE.calm 4 (by decide +kernel) rfl rfl (by decide +kernel) rfl (fun c h => by cases h) (by intro zm zF zle; ((repeat (refine sp ?_; intros)); exact WQ.q1 rfl)) ?_)); (try (refine WE.calm 5 (by decide +kernel) rfl rfl (by decide +kernel) rfl (fun c h => by cases h) (by intro zm zF zle; ((repeat (refine sp ?_; intros)); exact WQ.q1 rfl)) ?_)); (try (refine WE.calm 6 (by decide +kernel) rfl rfl (by decide +kernel) rfl (fun c h => by cases h) (by intro zm zF zle; ((repeat (refine sp ?_; intros)); exact WQ.q1 rfl)) ?_)); (try (refine WE.calm 7 (by decide +kernel) rfl rfl (by decide +kernel) rfl (fun c h => by cases h) (by intro zm zF zle; ((repeat (refine sp ?_; intros)); exact WQ.q1 rfl)) ?_)); (try (refine WE.calm 8 (by decide +kernel) rfl rfl (by decide +kernel) rfl (fun c h => by cases h) (by intro zm zF zle; ((repeat (refine sp ?_; intros)); exact WQ.q1 rfl)) ?_)); (try (refine WE.calm 9 (by decide +kernel) rfl rfl (by decide +kernel) rfl (fun c h => by cases h) (by intro zm zF zle; ((repeat (refine sp ?_; intros)); exact WQ.q1 rfl)) ?_)); (try (refine WE.calm 10 (by decide +kernel) rfl rfl (by decide +kernel) rfl (fun c h => by cases h) (by intro zm zF zle; ((repeat (refine sp ?_; intros)); exact WQ.q1 rfl)) ?_)); (try (refine WE.calm 11 (by decide +kernel) rfl rfl (by decide +kernel) rfl (fun c h => by cases h) (by intro zm zF zle; ((repeat (refine sp ?_; intros)); exact WQ.q1 rfl)) ?_)); (try (refine WE.calm 12 (by decide +kernel) rfl rfl (by decide +kernel) rfl (fun c h => by cases h) (by intro zm zF zle; ((repeat (refine sp ?_; intros)); exact WQ.q1 rfl)) ?_)); (try (refine WE.calm 13 (by decide +kernel) rfl rfl (by decide +kernel) rfl (fun c h => by cases h) (by intro zm zF zle; ((repeat (refine sp ?_; intros)); exact WQ.q1 rfl)) ?_)); (try (refine WE.calm 14 (by decide +kernel) rfl rfl (by decide +kernel) rfl (fun c h => by cases h) (by intro zm zF zle; ((repeat (refine sp ?_; intros)); exact WQ.q1 rfl)) ?_)); (try (refine WE.calm 15 (by decide +kernel) rfl rfl (by decide +kernel) rfl (fun c h => by cases h) (by intro zm zF zle; ((repeat (refine sp ?_; intros)); exact WQ.q1 rfl)) ?_)); (try (refine WE.calm 16 (by decide +kernel) rfl rfl (by decide +kernel) rfl (fun c h => by cases h) (by intro zm zF zle; ((repeat (refine sp ?_; intros)); exact WQ.q1 rfl)) ?_)); (try (refine WE.calm 17 (by decide +kernel) rfl rfl (by decide +kernel) rfl (fun c h => by cases h) (by intro zm zF zle; ((repeat (refine sp ?_; intros)); exact WQ.q1 rfl)) ?_)); (try (refine WE.calm 18 (by decide +kernel) rfl rfl (by decide +kernel) rfl (fun c h => by cases h) (by intro zm zF zle; ((repeat (refine sp ?_; intros)); exact WQ.q1 rfl)) ?_)); (try (refine WE.calm 19 (by decide +kernel) rfl rfl (by decide +kernel) rfl (fun c h => by cases h) (by intro zm zF zle; ((repeat (refine sp ?_; intros)); exact WQ.q1 rfl)) ?_)); (try (refine WE.calm 20 (by decide +kernel) rfl rfl (by decide +kernel) rfl (fun c h => by cases h) (by intro zm zF zle; ((repeat (refine sp ?_; intros)); exact WQ.q1 rfl)) ?_)); (try (refine WE.calm 21 (by decide +kernel) rfl rfl (by decide +kernel) rfl (fun c h => by cases h) (by intro zm zF zle; ((repeat (refine sp ?_; intros)); exact WQ.q1 rfl)) ?_)); (try (refine WE.calm 22 (by decide +kernel) rfl rfl (by decide +kernel) rfl (fun c h => by cases h) (by intro zm zF zle; ((repeat (refine sp ?_; intros)); exact WQ.q1 rfl)) ?_)); (try (refine WE.calm 23 (by decide +kernel) rfl rfl (by decide +kernel) rfl (fun c h => by cases h) (by intro zm zF zle; ((repeat (refine sp ?_; intros)); exact WQ.q1 rfl)) ?_)); (try (refine WE.calm 24 (by decide +kernel) rfl rfl (by decide +kernel) rfl (fun c h => by cases h) (by intro zm zF zle; ((repeat (refine sp ?_; intros)); exact WQ.q1 rfl)) ?_)); (try (refine WE.calm 25 (by decide +kernel) rfl rfl (by decide +kernel) rfl (fun c h => by cases h) (by intro zm zF zle; ((repeat (refine sp ?_; intros)); exact WQ.q1 rfl)) ?_)); (try (refine WE.calm 26 (by decide +kernel) rfl rfl (by decide +kernel) rfl (fun c h => by cases h) (by intro zm zF zle; ((repeat (refine sp ?_; intros)); exact WQ.q1 rfl)) ?_)); (try (refine WE.calm 27 (by decide +kernel) rfl rfl (by decide +kernel) rfl (fun c h => by cases h) (by intro zm zF zle; ((repeat (refine sp ?_; intros)); exact WQ.q1 rfl)) ?_)); (try (refine WE.calm 28 (by decide +kernel) rfl rfl (by decide +kernel) rfl (fun c h => by cases h) (by intro zm zF zle; ((repeat (refine sp ?_; intros)); exact WQ.q1 rfl)) ?_)); (try (refine WE.calm 29 (by decide +kernel) rfl rfl (by decide +kernel) rfl (fun c h => by cases h) (by intro zm zF zle; ((repeat (refine sp ?_; intros)); exact WQ.q1 rfl)) ?_)); (try (refine WE.calm 30 (by decide +kernel) rfl rfl (by decide +kernel) rfl (fun c h => by cases h) (by intro zm zF zle; ((repeat (refine sp ?_; intros)); exact WQ.q1 rfl)) ?_)); (try (refine WE.calm 31 (by decide +kernel) rfl rfl (by decide +kernel) rfl (fun c h => by cases h) (by intro zm zF zle; ((repeat (refine sp ?_; intros)); exact WQ.q1 rfl)) ?_)); (try (refine WE.calm 32 (by decide +kernel) rfl rfl (by decide +kernel) rfl (fun c h => by cases h) (by intro zm zF zle; ((repeat (refine sp ?_; intros)); exact WQ.q1 rfl)) ?_)); (try (refine WE.calm 33 (by decide +kernel) rfl rfl (by decide +kernel) rfl (fun c h => by cases h) (by intro zm zF zle; ((repeat (refine sp ?_; intros)); exact WQ.q1 rfl)) ?_)); (try (refine WE.calm 34 (by decide +kernel) rfl rfl (by decide +kernel) rfl (fun c h => by cases h) (by intro zm zF zle; ((repeat (refine sp ?_; intros)); exact WQ.q1 rfl)) ?_)); (try (refine WE.calm 35 (by decide +kernel) rfl rfl (by decide +kernel) rfl (fun c h => by cases h) (by intro zm zF zle; ((repeat (refine sp ?_; intros)); exact WQ.q1 rfl)) ?_)); (try (refine WE.calm 36 (by decide +kernel) rfl rfl (by decide +kernel) rfl (fun c h => by cases h) (by intro zm zF zle; ((repeat (refine sp ?_; intros)); exact WQ.q1 rfl)) ?_)); (try (refine WE.calm 37 (by decide +kernel) rfl rfl (by decide +kernel) rfl (fun c h => by cases h) (by intro zm zF zle; ((repeat (refine sp ?_; intros)); exact WQ.q1 rfl)) ?_)); (try (refine WE.calm 38 (by decide +kernel) rfl rfl (by decide +kernel) rfl (fun c h => by cases h) (by intro zm zF zle; ((repeat (refine sp ?_; intros)); exact WQ.q1 rfl)) ?_)); (try (refine WE.calm 39 (by decide +kernel) rfl rfl (by decide +kernel) rfl (fun c h => by cases h) (by intro zm zF zle; ((repeat (refine sp ?_; intros)); exact WQ.q1 rfl)) ?_)); (try (refine WE.calm 40 (by decide +kernel) rfl rfl (by decide +kernel) rfl (fun c h => by cases h) (by intro zm zF zle; ((repeat (refine sp ?_; intros)); exact WQ.q1 rfl)) ?_)); (try (refine WE.calm 41 (by decide +kernel) rfl rfl (by decide +kernel) rfl (fun c h => by cases h) (by intro zm zF zle; ((repeat (refine sp ?_; intros)); exact WQ.q1 rfl)) ?_)))
  refine WE.act1 6 (by decide +kernel) rfl rfl (fun c h => by cases h) ?_
  (refine st ?_; intros; rename_i q)
  refine WQ.acted (B := [.blk q (.cells [.int .u8 (d.toNat : Int)].toArray 5 (0, 0))]) (U := H) rfl (Mem.le.refl _) (fun w h => Pick.sat (by iterate 60 (try (first | exact Pick.all | (apply Pick.take; (· (repeat (first | exact Out.here | apply Out.there)))) | apply Pick.drop))) h) ?_
  ((try (refine WE.calm 0 (by decide +kernel) rfl rfl (by decide +kernel) rfl (fun c h => by cases h) (by intro zm zF zle; try refine WL.blkStr (s := [d]) rfl (by (repeat (first | exact List.Mem.head _ | apply List.Mem.tail))) rfl rfl rfl rfl rfl rfl rfl ?_; ((repeat (refine sp ?_; intros)); exact WQ.q1 rfl)) ?_)); (try (refine WE.calm 1 (by decide +kernel) rfl rfl (by decide +kernel) rfl (fun c h => by cases h) (by intro zm zF zle; try refine WL.blkStr (s := [d]) rfl (by (repeat (first | exact List.Mem.head _ | apply List.Mem.tail))) rfl rfl rfl rfl rfl rfl rfl ?_; ((repeat (refine sp ?_; intros)); exact WQ.q1 rfl)) ?_)); (try (refine WE.calm 2 (by decide +kernel) rfl rfl (by decide +kernel) rfl (fun c h => by cases h) (by intro zm zF zle; try refine WL.blkStr (s := [d]) rfl (by (repeat (first | exact List.Mem.head _ | apply List.Mem.tail))) rfl rfl rfl rfl rfl rfl rfl ?_; ((repeat (refine sp ?_; intros)); exact WQ.q1 rfl)) ?_)); (try (refine WE.calm 3 (by decide +kernel) rfl rfl (by decide +kernel) rfl (fun c h => by cases h) (by intro zm zF zle; try refine WL.blkStr (s := [d]) rfl (by (repeat (first | exact List.Mem.head _ | apply List.Mem.tail))) rfl rfl rfl rfl rfl rfl rfl ?_; ((repeat (refine sp ?_; intros)); exact WQ.q1 rfl)) ?_)); (try (refine WE.calm 4 (by decide +kernel) rfl rfl (by decide +kernel) rfl (fun c h => by cases h) (by intro zm zF zle; try refine WL.blkStr (s := [d]) rfl (by (repeat (first | exact List.Mem.head _ | apply List.Mem.tail))) rfl rfl rfl rfl rfl rfl rfl ?_; ((repeat (refine sp ?_; intros)); exact WQ.q1 rfl)) ?_)); (try (refine WE.calm 5 (by decide +kernel) rfl rfl (by decide +kernel) rfl (fun c h => by cases h) (by intro zm zF zle; try refine WL.blkStr (s := [d]) rfl (by (repeat (first | exact List.Mem.head _ | apply List.Mem.tail))) rfl rfl rfl rfl rfl rfl rfl ?_; ((repeat (refine sp ?_; intros)); exact WQ.q1 rfl)) ?_)); (try (refine WE.calm 6 (by decide +kernel) rfl rfl (by decide +kernel) rfl (fun c h => by cases h) (by intro zm zF zle; try refine WL.blkStr (s := [d]) rfl (by (repeat (first | exact List.Mem.head _ | apply List.Mem.tail))) rfl rfl rfl rfl rfl rfl rfl ?_; ((repeat (refine sp ?_; intros)); exact WQ.q1 rfl)) ?_)); (try (refine WE.calm 7 (by decide +kernel) rfl rfl (by decide +kernel) rfl (fun c h => by cases h) (by intro zm zF zle; try refine WL.blkStr (s := [d]) rfl (by (repeat (first | exact List.Mem.head _ | apply List.Mem.tail))) rfl rfl rfl rfl rfl rfl rfl ?_; ((repeat (refine sp ?_; intros)); exact WQ.q1 rfl)) ?_)); (try (refine WE.calm 8 (by decide +kernel) rfl rfl (by decide +kernel) rfl (fun c h => by cases h) (by intro zm zF zle; try refine WL.blkStr (s := [d]) rfl (by (repeat (first | exact List.Mem.head _ | apply List.Mem.tail))) rfl rfl rfl rfl rfl rfl rfl ?_; ((repeat (refine sp ?_; intros)); exact WQ.q1 rfl)) ?_)); (try (refine WE.calm 9 (by decide +kernel) rfl rfl (by decide +kernel) rfl (fun c h => by cases h) (by intro zm zF zle; try refine WL.blkStr (s := [d]) rfl (by (repeat (first | exact List.Mem.head _ | apply List.Mem.tail))) rfl rfl rfl rfl rfl rfl rfl ?_; ((repeat (refine sp ?_; intros)); exact WQ.q1 rfl)) ?_)); (try (refine WE.calm 10 (by decide +kernel) rfl rfl (by decide +kernel) rfl (fun c h => by cases h) (by intro zm zF zle; try refine WL.blkStr (s := [d]) rfl (by (repeat (first | exact List.Mem.head _ | apply List.Mem.tail))) rfl rfl rfl rfl rfl rfl rfl ?_; ((repeat (refine sp ?_; intros)); exact WQ.q1 rfl)) ?_)); (try (refine WE.calm 11 (by decide +kernel) rfl rfl (by decide +kernel) rfl (fun c h => by cases h) (by intro zm zF zle; try refine WL.blkStr (s := [d]) rfl (by (repeat (first | exact List.Mem.head _ | apply List.Mem.tail))) rfl rfl rfl rfl rfl rfl rfl ?_; ((repeat (refine sp ?_; intros)); exact WQ.q1 rfl)) ?_)); (try (refine WE.calm 12 (by decide +kernel) rfl rfl (by decide +kernel) rfl (fun c h => by cases h) (by intro zm zF zle; try refine WL.blkStr (s := [d]) rfl (by (repeat (first | exact List.Mem.head _ | apply List.Mem.tail))) rfl rfl rfl rfl rfl rfl rfl ?_; ((repeat (refine sp ?_; intros)); exact WQ.q1 rfl)) ?_)); (try (refine WE.calm 13 (by decide +kernel) rfl rfl (by decide +kernel) rfl (fun c h => by cases h) (by intro zm zF zle; try refine WL.blkStr (s := [d]) rfl (by (repeat (first | exact List.Mem.head _ | apply List.Mem.tail))) rfl rfl rfl rfl rfl rfl rfl ?_; ((repeat (refine sp ?_; intros)); exact WQ.q1 rfl)) ?_)); (try (refine WE.calm 14 (by decide +kernel) rfl rfl (by decide +kernel) rfl (fun c h => by cases h) (by intro zm zF zle; try refine WL.blkStr (s := [d]) rfl (by (repeat (first | exact List.Mem.head _ | apply List.Mem.tail))) rfl rfl rfl rfl rfl rfl rfl ?_; ((repeat (refine sp ?_; intros)); exact WQ.q1 rfl)) ?_)); (try (refine WE.calm 15 (by decide +kernel) rfl rfl (by decide +kernel) rfl (fun c h => by cases h) (by intro zm zF zle; try refine WL.blkStr (s := [d]) rfl (by (repeat (first | exact List.Mem.head _ | apply List.Mem.tail))) rfl rfl rfl rfl rfl rfl rfl ?_; ((repeat (refine sp ?_; intros)); exact WQ.q1 rfl)) ?_)); (try (refine WE.calm 16 (by decide +kernel) rfl rfl (by decide +kernel) rfl (fun c h => by cases h) (by intro zm zF zle; try refine WL.blkStr (s := [d]) rfl (by (repeat (first | exact List.Mem.head _ | apply List.Mem.tail))) rfl rfl rfl rfl rfl rfl rfl ?_; ((repeat (refine sp ?_; intros)); exact WQ.q1 rfl)) ?_)); (try (refine WE.calm 17 (by decide +kernel) rfl rfl (by decide +kernel) rfl (fun c h => by cases h) (by intro zm zF zle; try refine WL.blkStr (s := [d]) rfl (by (repeat (first | exact List.Mem.head _ | apply List.Mem.tail))) rfl rfl rfl rfl rfl rfl rfl ?_; ((repeat (refine sp ?_; intros)); exact WQ.q1 rfl)) ?_)); (try (refine WE.calm 18 (by decide +kernel) rfl rfl (by decide +kernel) rfl (fun c h => by cases h) (by intro zm zF zle; try refine WL.blkStr (s := [d]) rfl (by (repeat (first | exact List.Mem.head _ | apply List.Mem.tail))) rfl rfl rfl rfl rfl rfl rfl ?_; ((repeat (refine sp ?_; intros)); exact WQ.q1 rfl)) ?_)); (try (refine WE.calm 19 (by decide +kernel) rfl rfl (by decide +kernel) rfl (fun c h => by cases h) (by intro zm zF zle; try refine WL.blkStr (s := [d]) rfl (by (repeat (first | exact List.Mem.head _ | apply List.Mem.tail))) rfl rfl rfl rfl rfl rfl rfl ?_; ((repeat (refine sp ?_; intros)); exact WQ.q1 rfl)) ?_)); (try (refine WE.calm 20 (by decide +kernel) rfl rfl (by decide +kernel) rfl (fun c h => by cases h) (by intro zm zF zle; try refine WL.blkStr (s := [d]) rfl (by (repeat (first | exact List.Mem.head _ | apply List.Mem.tail))) rfl rfl rfl rfl rfl rfl rfl ?_; ((repeat (refine sp ?_; intros)); exact WQ.q1 rfl)) ?_)); (try (refine WE.calm 21 (by decide +kernel) rfl rfl (by decide +kernel) rfl (fun c h => by cases h) (by intro zm zF zle; try refine WL.blkStr (s := [d]) rfl (by (repeat (first | exact List.Mem.head _ | apply List.Mem.tail))) rfl rfl rfl rfl rfl rfl rfl ?_; ((repeat (refine sp ?_; intros)); exact WQ.q1 rfl)) ?_)); (try (refine WE.calm 22 (by decide +kernel) rfl rfl (by decide +kernel) rfl (fun c h => by cases h) (by intro zm zF zle; try refine WL.blkStr (s := [d]) rfl (by (repeat (first | exact List.Mem.head _ | apply List.Mem.tail))) rfl rfl rfl rfl rfl rfl rfl ?_; ((repeat (refine sp ?_; intros)); exact WQ.q1 rfl)) ?_)); (try (refine WE.calm 23 (by decide +kernel) rfl rfl (by decide +kernel) rfl (fun c h => by cases h) (by intro zm zF zle; try refine WL.blkStr (s := [d]) rfl (by (repeat (first | exact List.Mem.head _ | apply List.Mem.tail))) rfl rfl rfl rfl rfl rfl rfl ?_; ((repeat (refine sp ?_; intros)); exact WQ.q1 rfl)) ?_)); (try (refine WE.calm 24 (by decide +kernel) rfl rfl (by decide +kernel) rfl (fun c h => by cases h) (by intro zm zF zle; try refine WL.blkStr (s := [d]) rfl (by (repeat (first | exact List.Mem.head _ | apply List.Mem.tail))) rfl rfl rfl rfl rfl rfl rfl ?_; ((repeat (refine sp ?_; intros)); exact WQ.q1 rfl)) ?_)); (try (refine WE.calm 25 (by decide +kernel) rfl rfl (by decide +kernel) rfl (fun c h => by cases h) (by intro zm zF zle; try refine WL.blkStr (s := [d]) rfl (by (repeat (first | exact List.Mem.head _ | apply List.Mem.tail))) rfl rfl rfl rfl rfl rfl rfl ?_; ((repeat (refine sp ?_; intros)); exact WQ.q1 rfl)) ?_)); (try (refine WE.calm 26 (by decide +kernel) rfl rfl (by decide +kernel) rfl (fun c h => by cases h) (by intro zm zF zle; try refine WL.blkStr (s := [d]) rfl (by (repeat (first | exact List.Mem.head _ | apply List.Mem.tail))) rfl rfl rfl rfl rfl rfl rfl ?_; ((repeat (refine sp ?_; intros)); exact WQ.q1 rfl)) ?_)); (try (refine WE.calm 27 (by decide +kernel) rfl rfl (by decide +kernel) rfl (fun c h => by cases h) (by intro zm zF zle; try refine WL.blkStr (s := [d]) rfl (by (repeat (first | exact List.Mem.head _ | apply List.Mem.tail))) rfl rfl rfl rfl rfl rfl rfl ?_; ((repeat (refine sp ?_; intros)); exact WQ.q1 rfl)) ?_)); (try (refine WE.calm 28 (by decide +kernel) rfl rfl (by decide +kernel) rfl (fun c h => by cases h) (by intro zm zF zle; try refine WL.blkStr (s := [d]) rfl (by (repeat (first | exact List.Mem.head _ | apply List.Mem.tail))) rfl rfl rfl rfl rfl rfl rfl ?_; ((repeat (refine sp ?_; intros)); exact WQ.q1 rfl)) ?_)); (try (refine WE.calm 29 (by decide +kernel) rfl rfl (by decide +kernel) rfl (fun c h => by cases h) (by intro zm zF zle; try refine WL.blkStr (s := [d]) rfl (by (repeat (first | exact List.Mem.head _ | apply List.Mem.tail))) rfl rfl rfl rfl rfl rfl rfl ?_; ((repeat (refine sp ?_; intros)); exact WQ.q1 rfl)) ?_)); (try (refine WE.calm 30 (by decide +kernel) rfl rfl (by decide +kernel) rfl (fun c h => by cases h) (by intro zm zF zle; try refine WL.blkStr (s := [d]) rfl (by (repeat (first | exact List.Mem.head _ | apply List.Mem.tail))) rfl rfl rfl rfl rfl rfl rfl ?_; ((repeat (refine sp ?_; intros)); exact WQ.q1 rfl)) ?_)); (try (refine WE.calm 31 (by decide +kernel) rfl rfl (by decide +kernel) rfl (fun c h => by cases h) (by intro zm zF zle; try refine WL.blkStr (s := [d]) rfl (by (repeat (first | exact List.Mem.head _ | apply List.Mem.tail))) rfl rfl rfl rfl rfl rfl rfl ?_; ((repeat (refine sp ?_; intros)); exact WQ.q1 rfl)) ?_)); (try (refine WE.calm 32 (by decide +kernel) rfl rfl (by decide +kernel) rfl (fun c h => by cases h) (by intro zm zF zle; try refine WL.blkStr (s := [d]) rfl (by (repeat (first | exact List.Mem.head _ | apply List.Mem.tail))) rfl rfl rfl rfl rfl rfl rfl ?_; ((repeat (refine sp ?_; intros)); exact WQ.q1 rfl)) ?_)); (try (refine WE.calm 33 (by decide +kernel) rfl rfl (by decide +kernel) rfl (fun c h => by cases h) (by intro zm zF zle; try refine WL.blkStr (s := [d]) rfl (by (repeat (first | exact List.Mem.head _ | apply List.Mem.tail))) rfl rfl rfl rfl rfl rfl rfl ?_; ((repeat (refine sp ?_; intros)); exact WQ.q1 rfl)) ?_)); (try (refine WE.calm 34 (by decide +kernel) rfl rfl (by decide +kernel) rfl (fun c h => by cases h) (by intro zm zF zle; try refine WL.blkStr (s := [d]) rfl (by (repeat (first | exact List.Mem.head _ | apply List.Mem.tail))) rfl rfl rfl rfl rfl rfl rfl ?_; ((repeat (refine sp ?_; intros)); exact WQ.q1 rfl)) ?_)); (try (refine WE.calm 35 (by decide +kernel) rfl rfl (by decide +kernel) rfl (fun c h => by cases h) (by intro zm zF zle; try refine WL.blkStr (s := [d]) rfl (by (repeat (first | exact List.Mem.head _ | apply List.Mem.tail))) rfl rfl rfl rfl rfl rfl rfl ?_; ((repeat (refine sp ?_; intros)); exact WQ.q1 rfl)) ?_)); (try (refine WE.calm 36 (by decide +kernel) rfl rfl (by decide +kernel) rfl (fun c h => by cases h) (by intro zm zF zle; try refine WL.blkStr (s := [d]) rfl (by (repeat (first | exact List.Mem.head _ | apply List.Mem.tail))) rfl rfl rfl rfl rfl rfl rfl ?_; ((repeat (refine sp ?_; intros)); exact WQ.q1 rfl)) ?_)); (try (refine WE.calm 37 (by decide +kernel) rfl rfl (by decide +kernel) rfl (fun c h => by cases h) (by intro zm zF zle; try refine WL.blkStr (s := [d]) rfl (by (repeat (first | exact List.Mem.head _ | apply List.Mem.tail))) rfl rfl rfl rfl rfl rfl rfl ?_; ((repeat (refine sp ?_; intros)); exact WQ.q1 rfl)) ?_)); (try (refine WE.calm 38 (by decide +kernel) rfl rfl (by decide +kernel) rfl (fun c h => by cases h) (by intro zm zF zle; try refine WL.blkStr (s := [d]) rfl (by (repeat (first | exact List.Mem.head _ | apply List.Mem.tail))) rfl rfl rfl rfl rfl rfl rfl ?_; ((repeat (refine sp ?_; intros)); exact WQ.q1 rfl)) ?_)); (try (refine WE.calm 39 (by decide +kernel) rfl rfl (by decide +kernel) rfl (fun c h => by cases h) (by intro zm zF zle; try refine WL.blkStr (s := [d]) rfl (by (repeat (first | exact List.Mem.head _ | apply List.Mem.tail))) rfl rfl rfl rfl rfl rfl rfl ?_; ((repeat (refine sp ?_; intros)); exact WQ.q1 rfl)) ?_)); (try (refine WE.calm 40 (by decide +kernel) rfl rfl (by decide +kernel) rfl (fun c h => by cases h) (by intro zm zF zle; try refine WL.blkStr (s := [d]) rfl (by (repeat (first | exact List.Mem.head _ | apply List.Mem.tail))) rfl rfl rfl rfl rfl rfl rfl ?_; ((repeat (refine sp ?_; intros)); exact WQ.q1 rfl)) ?_)); (try (refine WE.calm 41 (by decide +kernel) rfl rfl (by decide +kernel) rfl (fun c h => by cases h) (by intro zm zF zle; try refine WL.blkStr (s := [d]) rfl (by (repeat (first | exact List.Mem.head _ | apply List.Mem.tail))) rfl rfl rfl rfl rfl rfl rfl ?_; ((repeat (refine sp ?_; intros)); exact WQ.q1 rfl)) ?_)))
  ((try (refine WE.calm 0 (by decide +kernel) rfl rfl (by decide +kernel) rfl (fun c h => by cases h) (by intro zm zF zle; ((repeat (refine sp ?_; intros)); exact WQ.q1 rfl)) ?_)); (try (refine WE.calm 1 (by decide +kernel) rfl rfl (by decide +kernel) rfl (fun c h => by cases h) (by intro zm zF zle; ((repeat (refine sp ?_; intros)); exact WQ.q1 rfl)) ?_)); (try (refine WE.calm 2 (by decide +kernel) rfl rfl (by decide +kernel) rfl (fun c h => by cases h) (by intro zm zF zle; ((repeat (refine sp ?_; intros)); exact WQ.q1 rfl)) ?_)); (try (refine WE.calm 3 (by decide +kernel) rfl rfl (by decide +kernel) rfl (fun c h => by cases h) (by intro zm zF zle; ((repeat (refine sp ?_; intros)); exact WQ.q1 rfl)) ?_)); (try (refine WE.calm 4 (by decide +kernel) rfl rfl (by decide +kernel) rfl (fun c h => by cases h) (by intro zm zF zle; ((repeat (refine sp ?_; intros)); exact WQ.q1 rfl)) ?_)); (try (refine WE.calm 5 (by decide +kernel) rfl rfl (by decide +kernel) rfl (fun c h => by cases h) (by intro zm zF zle; ((repeat (refine sp ?_; intros)); exact WQ.q1 rfl)) ?_)); (try (refine WE.calm 6 (by decide +kernel) rfl rfl (by decide +kernel) rfl (fun c h => by cases h) (by intro zm zF zle; ((repeat (refine sp ?_; intros)); exact WQ.q1 rfl)) ?_)); (try (refine WE.calm 7 (by decide +kernel) rfl rfl (by decide +kernel) rfl (fun c h => by cases h) (by intro zm zF zle; ((repeat (refine sp ?_; intros)); exact WQ.q1 rfl)) ?_)); (try (refine WE.calm 8 (by decide +kernel) rfl rfl (by decide +kernel) rfl (fun c h => by cases h) (by intro zm zF zle; ((repeat (refine sp ?_; intros)); exact WQ.q1 rfl)) ?_)); (try (refine WE.calm 9 (by decide +kernel) rfl rfl (by decide +kernel) rfl (fun c h => by cases h) (by intro zm zF zle; ((repeat (refine sp ?_; intros)); exact WQ.q1 rfl)) ?_)); (try (refine WE.calm 10 (by decide +kernel) rfl rfl (by decide +kernel) rfl (fun c h => by cases h) (by intro zm zF zle; ((repeat (refine sp ?_; intros)); exact WQ.q1 rfl)) ?_)); (try (refine WE.calm 11 (by decide +kernel) rfl rfl (by decide +kernel) rfl (fun c h => by cases h) (by intro zm zF zle; ((repeat (refine sp ?_; intros)); exact WQ.q1 rfl)) ?_)); (try (refine WE.calm 12 (by decide +kernel) rfl rfl (by decide +kernel) rfl (fun c h => by cases h) (by intro zm zF zle; ((repeat (refine sp ?_; intros)); exact WQ.q1 rfl)) ?_)); (try (refine WE.calm 13 (by decide +kernel) rfl rfl (by decide +kernel) rfl (fun c h => by cases h) (by intro zm zF zle; ((repeat (refine sp ?_; intros)); exact WQ.q1 rfl)) ?_)); (try (refine WE.calm 14 (by decide +kernel) rfl rfl (by decide +kernel) rfl (fun c h => by cases h) (by intro zm zF zle; ((repeat (refine sp ?_; intros)); exact WQ.q1 rfl)) ?_)); (try (refine WE.calm 15 (by decide +kernel) rfl rfl (by decide +kernel) rfl (fun c h => by cases h) (by intro zm zF zle; ((repeat (refine sp ?_; intros)); exact WQ.q1 rfl)) ?_)); (try (refine WE.calm 16 (by decide +kernel) rfl rfl (by decide +kernel) rfl (fun c h => by cases h) (by intro zm zF zle; ((repeat (refine sp ?_; intros)); exact WQ.q1 rfl)) ?_)); (try (refine WE.calm 17 (by decide +kernel) rfl rfl (by decide +kernel) rfl (fun c h => by cases h) (by intro zm zF zle; ((repeat (refine sp ?_; intros)); exact WQ.q1 rfl)) ?_)); (try (refine WE.calm 18 (by decide +kernel) rfl rfl (by decide +kernel) rfl (fun c h => by cases h) (by intro zm zF zle; ((repeat (refine sp ?_; intros)); exact WQ.q1 rfl)) ?_)); (try (refine WE.calm 19 (by decide +kernel) rfl rfl (by decide +kernel) rfl (fun c h => by cases h) (by intro zm zF zle; ((repeat (refine sp ?_; intros)); exact WQ.q1 rfl)) ?_)); (try (refine WE.calm 20 (by decide +kernel) rfl rfl (by decide +kernel) rfl (fun c h => by cases h) (by intro zm zF zle; ((repeat (refine sp ?_; intros)); exact WQ.q1 rfl)) ?_)); (try (refine WE.calm 21 (by decide +kernel) rfl rfl (by decide +kernel) rfl (fun c h => by cases h) (by intro zm zF zle; ((repeat (refine sp ?_; intros)); exact WQ.q1 rfl)) ?_)); (try (refine WE.calm 22 (by decide +kernel) rfl rfl (by decide +kernel) rfl (fun c h => by cases h) (by intro zm zF zle; ((repeat (refine sp ?_; intros)); exact WQ.q1 rfl)) ?_)); (try (refine WE.calm 23 (by decide +kernel) rfl rfl (by decide +kernel) rfl (fun c h => by cases h) (by intro zm zF zle; ((repeat (refine sp ?_; intros)); exact WQ.q1 rfl)) ?_)); (try (refine WE.calm 24 (by decide +kernel) rfl rfl (by decide +kernel) rfl (fun c h => by cases h) (by intro zm zF zle; ((repeat (refine sp ?_; intros)); exact WQ.q1 rfl)) ?_)); (try (refine WE.calm 25 (by decide +kernel) rfl rfl (by decide +kernel) rfl (fun c h => by cases h) (by intro zm zF zle; ((repeat (refine sp ?_; intros)); exact WQ.q1 rfl)) ?_)); (try (refine WE.calm 26 (by decide +kernel) rfl rfl (by decide +kernel) rfl (fun c h => by cases h) (by intro zm zF zle; ((repeat (refine sp ?_; intros)); exact WQ.q1 rfl)) ?_)); (try (refine WE.calm 27 (by decide +kernel) rfl rfl (by decide +kernel) rfl (fun c h => by cases h) (by intro zm zF zle; ((repeat (refine sp ?_; intros)); exact WQ.q1 rfl)) ?_)); (try (refine WE.calm 28 (by decide +kernel) rfl rfl (by decide +kernel) rfl (fun c h => by cases h) (by intro zm zF zle; ((repeat (refine sp ?_; intros)); exact WQ.q1 rfl)) ?_)); (try (refine WE.calm 29 (by decide +kernel) rfl rfl (by decide +kernel) rfl (fun c h => by cases h) (by intro zm zF zle; ((repeat (refine sp ?_; intros)); exact WQ.q1 rfl)) ?_)); (try (refine WE.calm 30 (by decide +kernel) rfl rfl (by decide +kernel) rfl (fun c h => by cases h) (by intro zm zF zle; ((repeat (refine sp ?_; intros)); exact WQ.q1 rfl)) ?_)); (try (refine WE.calm 31 (by decide +kernel) rfl rfl (by decide +kernel) rfl (fun c h => by cases h) (by intro zm zF zle; ((repeat (refine sp ?_; intros)); exact WQ.q1 rfl)) ?_)); (try (refine WE.calm 32 (by decide +kernel) rfl rfl (by decide +kernel) rfl (fun c h => by cases h) (by intro zm zF zle; ((repeat (refine sp ?_; intros)); exact WQ.q1 rfl)) ?_)); (try (refine WE.calm 33 (by decide +kernel) rfl rfl (by decide +kernel) rfl (fun c h => by cases h) (by intro zm zF zle; ((repeat (refine sp ?_; intros)); exact WQ.q1 rfl)) ?_)); (try (refine WE.calm 34 (by decide +kernel) rfl rfl (by decide +kernel) rfl (fun c h => by cases h) (by intro zm zF zle; ((repeat (refine sp ?_; intros)); exact WQ.q1 rfl)) ?_)); (try (refine WE.calm 35 (by decide +kernel) rfl rfl (by decide +kernel) rfl (fun c h => by cases h) (by intro zm zF zle; ((repeat (refine sp ?_; intros)); exact WQ.q1 rfl)) ?_)); (try (refine WE.calm 36 (by decide +kernel) rfl rfl (by decide +kernel) rfl (fun c h => by cases h) (by intro zm zF zle; ((repeat (refine sp ?_; intros)); exact WQ.q1 rfl)) ?_)); (try (refine WE.calm 37 (by decide +kernel) rfl rfl (by decide +kernel) rfl (fun c h => by cases h) (by intro zm zF zle; ((repeat (refine sp ?_; intros)); exact WQ.q1 rfl)) ?_)); (try (refine WE.calm 38 (by decide +kernel) rfl rfl (by decide +kernel) rfl (fun c h => by cases h) (by intro zm zF zle; ((repeat (refine sp ?_; intros)); exact WQ.q1 rfl)) ?_)); (try (refine WE.calm 39 (by decide +kernel) rfl rfl (by decide +kernel) rfl (fun c h => by cases h) (by intro zm zF zle; ((repeat (refine sp ?_; intros)); exact WQ.q1 rfl)) ?_)); (try (refine WE.calm 40 (by decide +kernel) rfl rfl (by decide +kernel) rfl (fun c h => by cases h) (by intro zm zF zle; ((repeat (refine sp ?_; intros)); exact WQ.q1 rfl)) ?_)); (try (refine WE.calm 41 (by decide +kernel) rfl rfl (by decide +kernel) rfl (fun c h => by cases h) (by intro zm zF zle; ((repeat (refine sp ?_; intros)); exact WQ.q1 rfl)) ?_)))
  refine WE.done (by decide +kernel) ?_
  (try (refine st ?_; intros))
  exact q_finNorm0 (H0 := .blk b (.cells [.slice c B.l.length cp, str B.p, str (B.d ++ [d])].toArray 109 (0, 0)) :: H) ⟨rfl, rfl, rfl⟩ (hd := (fun w h => Pick.sat (by iterate 60 (try (first | exact Pick.all | (apply Pick.take; (· (repeat (first | exact Out.here | apply Out.there)))) | apply Pick.drop))) h))
theorem sq_E16_1 {G : Prop} (h : G := by (repeat (first | (refine sp ?_; (repeat intro zzc)) | (refine iF 14 rfl ?_; refine w_callG Try.func14 ?_ (hs := refSizes_any (by assumption) _ _ _ (by assumption))))); exact WQ.q1 rfl) : G := h
theorem st_E16_1 {G G' : Prop} (next : G') (h : Bx G' → G := by intro zzn; (first | ((refine st ?_; (repeat intro zzc)); (try ((first | (refine iF 14 rfl ?_; refine w_callG Try.func14 ?_ (hs := refSizes_any (by assumption) _ _ _ (by assumption))) | ((refine iDraw ?_; (first | refine WC.drawAll rfl (by decide +kernel) ?_ | refine WC.draw 1 rfl (by decide +kernel) ?_ | refine WC.draw 2 rfl (by decide +kernel) ?_ | refine WC.draw 3 rfl (by decide +kernel) ?_ | refine WC.draw 4 rfl (by decide +kernel) ?_ | refine WC.draw 5 rfl (by decide +kernel) ?_ | refine WC.draw 6 rfl (by decide +kernel) ?_ | refine WC.draw 7 rfl (by decide +kernel) ?_ | refine WC.draw 8 rfl (by decide +kernel) ?_ | refine WC.draw 9 rfl (by decide +kernel) ?_ | refine WC.draw 10 rfl (by decide +kernel) ?_ | refine WC.draw 11 rfl (by decide +kernel) ?_ | refine WC.draw 12 rfl (by decide +kernel) ?_ | refine WC.draw 13 rfl (by decide +kernel) ?_ | refine WC.draw 14 rfl (by decide +kernel) ?_ | refine WC.draw 15 rfl (by decide +kernel) ?_ | refine WC.draw 16 rfl (by decide +kernel) ?_ | refine WC.draw 17 rfl (by decide +kernel) ?_ | refine WC.draw 18 rfl (by decide +kernel) ?_ | refine WC.draw 19 rfl (by decide +kernel) ?_ | refine WC.draw 20 rfl (by decide +kernel) ?_ | refine WC.draw 21 rfl (by decide +kernel) ?_ | refine WC.draw 22 rfl (by decide +kernel) ?_ | refine WC.draw 23 rfl (by decide +kernel) ?_ | refine WC.draw 24 rfl (by decide +kernel) ?_)); (repeat (refine WD.cons rfl (fun c h => by cases h) sq_E16_1 ?_)); refine WD.nil ?_)); (try (refine st ?_; (repeat intro zzc)))))) | ((first | (refine iF 14 rfl ?_; refine w_callG Try.func14 ?_ (hs := refSizes_any (by assumption) _ _ _ (by assumption))) | ((refine iDraw ?_; (first | refine WC.drawAll rfl (by decide +kernel) ?_ | refine WC.draw 1 rfl (by decide +kernel) ?_ | refine WC.draw 2 rfl (by decide +kernel) ?_ | refine WC.draw 3 rfl (by decide +kernel) ?_ | refine WC.draw 4 rfl (by decide +kernel) ?_ | refine WC.draw 5 rfl (by decide +kernel) ?_ | refine WC.draw 6 rfl (by decide +kernel) ?_ | refine WC.draw 7 rfl (by decide +kernel) ?_ | refine WC.draw 8 rfl (by decide +kernel) ?_ | refine WC.draw 9 rfl (by decide +kernel) ?_ | refine WC.draw 10 rfl (by decide +kernel) ?_ | refine WC.draw 11 rfl (by decide +kernel) ?_ | refine WC.draw 12 rfl (by decide +kernel) ?_ | refine WC.draw 13 rfl (by decide +kernel) ?_ | refine WC.draw 14 rfl (by decide +kernel) ?_ | refine WC.draw 15 rfl (by decide +kernel) ?_ | refine WC.draw 16 rfl (by decide +kernel) ?_ | refine WC.draw 17 rfl (by decide +kernel) ?_ | refine WC.draw 18 rfl (by decide +kernel) ?_ | refine WC.draw 19 rfl (by decide +kernel) ?_ | refine WC.draw 20 rfl (by decide +kernel) ?_ | refine WC.draw 21 rfl (by decide +kernel) ?_ | refine WC.draw 22 rfl (by decide +kernel) ?_ | refine WC.draw 23 rfl (by decide +kernel) ?_ | refine WC.draw 24 rfl (by decide +kernel) ?_)); (repeat (refine WD.cons rfl (fun c h => by cases h) sq_E16_1 ?_)); refine WD.nil ?_)); (try (refine st ?_; (repeat intro zzc))))); (repeat ((first | (refine iF 14 rfl ?_; refine w_callG Try.func14 ?_ (hs := refSizes_any (by assumption) _ _ _ (by assumption))) | ((refine iDraw ?_; (first | refine WC.drawAll rfl (by decide +kernel) ?_ | refine WC.draw 1 rfl (by decide +kernel) ?_ | refine WC.draw 2 rfl (by decide +kernel) ?_ | refine WC.draw 3 rfl (by decide +kernel) ?_ | refine WC.draw 4 rfl (by decide +kernel) ?_ | refine WC.draw 5 rfl (by decide +kernel) ?_ | refine WC.draw 6 rfl (by decide +kernel) ?_ | refine WC.draw 7 rfl (by decide +kernel) ?_ | refine WC.draw 8 rfl (by decide +kernel) ?_ | refine WC.draw 9 rfl (by decide +kernel) ?_ | refine WC.draw 10 rfl (by decide +kernel) ?_ | refine WC.draw 11 rfl (by decide +kernel) ?_ | refine WC.draw 12 rfl (by decide +kernel) ?_ | refine WC.draw 13 rfl (by decide +kernel) ?_ | refine WC.draw 14 rfl (by decide +kernel) ?_ | refine WC.draw 15 rfl (by decide +kernel) ?_ | refine WC.draw 16 rfl (by decide +kernel) ?_ | refine WC.draw 17 rfl (by decide +kernel) ?_ | refine WC.draw 18 rfl (by decide +kernel) ?_ | refine WC.draw 19 rfl (by decide +kernel) ?_ | refine WC.draw 20 rfl (by decide +kernel) ?_ | refine WC.draw 21 rfl (by decide +kernel) ?_ | refine WC.draw 22 rfl (by decide +kernel) ?_ | refine WC.draw 23 rfl (by decide +kernel) ?_ | refine WC.draw 24 rfl (by decide +kernel) ?_)); (repeat (refine WD.cons rfl (fun c h => by cases h) sq_E16_1 ?_)); refine WD.nil ?_)); (try (refine st ?_; (repeat intro zzc))))); (repeat revert zzc); exact zzn.out) : G := h ⟨next⟩
theorem rCompose_any {pa pb : Option Addr} {ca cb : Nat} {a b : List Stp} {fa ta fb tb : Int} (hfa : Fit a) (hfb : Fit b) (hsa : sizesOf a = some (fa, ta)) (hsb : sizesOf b = some (fb, tb)) (w0 : World) (m : Mem) (H : SHeap) (hra : RowR w0 m H 3 pa (a.map Stp.cs)) (hrb : RowR w0 m H 3 pb (b.map Stp.cs)) :
    Does Try.prog 18 #[.slice pa a.length ca, .slice pb b.length cb] w0 m H (ListP 84 (comP a b) .i64 m H) := by
  refine Does.of_body (args := [.slice pa a.length ca, .slice pb b.length cb]) Try.func18 rfl Try.ntmps18 rfl ?_
  have e2 : szR (sizesOf a) = .tuple #[.int .i64 fa, .int .i64 ta, .bool true] := by rw [hsa]; rfl
  have e3 : szR (sizesOf b) = .tuple #[.int .i64 fb, .int .i64 tb, .bool true] := by rw [hsb]; rfl
  obtain ⟨hoka, hal, hpla, hfra, htoa, _, _, _, _⟩ := sized hsa
  obtain ⟨hokb, hbl, hplb, hfrb, htob, _, _, _, _⟩ := sized hsb
  (try (refine st_E16_1 ?_; intros))
  rw [e2]
  (try (refine st_E16_1 ?_; intros))
  rw [e3]
  by_cases hmf : ta = fb
  · (try (refine st_E16_1 ?_; intros))
    refine w_callF Try.func43 ?_ (hs := say_any hfa hsa _ _ _ hra)
    rintro _ m _ ⟨rfl, q2, q4, q6, rfl, rfl⟩
    (try (refine st_E16_1 ?_; intros))
    refine w_callF Try.func43 ?_ (hs := say_any hfb hsb _ _ _ hrb.more.more.more)
    rintro _ m _ ⟨rfl, z2, z4, z6, rfl, rfl⟩
    have hda := drops_from a hoka
    have hdb := drops_from b hokb
    obtain ⟨la1, la2⟩ := said_len (gapsOf a)
    obtain ⟨lb1, lb2⟩ := said_len (gapsOf b)
    have hma := mids_all a
    obtain ⟨na1, na2⟩ := nf_sizes a hoka
    have hba := bytes_nf (gapsOf a)
    have hpb : posOf (gapsOf b) = (putsOf (gapsOf b)).zip ((dropsOf (gapsOf b)).zip (bytesOf (gapsOf b))) := rfl
    have hlb : lastOf (gapsOf b) = (putsOf (gapsOf b)).getD (dropsOf (gapsOf b)).length [] := rfl
    have hcom : comP a b = match cmpT Bld.start (nfOf (gapsOf a)) (sdA (posOf (gapsOf b)) (lastOf (gapsOf b))) with
        | none => .inl 270
        | some l => .inr l := by
      simp only [comP, hsa, hsb]
      rw [if_neg (fun h => h hmf), sd_atoms]
      cases cmpT Bld.start (nfOf (gapsOf a)) (nfOf (gapsOf b)) <;> rfl
    generalize putsOf (gapsOf a) = PX at *
    generalize dropsOf (gapsOf a) = DX at *
    generalize bytesOf (gapsOf a) = BX at *
    generalize putsOf (gapsOf b) = PY at *
    generalize dropsOf (gapsOf b) = DY at *
    generalize bytesOf (gapsOf b) = BY at *
    have hPl : (PX.map sV).length = PX.length := by simp
    have hDl : (DX.map oV).length = DX.length := by simp
    have hBl : (BX.map uV).length = BX.length := by simp
    have hPl2 : (PY.map sV).length = PY.length := by simp
    have hDl2 : (DY.map oV).length = DY.length := by simp
    have hBl2 : (BY.map uV).length = BY.length := by simp
    have hMl : (midsTo PX DX PX.length).length = toA (atomsOf a) := by rw [hma, midsA_len, na2]
    have hMle : ∀ p, p ≤ PX.length → (midsTo PX DX p).length ≤ toA (atomsOf a) := by
      intro p hp
      rw [← hMl]
      obtain ⟨d, hd⟩ : ∃ d, PX.length = p + d := ⟨PX.length - p, by omega⟩
      rw [hd]
      clear hd hp
      induction d with
      | zero => exact Nat.le_refl _
      | succ d ih => rw [← Nat.add_assoc]; refine Nat.le_trans ih ?_; rw [midsTo_succ]; simp only [List.length_append]; omega
    (refine st_E16_1 ?_; intros; rename_i x y)
    refine WC.newRow (T := 107) (sz := 2) ?_
    refine WC.loopH [(15, .int .i64 ((0) : Int)), (14, .slice (none) (0) (0)), (13, .pointer (some ⟨y, 0, none⟩)), (12, .pointer (some ⟨x, 0, none⟩))] ?_ ?_ (fun j r ds m' H' => ∃ (p : Nat) (cl : Option Addr) (pl : Nat) (n : Nat) (M : List (Int × UInt8)), j = PX.length - p ∧ r = [(15, .int .i64 (p : Int)), (14, .slice cl n pl), (13, .pointer (some ⟨y, 0, none⟩)), (12, .pointer (some ⟨x, 0, none⟩))] ∧ ds = [] ∧ m = m' ∧ H' = .row cl pl 107 2 (M.map mV) :: .blk x (.cells [.slice (some ⟨q2, 0, none⟩) PX.length PX.length, .slice (some ⟨q4, 0, none⟩) DX.length DX.length, .slice (some ⟨q6, 0, none⟩) BX.length BX.length].toArray 92 (0, 0)) :: .row (some ⟨q2, 0, none⟩) PX.length 9 1 (PX.map sV) :: .row (some ⟨q4, 0, none⟩) DX.length 4 1 (DX.map oV) :: .row (some ⟨q6, 0, none⟩) BX.length 5 1 (BX.map uV) :: .blk y (.cells [.slice (some ⟨z2, 0, none⟩) PY.length PY.length, .slice (some ⟨z4, 0, none⟩) DY.length DY.length, .slice (some ⟨z6, 0, none⟩) BY.length BY.length].toArray 92 (0, 0)) :: .row (some ⟨z2, 0, none⟩) PY.length 9 1 (PY.map sV) :: .row (some ⟨z4, 0, none⟩) DY.length 4 1 (DY.map oV) :: .row (some ⟨z6, 0, none⟩) BY.length 5 1 (BY.map uV) :: H ∧ (p ≤ PX.length) ∧ (M = midsTo PX DX p) ∧ (n = M.length)) (PX.length - (0)) ⟨0, none, 0, 0, ([] : List (Int × UInt8)), rfl, rfl, rfl, rfl, rfl, by omega, (midsTo_zero PX DX).symm, rfl⟩ ?_
    · (repeat (first | exact Env.Sub.nil | refine Env.Sub.cons rfl ?_))
    · exact (fun w h => Pick.sat (by iterate 60 (try (first | exact Pick.all | (apply Pick.take; (· (repeat (first | exact Out.here | apply Out.there)))) | apply Pick.drop))) h)
    rintro j r ds m' H' ⟨p, cl, pl, n, M, rfl, rfl, rfl, rfl, rfl, hp, hM, hn⟩
    · subst hn
      subst hM
      by_cases hlt : p < PX.length
      · have hget : (PX.map sV)[p]? = some [str PX[p]] := by rw [List.getElem?_map, List.getElem?_eq_getElem hlt]; rfl
        have hnx := midsTo_succ PX DX p
        have hnl := hMle (p + 1) (by omega)
        have ePg : PX.getD p [] = PX[p] := by rw [List.getD_eq_getElem?_getD, List.getElem?_eq_getElem hlt]; rfl
        rw [ePg] at hnx
        have hnl2 := congrArg List.length hnx
        simp only [List.length_append, List.length_map] at hnl2
        (try (refine st_E16_1 ?_; intros))
        refine WC.loopH [(16, .int .i64 ((0) : Int)), (15, .int .i64 (p : Int)), (14, .slice (cl) ((midsTo PX DX p).length) (pl)), (13, .pointer (some ⟨y, 0, none⟩)), (12, .pointer (some ⟨x, 0, none⟩))] ?_ ?_ (fun j r ds m' H' => ∃ (k : Nat) (cl : Option Addr) (pl : Nat) (n : Nat) (M : List (Int × UInt8)), j = PX[p].length - k ∧ r = [(16, .int .i64 (k : Int)), (15, .int .i64 (p : Int)), (14, .slice cl n pl), (13, .pointer (some ⟨y, 0, none⟩)), (12, .pointer (some ⟨x, 0, none⟩))] ∧ ds = [] ∧ m = m' ∧ H' = .row cl pl 107 2 (M.map mV) :: .blk x (.cells [.slice (some ⟨q2, 0, none⟩) PX.length PX.length, .slice (some ⟨q4, 0, none⟩) DX.length DX.length, .slice (some ⟨q6, 0, none⟩) BX.length BX.length].toArray 92 (0, 0)) :: .row (some ⟨q2, 0, none⟩) PX.length 9 1 (PX.map sV) :: .row (some ⟨q4, 0, none⟩) DX.length 4 1 (DX.map oV) :: .row (some ⟨q6, 0, none⟩) BX.length 5 1 (BX.map uV) :: .blk y (.cells [.slice (some ⟨z2, 0, none⟩) PY.length PY.length, .slice (some ⟨z4, 0, none⟩) DY.length DY.length, .slice (some ⟨z6, 0, none⟩) BY.length BY.length].toArray 92 (0, 0)) :: .row (some ⟨z2, 0, none⟩) PY.length 9 1 (PY.map sV) :: .row (some ⟨z4, 0, none⟩) DY.length 4 1 (DY.map oV) :: .row (some ⟨z6, 0, none⟩) BY.length 5 1 (BY.map uV) :: H ∧ (k ≤ PX[p].length) ∧ (M = midsTo PX DX p ++ (PX[p].take k).map fun c => (-1, c)) ∧ (n = M.length)) (PX[p].length - (0)) ⟨0, cl, pl, (midsTo PX DX p).length, midsTo PX DX p, rfl, rfl, rfl, rfl, rfl, by omega, by simp, rfl⟩ ?_
        · (repeat (first | exact Env.Sub.nil | refine Env.Sub.cons rfl ?_))
        · exact (fun w h => Pick.sat (by iterate 60 (try (first | exact Pick.all | (apply Pick.take; (· (repeat (first | exact Out.here | apply Out.there)))) | apply Pick.drop))) h)
        rintro j r ds m' H' ⟨k, cl, pl, n, M, rfl, rfl, rfl, rfl, rfl, hk, hM, hn⟩
        subst hn
        have hml : (M.map mV).length = M.length := by simp
        have hMl3 : M.length = (midsTo PX DX p).length + k := by rw [hM]; simp; omega
        by_cases hk2 : k < PX[p].length
        · have hg := gb_at hk2
          (refine st_E16_1 ?_; intros; rename_i c2 p2)
          have em : M.map mV ++ [[.int .i64 (-1), .int .u8 (gb PX[p] k : Int)]] = (M ++ [(-1, PX[p][k])]).map mV := by rw [List.map_append, hg]; rfl
          rw [em, hml]
          refine WQ.next (PX[p].length - (k + 1)) ⟨k + 1, c2, p2, M.length + 1, M ++ [(-1, PX[p][k])], rfl, rfl, rfl, rfl, rfl, ?_, ?_, ?_⟩ (by omega) (by (repeat (first | exact Env.Sub.nil | refine Env.Sub.cons rfl ?_))) (fun w h => Pick.sat (by iterate 60 (try (first | exact Pick.all | (apply Pick.take; (· (repeat (first | exact Out.here | apply Out.there)))) | apply Pick.drop))) h)
          · omega
          · rw [hM, List.take_succ_eq_append_getElem hk2, List.map_append, List.append_assoc]; rfl
          · simp
        · obtain rfl : k = PX[p].length := by omega
          rw [List.take_length] at hM
          by_cases hpd : p < DX.length
          · have hgd : (DX.map oV)[p]? = some [.bool DX[p]] := by rw [List.getElem?_map, List.getElem?_eq_getElem hpd]; rfl
            have eDg : DX.getD p true = DX[p] := by rw [List.getD_eq_getElem?_getD, List.getElem?_eq_getElem hpd]; rfl
            rw [eDg] at hnx hnl2
            cases hdp : DX[p] with
            | true =>
              rw [hdp] at hgd hnx
              (try (refine st_E16_1 ?_; intros))
              refine WQ.next (PX.length - (p + 1)) ⟨p + 1, cl, pl, M.length, M, rfl, rfl, rfl, rfl, rfl, ?_, ?_, ?_⟩ (by omega) (by (repeat (first | exact Env.Sub.nil | refine Env.Sub.cons rfl ?_))) (fun w h => Pick.sat (by iterate 60 (try (first | exact Pick.all | (apply Pick.take; (· (repeat (first | exact Out.here | apply Out.there)))) | apply Pick.drop))) h)
              · omega
              · rw [hnx, hM]; simp
              · rfl
            | false =>
              rw [hdp] at hgd hnx hnl2
              simp only [if_true, List.length_cons, List.length_nil] at hnl2
              (refine st_E16_1 ?_; intros; rename_i c2 p2)
              have em : M.map mV ++ [[.int .i64 (p : Int), .int .u8 0]] = (M ++ [((p : Int), 0)]).map mV := by rw [List.map_append]; rfl
              rw [em, hml]
              refine WQ.next (PX.length - (p + 1)) ⟨p + 1, c2, p2, M.length + 1, M ++ [((p : Int), 0)], rfl, rfl, rfl, rfl, rfl, ?_, ?_, ?_⟩ (by omega) (by (repeat (first | exact Env.Sub.nil | refine Env.Sub.cons rfl ?_))) (fun w h => Pick.sat (by iterate 60 (try (first | exact Pick.all | (apply Pick.take; (· (repeat (first | exact Out.here | apply Out.there)))) | apply Pick.drop))) h)
              · omega
              · rw [hnx, hM]; simp
              · simp
          · have eDg : DX.getD p true = true := by rw [List.getD_eq_getElem?_getD, List.getElem?_eq_none (by omega)]; rfl
            rw [eDg] at hnx
            (try (refine st_E16_1 ?_; intros))
            refine WQ.next (PX.length - (p + 1)) ⟨p + 1, cl, pl, M.length, M, rfl, rfl, rfl, rfl, rfl, ?_, ?_, ?_⟩ (by omega) (by (repeat (first | exact Env.Sub.nil | refine Env.Sub.cons rfl ?_))) (fun w h => Pick.sat (by iterate 60 (try (first | exact Pick.all | (apply Pick.take; (· (repeat (first | exact Out.here | apply Out.there)))) | apply Pick.drop))) h)
            · omega
            · rw [hnx, hM]; simp
            · rfl
      · obtain rfl : p = PX.length := by omega
        rw [hma] at hMl ⊢
        have hla2 : (nfOf (gapsOf a)).length ≤ 200000 := by have := atoms_le (nfOf (gapsOf a)); omega
        have hlb2 : (sdA (posOf (gapsOf b)) (lastOf (gapsOf b))).length ≤ 200000 := by
          rw [sd_atoms]; have := atoms_le (nfOf (gapsOf b)); obtain ⟨nb1, nb2⟩ := nf_sizes b hokb; omega
        clear hMle hma
        generalize hAA : nfOf (gapsOf a) = A at *
        generalize hMM : midsA 0 A = M at *
        generalize posOf (gapsOf b) = YP at *
        generalize lastOf (gapsOf b) = YL at *
        have hml : (M.map mV).length = M.length := by simp
        have hMA : M.length = toA A := by omega
        have hMD : M.length = DY.length := by omega
        have hYl : YP.length = DY.length := by rw [hpb]; simp only [List.length_zip]; omega
        (refine st_E16_1 ?_; intros; rename_i bm)
        refine WC.newRow (T := 84) (sz := 3) ?_
        refine WC.loopH [(19, .int .i64 ((0) : Int)), (18, .int .i64 ((0) : Int)), (17, .pointer (some ⟨bm, 0, none⟩)), (14, .slice cl M.length pl), (13, .pointer (some ⟨y, 0, none⟩)), (12, .pointer (some ⟨x, 0, none⟩))] ?_ ?_ (fun j r ds m' H' => ∃ (q : Nat) (next : Nat) (c : Option Addr) (cp : Nat) (B : Bld) (k : Nat) (pre : List Atm) (xs : List Atm), j = M.length + 1 - q ∧ r = [(19, .int .i64 (q : Int)), (18, .int .i64 (next : Int)), (17, .pointer (some ⟨bm, 0, none⟩)), (14, .slice cl M.length pl), (13, .pointer (some ⟨y, 0, none⟩)), (12, .pointer (some ⟨x, 0, none⟩))] ∧ ds = [] ∧ m = m' ∧ H' = .blk bm (.cells [.slice c B.l.length cp, str B.p, str B.d].toArray 109 (0, 0)) :: .row c cp 84 3 (B.l.map Stp.cs) :: .row cl pl 107 2 (M.map mV) :: .blk x (.cells [.slice (some ⟨q2, 0, none⟩) PX.length PX.length, .slice (some ⟨q4, 0, none⟩) DX.length DX.length, .slice (some ⟨q6, 0, none⟩) BX.length BX.length].toArray 92 (0, 0)) :: .row (some ⟨q2, 0, none⟩) PX.length 9 1 (PX.map sV) :: .row (some ⟨q4, 0, none⟩) DX.length 4 1 (DX.map oV) :: .row (some ⟨q6, 0, none⟩) BX.length 5 1 (BX.map uV) :: .blk y (.cells [.slice (some ⟨z2, 0, none⟩) PY.length PY.length, .slice (some ⟨z4, 0, none⟩) DY.length DY.length, .slice (some ⟨z6, 0, none⟩) BY.length BY.length].toArray 92 (0, 0)) :: .row (some ⟨z2, 0, none⟩) PY.length 9 1 (PY.map sV) :: .row (some ⟨z4, 0, none⟩) DY.length 4 1 (DY.map oV) :: .row (some ⟨z6, 0, none⟩) BY.length 5 1 (BY.map uV) :: H ∧ (A = pre ++ xs) ∧ (q = toA pre) ∧ (next ≤ fromA pre) ∧ (BFit k B) ∧ (k + 4 * ((sdA (YP.drop q) YL).length + xs.length + (fromA pre - next)) ≤ 10000000) ∧ (cmpT ⟨B.l, B.p, B.d ++ (BX.take (fromA pre)).drop next⟩ xs (sdA (YP.drop q) YL) = cmpT Bld.start A (sdA YP YL))) (M.length + 1 - (0)) ⟨0, 0, none, 0, Bld.start, 0, [], A, rfl, rfl, rfl, rfl, rfl, rfl, rfl, Nat.le_refl _, BFit.start, by rw [List.drop_zero]; simp only [fromA]; omega, by simp [fromA, Bld.start]⟩ ?_
        · (repeat (first | exact Env.Sub.nil | refine Env.Sub.cons rfl ?_))
        · exact (fun w h => Pick.sat (by iterate 60 (try (first | exact Pick.all | (apply Pick.take; (· (repeat (first | exact Out.here | apply Out.there)))) | apply Pick.drop))) h)
        rintro j r ds m' H' ⟨q, next, c, cp, B, k, pre, xs, rfl, rfl, rfl, rfl, rfl, hA, hq, hnx, hB, hk, ht⟩
        have hAs : toA A = toA pre + toA xs := by rw [hA, toA_append]
        have hAf : fromA A = fromA pre + fromA xs := by rw [hA, fromA_append]
        have hqp : q < PY.length := by omega
        have hgp : (PY.map sV)[q]? = some [str PY[q]] := by rw [List.getElem?_map, List.getElem?_eq_getElem hqp]; rfl
        have hBp := hB.p
        have hBd := hB.d
        have hBl3 := hB.len
        by_cases hlt : q < M.length
        · have hqd : q < DY.length := by omega
          have hqb : q < BY.length := by omega
          have hgd : (DY.map oV)[q]? = some [.bool DY[q]] := by rw [List.getElem?_map, List.getElem?_eq_getElem hqd]; rfl
          have hgb : (BY.map uV)[q]? = some [.int .u8 (BY[q].toNat : Int)] := by rw [List.getElem?_map, List.getElem?_eq_getElem hqb]; rfl
          have eY : YP.drop q = (PY[q], DY[q], BY[q]) :: YP.drop (q + 1) := by
            rw [List.drop_eq_getElem_cons (by omega)]
            congr 1
            subst hpb
            simp
          refine WC.rowSome (a := cl) (es := M.map mV) (by (repeat (first | exact List.Mem.head _ | apply List.Mem.tail))) (by omega) ?_
          rintro cl0 rfl
          rw [eY, sdA_cons] at hk ht
          rw [cmpT_p] at ht
          dsimp only at hk ht
          simp only [List.length_append, List.length_map, List.length_cons] at hk
          rcases split_mid xs with ⟨ds, rfl⟩ | ⟨ds, rest, rfl⟩ | ⟨ds, d, rest, rfl⟩
          · rw [toA_d] at hAs; omega
          · have hgm : (M.map mV)[q]? = some [.int .i64 ((fromA pre + ds.length : Nat) : Int), .int .u8 0] := by
              rw [List.getElem?_map, ← hMM, hq, mids_atk hA]; rfl
            rw [cmpT_d _ _ _ _ (by cases DY[q] <;> rfl)] at ht
            dsimp only at ht
            have hpm := pend_more (rest := .k :: rest) hA hnx
            rw [hba] at hpm
            rw [List.append_assoc, ← hpm] at ht
            have hpre : fromA (pre ++ ds.map .d ++ [.k]) = fromA pre + ds.length + 1 := by rw [fromA_append, fromA_append, fromA_d]; rfl
            have htopre : toA (pre ++ ds.map .d ++ [.k]) = toA pre + 1 := by rw [toA_append, toA_append, toA_d]; rfl
            simp only [List.length_append, List.length_map, List.length_cons] at hk
            rw [fromA_append, fromA_d, show fromA (.k :: rest) = fromA rest + 1 from rfl] at hAf
            have hBXl : BX.length = fromA A := by omega
            generalize hAt : fromA pre + ds.length = At at *
            have hpq : (B.p ++ PY[q]).length ≤ 100000000 := by rw [List.length_append]; omega
            (try (refine st_E16_1 ?_; intros))
            refine WC.loopH [(18, .int .i64 ((next) : Int)), (19, .int .i64 (q : Int)), (17, .pointer (some ⟨bm, 0, none⟩)), (14, .slice (some cl0) M.length pl), (13, .pointer (some ⟨y, 0, none⟩)), (12, .pointer (some ⟨x, 0, none⟩))] ?_ ?_ (fun j r ds m' H' => ∃ (nx : Nat) (D : List UInt8), j = At - nx ∧ r = [(18, .int .i64 (nx : Int)), (19, .int .i64 (q : Int)), (17, .pointer (some ⟨bm, 0, none⟩)), (14, .slice (some cl0) M.length pl), (13, .pointer (some ⟨y, 0, none⟩)), (12, .pointer (some ⟨x, 0, none⟩))] ∧ ds = [] ∧ m = m' ∧ H' = .blk bm (.cells [.slice c B.l.length cp, str (B.p ++ PY[q]), str D].toArray 109 (0, 0)) :: .row c cp 84 3 (B.l.map Stp.cs) :: .row (some cl0) pl 107 2 (M.map mV) :: .blk x (.cells [.slice (some ⟨q2, 0, none⟩) PX.length PX.length, .slice (some ⟨q4, 0, none⟩) DX.length DX.length, .slice (some ⟨q6, 0, none⟩) BX.length BX.length].toArray 92 (0, 0)) :: .row (some ⟨q2, 0, none⟩) PX.length 9 1 (PX.map sV) :: .row (some ⟨q4, 0, none⟩) DX.length 4 1 (DX.map oV) :: .row (some ⟨q6, 0, none⟩) BX.length 5 1 (BX.map uV) :: .blk y (.cells [.slice (some ⟨z2, 0, none⟩) PY.length PY.length, .slice (some ⟨z4, 0, none⟩) DY.length DY.length, .slice (some ⟨z6, 0, none⟩) BY.length BY.length].toArray 92 (0, 0)) :: .row (some ⟨z2, 0, none⟩) PY.length 9 1 (PY.map sV) :: .row (some ⟨z4, 0, none⟩) DY.length 4 1 (DY.map oV) :: .row (some ⟨z6, 0, none⟩) BY.length 5 1 (BY.map uV) :: H ∧ (next ≤ nx ∧ nx ≤ At) ∧ (D = B.d ++ (BX.take nx).drop next)) (At - (next)) ⟨next, B.d, rfl, rfl, rfl, rfl, rfl, by omega, by rw [List.drop_take, Nat.sub_self, List.take_zero, List.append_nil]⟩ ?_
            · (repeat (first | exact Env.Sub.nil | refine Env.Sub.cons rfl ?_))
            · exact (fun w h => Pick.sat (by iterate 60 (try (first | exact Pick.all | (apply Pick.take; (· (repeat (first | exact Out.here | apply Out.there)))) | apply Pick.drop))) h)
            rintro j r ds m' H' ⟨nx, D, rfl, rfl, rfl, rfl, rfl, hj, hD⟩
            have hDl : D.length = B.d.length + (nx - next) := by rw [hD]; simp only [List.length_append, List.length_drop, List.length_take]; omega
            by_cases hjl : nx < At
            · have hnb : nx < BX.length := by omega
              have hgx : (BX.map uV)[nx]? = some [.int .u8 (BX[nx].toNat : Int)] := by rw [List.getElem?_map, List.getElem?_eq_getElem hnb]; rfl
              (try (refine st_E16_1 ?_; intros))
              refine w_callF Try.func49 ?_ (hs := mdrop_any ⟨B.l, B.p ++ PY[q], D⟩ BX[nx] (by simp only; omega) _ _ _)
              rintro v m H1 ⟨rfl, rfl, rfl⟩
              (try (refine st_E16_1 ?_; intros))
              refine WQ.next (At - (nx + 1)) ⟨nx + 1, D ++ [BX[nx]], rfl, rfl, rfl, rfl, rfl, ?_, ?_⟩ (by omega) (by (repeat (first | exact Env.Sub.nil | refine Env.Sub.cons rfl ?_))) (fun w h => Pick.sat (by iterate 60 (try (first | exact Pick.all | (apply Pick.take; (· (repeat (first | exact Out.here | apply Out.there)))) | apply Pick.drop))) h)
              · omega
              · rw [hD, List.take_succ_eq_append_getElem hnb, List.drop_append_of_le_length (by rw [List.length_take]; omega), List.append_assoc]
            · obtain rfl : nx = At := by omega
              have hB1 : BFit (k + PY[q].length + (nx - next)) ⟨B.l, B.p ++ PY[q], D⟩ := ⟨by simp only; omega, fun s hs => by have := hB.k s hs; omega, by simp only [List.length_append]; omega, by simp only; omega⟩
              rw [← hD] at ht
              have hz : (BX.take (nx + 1)).drop (nx + 1) = [] := by rw [List.drop_take, Nat.sub_self, List.take_zero]
              cases hdq : DY[q] with
              | true =>
                rw [hdq] at hgd ht
                simp only [if_true] at ht
                rw [cmpT_kd] at ht
                dsimp only at ht
                (try (refine st_E16_1 ?_; intros))
                refine w_callF Try.func49 ?_ (hs := mdrop_any ⟨B.l, B.p ++ PY[q], D⟩ BY[q] (by simp only; omega) _ _ _)
                rintro v m H1 ⟨rfl, rfl, rfl⟩
                (try (refine st_E16_1 ?_; intros))
                refine WQ.next (M.length + 1 - (q + 1)) ⟨q + 1, nx + 1, c, cp, ⟨B.l, B.p ++ PY[q], D ++ [BY[q]]⟩, k + PY[q].length + (nx - next) + 1, pre ++ ds.map .d ++ [.k], rest, rfl, rfl, rfl, rfl, rfl, ?_, ?_, ?_, ?_, ?_, ?_⟩ (by omega) (by (repeat (first | exact Env.Sub.nil | refine Env.Sub.cons rfl ?_))) (fun w h => Pick.sat (by iterate 60 (try (first | exact Pick.all | (apply Pick.take; (· (repeat (first | exact Out.here | apply Out.there)))) | apply Pick.drop))) h)
                · rw [hA]; simp
                · rw [htopre, ← hq]
                · omega
                · exact ⟨by simp only; omega, fun s hs => by have := hB.k s hs; omega, by simp only [List.length_append]; omega, by simp only [List.length_append, List.length_singleton]; omega⟩
                · omega
                · rw [hpre, hz, List.append_nil]; exact ht
              | false =>
                rw [hdq] at hgd ht
                simp only [Bool.false_eq_true, if_false] at ht
                rw [cmpT_kk] at ht
                (try (refine st_E16_1 ?_; intros))
                refine w_callF Try.func50 ?_ (hs := mkeep_any ⟨B.l, B.p ++ PY[q], D⟩ 1 (by omega) (hB1.mono (by omega)) _ _ _)
                rintro v m H1 ⟨rfl, rfl, c2, cp2, rfl⟩
                (try (refine st_E16_1 ?_; intros))
                refine WQ.next (M.length + 1 - (q + 1)) ⟨q + 1, nx + 1, c2, cp2, (⟨B.l, B.p ++ PY[q], D⟩ : Bld).keep 1, k + PY[q].length + (nx - next) + 4, pre ++ ds.map .d ++ [.k], rest, rfl, rfl, rfl, rfl, rfl, ?_, ?_, ?_, ?_, ?_, ?_⟩ (by omega) (by (repeat (first | exact Env.Sub.nil | refine Env.Sub.cons rfl ?_))) (fun w h => Pick.sat (by iterate 60 (try (first | exact Pick.all | (apply Pick.take; (· (repeat (first | exact Out.here | apply Out.there)))) | apply Pick.drop))) h)
                · rw [hA]; simp
                · rw [htopre, ← hq]
                · omega
                · exact (hB1.keep (n := 1)).mono (by omega)
                · omega
                · rw [hpre, hz, List.append_nil]; exact ht
          · have hgm : (M.map mV)[q]? = some [.int .i64 (-1), .int .u8 (d.toNat : Int)] := by
              rw [List.getElem?_map, ← hMM, hq, mids_at hA]; rfl
            rw [cmpT_d _ _ _ _ (by cases DY[q] <;> rfl)] at ht
            dsimp only at ht
            have hpm := pend_more (rest := .p d :: rest) hA hnx
            rw [hba] at hpm
            rw [List.append_assoc, ← hpm] at ht
            have hpre : fromA (pre ++ ds.map .d ++ [.p d]) = fromA pre + ds.length := by rw [fromA_append, fromA_append, fromA_d]; rfl
            have htopre : toA (pre ++ ds.map .d ++ [.p d]) = toA pre + 1 := by rw [toA_append, toA_append, toA_d]; rfl
            simp only [List.length_append, List.length_map, List.length_cons] at hk
            cases hdq : DY[q] with
            | false =>
              rw [hdq] at hgd ht
              simp only [Bool.false_eq_true, if_false] at ht
              rw [cmpT_pk] at ht
              dsimp only at ht
              have hd1 : [d].length = 1 := rfl
              have hpq : (B.p ++ PY[q]).length ≤ 100000000 := by rw [List.length_append]; omega
              (try (refine st_E16_1 ?_; intros))
              refine WC.drawE 11 ([.blk bm (.cells [.slice c B.l.length cp, str (B.p ++ PY[q]), str B.d].toArray 109 (0, 0)), .row (some cl0) pl 107 2 (M.map mV)]) (.row c cp 84 3 (B.l.map Stp.cs) :: .blk x (.cells [.slice (some ⟨q2, 0, none⟩) PX.length PX.length, .slice (some ⟨q4, 0, none⟩) DX.length DX.length, .slice (some ⟨q6, 0, none⟩) BX.length BX.length].toArray 92 (0, 0)) :: .row (some ⟨q2, 0, none⟩) PX.length 9 1 (PX.map sV) :: .row (some ⟨q4, 0, none⟩) DX.length 4 1 (DX.map oV) :: .row (some ⟨q6, 0, none⟩) BX.length 5 1 (BX.map uV) :: .blk y (.cells [.slice (some ⟨z2, 0, none⟩) PY.length PY.length, .slice (some ⟨z4, 0, none⟩) DY.length DY.length, .slice (some ⟨z6, 0, none⟩) BY.length BY.length].toArray 92 (0, 0)) :: .row (some ⟨z2, 0, none⟩) PY.length 9 1 (PY.map sV) :: .row (some ⟨z4, 0, none⟩) DY.length 4 1 (DY.map oV) :: .row (some ⟨z6, 0, none⟩) BY.length 5 1 (BY.map uV) :: H) rfl (by decide +kernel) (fun w h => Pick.sat (by iterate 60 (try (first | exact Pick.all | (apply Pick.take; (· (repeat (first | exact Out.here | apply Out.there)))) | apply Pick.drop))) h) ?_
              ((try (refine WE.calm 0 (by decide +kernel) rfl rfl (by decide +kernel) rfl (fun c h => by cases h) (by intro zm zF zle; exact sq_E16_1) ?_)); (try (refine WE.calm 1 (by decide +kernel) rfl rfl (by decide +kernel) rfl (fun c h => by cases h) (by intro zm zF zle; exact sq_E16_1) ?_)); (try (refine WE.calm 2 (by decide +kernel) rfl rfl (by decide +kernel) rfl (fun c h => by cases h) (by intro zm zF zle; exact sq_E16_1) ?_)); (try (refine WE.calm 3 (by decide +kernel) rfl rfl (by decide +kernel) rfl (fun c h => by cases h) (by intro zm zF zle; exact sq_E16_1) ?_)); (try (refine WE.calm 4 (by decide +kernel) rfl rfl (by decide +kernel) rfl (fun c h => by cases h) (by intro zm zF zle; exact sq_E16_1) ?_)); (try (refine WE.calm 5 (by decide +kernel) rfl rfl (by decide +kernel) rfl (fun c h => by cases h) (by intro zm zF zle; exact sq_E16_1) ?_)); (try (refine WE.calm 6 (by decide +kernel) rfl rfl (by decide +kernel) rfl (fun c h => by cases h) (by intro zm zF zle; exact sq_E16_1) ?_)); (try (refine WE.calm 7 (by decide +kernel) rfl rfl (by decide +kernel) rfl (fun c h => by cases h) (by intro zm zF zle; exact sq_E16_1) ?_)); (try (refine WE.calm 8 (by decide +kernel) rfl rfl (by decide +kernel) rfl (fun c h => by cases h) (by intro zm zF zle; exact sq_E16_1) ?_)); (try (refine WE.calm 9 (by decide +kernel) rfl rfl (by decide +kernel) rfl (fun c h => by cases h) (by intro zm zF zle; exact sq_E16_1) ?_)); (try (refine WE.calm 10 (by decide +kernel) rfl rfl (by decide +kernel) rfl (fun c h => by cases h) (by intro zm zF zle; exact sq_E16_1) ?_)); (try (refine WE.calm 11 (by decide +kernel) rfl rfl (by decide +kernel) rfl (fun c h => by cases h) (by intro zm zF zle; exact sq_E16_1) ?_)); (try (refine WE.calm 12 (by decide +kernel) rfl rfl (by decide +kernel) rfl (fun c h => by cases h) (by intro zm zF zle; exact sq_E16_1) ?_)); (try (refine WE.calm 13 (by decide +kernel) rfl rfl (by decide +kernel) rfl (fun c h => by cases h) (by intro zm zF zle; exact sq_E16_1) ?_)); (try (refine WE.calm 14 (by decide +kernel) rfl rfl (by decide +kernel) rfl (fun c h => by cases h) (by intro zm zF zle; exact sq_E16_1) ?_)); (try (refine WE.calm 15 (by decide +kernel) rfl rfl (by decide +kernel) rfl (fun c h => by cases h) (by intro zm zF zle; exact sq_E16_1) ?_)); (try (refine WE.calm 16 (by decide +kernel) rfl rfl (by decide +kernel) rfl (fun c h => by cases h) (by intro zm zF zle; exact sq_E16_1) ?_)); (try (refine WE.calm 17 (by decide +kernel) rfl rfl (by decide +kernel) rfl (fun c h => by cases h) (by intro zm zF zle; exact sq_E16_1) ?_)); (try (refine WE.calm 18 (by decide +kernel) rfl rfl (by decide +kernel) rfl (fun c h => by cases h) (by intro zm zF zle; exact sq_E16_1) ?_)); (try (refine WE.calm 19 (by decide +kernel) rfl rfl (by decide +kernel) rfl (fun c h => by cases h) (by intro zm zF zle; exact sq_E16_1) ?_)); (try (refine WE.calm 20 (by decide +kernel) rfl rfl (by decide +kernel) rfl (fun c h => by cases h) (by intro zm zF zle; exact sq_E16_1) ?_)); (try (refine WE.calm 21 (by decide +kernel) rfl rfl (by decide +kernel) rfl (fun c h => by cases h) (by intro zm zF zle; exact sq_E16_1) ?_)); (try (refine WE.calm 22 (by decide +kernel) rfl rfl (by decide +kernel) rfl (fun c h => by cases h) (by intro zm zF zle; exact sq_E16_1) ?_)); (try (refine WE.calm 23 (by decide +kernel) rfl rfl (by decide +kernel) rfl (fun c h => by cases h) (by intro zm zF zle; exact sq_E16_1) ?_)); (try (refine WE.calm 24 (by decide +kernel) rfl rfl (by decide +kernel) rfl (fun c h => by cases h) (by intro zm zF zle; exact sq_E16_1) ?_)); (try (refine WE.calm 25 (by decide +kernel) rfl rfl (by decide +kernel) rfl (fun c h => by cases h) (by intro zm zF zle; exact sq_E16_1) ?_)); (try (refine WE.calm 26 (by decide +kernel) rfl rfl (by decide +kernel) rfl (fun c h => by cases h) (by intro zm zF zle; exact sq_E16_1) ?_)); (try (refine WE.calm 27 (by decide +kernel) rfl rfl (by decide +kernel) rfl (fun c h => by cases h) (by intro zm zF zle; exact sq_E16_1) ?_)); (try (refine WE.calm 28 (by decide +kernel) rfl rfl (by decide +kernel) rfl (fun c h => by cases h) (by intro zm zF zle; exact sq_E16_1) ?_)); (try (refine WE.calm 29 (by decide +kernel) rfl rfl (by decide +kernel) rfl (fun c h => by cases h) (by intro zm zF zle; exact sq_E16_1) ?_)); (try (refine WE.calm 30 (by decide +kernel) rfl rfl (by decide +kernel) rfl (fun c h => by cases h) (by intro zm zF zle; exact sq_E16_1) ?_)); (try (refine WE.calm 31 (by decide +kernel) rfl rfl (by decide +kernel) rfl (fun c h => by cases h) (by intro zm zF zle; exact sq_E16_1) ?_)); (try (refine WE.calm 32 (by decide +kernel) rfl rfl (by decide +kernel) rfl (fun c h => by cases h) (by intro zm zF zle; exact sq_E16_1) ?_)); (try (refine WE.calm 33 (by decide +kernel) rfl rfl (by decide +kernel) rfl (fun c h => by cases h) (by intro zm zF zle; exact sq_E16_1) ?_)); (try (refine WE.calm 34 (by decide +kernel) rfl rfl (by decide +kernel) rfl (fun c h => by cases h) (by intro zm zF zle; exact sq_E16_1) ?_)); (try (refine WE.calm 35 (by decide +kernel) rfl rfl (by decide +kernel) rfl (fun c h => by cases h) (by intro zm zF zle; exact sq_E16_1) ?_)); (try (refine WE.calm 36 (by decide +kernel) rfl rfl (by decide +kernel) rfl (fun c h => by cases h) (by intro zm zF zle; exact sq_E16_1) ?_)); (try (refine WE.calm 37 (by decide +kernel) rfl rfl (by decide +kernel) rfl (fun c h => by cases h) (by intro zm zF zle; exact sq_E16_1) ?_)); (try (refine WE.calm 38 (by decide +kernel) rfl rfl (by decide +kernel) rfl (fun c h => by cases h) (by intro zm zF zle; exact sq_E16_1) ?_)); (try (refine WE.calm 39 (by decide +kernel) rfl rfl (by decide +kernel) rfl (fun c h => by cases h) (by intro zm zF zle; exact sq_E16_1) ?_)); (try (refine WE.calm 40 (by decide +kernel) rfl rfl (by decide +kernel) rfl (fun c h => by cases h) (by intro zm zF zle; exact sq_E16_1) ?_)); (try (refine WE.calm 41 (by decide +kernel) rfl rfl (by decide +kernel) rfl (fun c h => by cases h) (by intro zm zF zle; exact sq_E16_1) ?_)))
              refine WE.act1 7 (by decide +kernel) rfl rfl (fun c h => by cases h) ?_
              (refine st_E16_1 ?_; intros; rename_i qz)
              refine WQ.acted (B := [.blk qz (.cells [.int .u8 (d.toNat : Int)].toArray 5 (0, 0))]) (U := .row c cp 84 3 (B.l.map Stp.cs) :: .blk x (.cells [.slice (some ⟨q2, 0, none⟩) PX.length PX.length, .slice (some ⟨q4, 0, none⟩) DX.length DX.length, .slice (some ⟨q6, 0, none⟩) BX.length BX.length].toArray 92 (0, 0)) :: .row (some ⟨q2, 0, none⟩) PX.length 9 1 (PX.map sV) :: .row (some ⟨q4, 0, none⟩) DX.length 4 1 (DX.map oV) :: .row (some ⟨q6, 0, none⟩) BX.length 5 1 (BX.map uV) :: .blk y (.cells [.slice (some ⟨z2, 0, none⟩) PY.length PY.length, .slice (some ⟨z4, 0, none⟩) DY.length DY.length, .slice (some ⟨z6, 0, none⟩) BY.length BY.length].toArray 92 (0, 0)) :: .row (some ⟨z2, 0, none⟩) PY.length 9 1 (PY.map sV) :: .row (some ⟨z4, 0, none⟩) DY.length 4 1 (DY.map oV) :: .row (some ⟨z6, 0, none⟩) BY.length 5 1 (BY.map uV) :: H) rfl (Mem.le.refl _) (fun w h => Pick.sat (by iterate 60 (try (first | exact Pick.all | (apply Pick.take; (· (repeat (first | exact Out.here | apply Out.there)))) | apply Pick.drop))) h) ?_
              (refine WE.calm 8 (by decide +kernel) rfl rfl (by decide +kernel) rfl (fun c h => by cases h) (by intro zm zF zle; refine WL.blkStr (s := [d]) rfl (by (repeat (first | exact List.Mem.head _ | apply List.Mem.tail))) rfl rfl rfl rfl rfl rfl rfl ?_; exact sq_E16_1) ?_)
              (refine WE.calm 9 (by decide +kernel) rfl rfl (by decide +kernel) rfl (fun c h => by cases h) (by intro zm zF zle; exact sq_E16_1) ?_)
              (refine WE.calm 10 (by decide +kernel) rfl rfl (by decide +kernel) rfl (fun c h => by cases h) (by intro zm zF zle; exact sq_E16_1) ?_)
              refine WE.done (by decide +kernel) ?_
              (try (refine st_E16_1 ?_; intros))
              refine WQ.next (M.length + 1 - (q + 1)) ⟨q + 1, next, c, cp, ⟨B.l, B.p ++ PY[q] ++ [d], B.d⟩, k + PY[q].length + 1, pre ++ ds.map .d ++ [.p d], rest, rfl, rfl, rfl, rfl, rfl, ?_, ?_, ?_, ?_, ?_, ?_⟩ (by omega) (by (repeat (first | exact Env.Sub.nil | refine Env.Sub.cons rfl ?_))) (fun w h => Pick.sat (by iterate 60 (try (first | exact Pick.all | (apply Pick.take; (· (repeat (first | exact Out.here | apply Out.there)))) | apply Pick.drop))) h)
              · rw [hA]; simp
              · rw [htopre, ← hq]
              · omega
              · exact ⟨by simp only; omega, fun s hs => by have := hB.k s hs; omega, by simp only [List.length_append, List.length_singleton]; omega, by simp only; omega⟩
              · omega
              · rw [hpre]; exact ht
            | true =>
              rw [hdq] at hgd ht
              simp only [if_true] at ht
              rw [cmpT_pd] at ht
              by_cases hdc : d = BY[q]
              · rw [if_pos hdc] at ht
                have hdc' : (BY[q].toNat : Int) = (d.toNat : Int) := by rw [hdc]
                (try (refine st_E16_1 ?_; intros))
                refine WQ.next (M.length + 1 - (q + 1)) ⟨q + 1, next, c, cp, ⟨B.l, B.p ++ PY[q], B.d⟩, k + PY[q].length, pre ++ ds.map .d ++ [.p d], rest, rfl, rfl, rfl, rfl, rfl, ?_, ?_, ?_, ?_, ?_, ?_⟩ (by omega) (by (repeat (first | exact Env.Sub.nil | refine Env.Sub.cons rfl ?_))) (fun w h => Pick.sat (by iterate 60 (try (first | exact Pick.all | (apply Pick.take; (· (repeat (first | exact Out.here | apply Out.there)))) | apply Pick.drop))) h)
                · rw [hA]; simp
                · rw [htopre, ← hq]
                · omega
                · exact ⟨by simp only; omega, fun s hs => by have := hB.k s hs; omega, by simp only [List.length_append]; omega, by simp only; omega⟩
                · omega
                · rw [hpre]; exact ht
              · rw [if_neg hdc] at ht
                have hdc' : ¬ (BY[q].toNat : Int) = (d.toNat : Int) := fun h => hdc (UInt8.toNat_inj.1 (by omega))
                have e : comP a b = .inl 270 := by rw [hcom, ← ht]
                rw [e]
                (try (refine st_E16_1 ?_; intros))
                exact q_fin0 (H0 := H) ⟨rfl, rfl, rfl⟩ (hd := (fun w h => Pick.sat (by iterate 60 (try (first | exact Pick.all | (apply Pick.take; (· (repeat (first | exact Out.here | apply Out.there)))) | apply Pick.drop))) h))
        · have hqe : q = M.length := by omega
          have eY : YP.drop q = [] := List.drop_eq_nil_of_le (by omega)
          have eL : YL = PY[q] := by
            rw [hlb, List.getD_eq_getElem?_getD, List.getElem?_eq_getElem (by omega), Option.getD_some]
            congr 1; omega
          rw [eY, sdA_nil] at hk ht
          rw [eL] at hk
          simp only [List.length_map] at hk
          have hxs : ∃ ds : List UInt8, xs = ds.map .d := by
            rcases split_mid xs with h | ⟨ds, rest, rfl⟩ | ⟨ds, d, rest, rfl⟩
            · exact h
            · rw [toA_append, show toA (.k :: rest) = toA rest + 1 from rfl] at hAs; omega
            · rw [toA_append, show toA (.p d :: rest) = toA rest + 1 from rfl] at hAs; omega
          obtain ⟨ds, rfl⟩ := hxs
          have ht2 := cmpT_p ⟨B.l, B.p, B.d ++ (BX.take (fromA pre)).drop next⟩ (ds.map .d) YL []
          rw [List.append_nil, ht, cmpT_end] at ht2
          dsimp only at ht2
          rw [fromA_d] at hAf
          have hBXl : BX.length = fromA A := by omega
          have hpm := pend_more (A := A) (ds := ds) (rest := []) (by rw [hA, List.append_nil]) hnx
          rw [hba, ← hAf, List.take_of_length_le (by omega)] at hpm
          rw [List.append_assoc, ← hpm, eL] at ht2
          have hpq : (B.p ++ PY[q]).length ≤ 100000000 := by rw [List.length_append]; omega
          have hcomE : comP a b = .inr (⟨B.l, B.p ++ PY[q], B.d ++ BX.drop next⟩ : Bld).close.l := by rw [hcom, eL, ht2]
          rw [hcomE]
          (try (refine st_E16_1 ?_; intros))
          refine WC.loopH [(18, .int .i64 ((next) : Int)), (17, .pointer (some ⟨bm, 0, none⟩)), (12, .pointer (some ⟨x, 0, none⟩))] ?_ ?_ (fun j r ds m' H' => ∃ (nx : Nat) (D : List UInt8), j = DX.length - nx ∧ r = [(18, .int .i64 (nx : Int)), (17, .pointer (some ⟨bm, 0, none⟩)), (12, .pointer (some ⟨x, 0, none⟩))] ∧ ds = [] ∧ m = m' ∧ H' = .blk bm (.cells [.slice c B.l.length cp, str (B.p ++ PY[q]), str D].toArray 109 (0, 0)) :: .row c cp 84 3 (B.l.map Stp.cs) :: .blk x (.cells [.slice (some ⟨q2, 0, none⟩) PX.length PX.length, .slice (some ⟨q4, 0, none⟩) DX.length DX.length, .slice (some ⟨q6, 0, none⟩) BX.length BX.length].toArray 92 (0, 0)) :: .row (some ⟨q2, 0, none⟩) PX.length 9 1 (PX.map sV) :: .row (some ⟨q4, 0, none⟩) DX.length 4 1 (DX.map oV) :: .row (some ⟨q6, 0, none⟩) BX.length 5 1 (BX.map uV) :: H ∧ (next ≤ nx ∧ nx ≤ DX.length) ∧ (D = B.d ++ (BX.take nx).drop next)) (DX.length - (next)) ⟨next, B.d, rfl, rfl, rfl, rfl, rfl, by omega, by rw [List.drop_take, Nat.sub_self, List.take_zero, List.append_nil]⟩ ?_
          · (repeat (first | exact Env.Sub.nil | refine Env.Sub.cons rfl ?_))
          · exact (fun w h => Pick.sat (by iterate 60 (try (first | exact Pick.all | (apply Pick.take; (· (repeat (first | exact Out.here | apply Out.there)))) | apply Pick.drop))) h)
          rintro j r ds m' H' ⟨nx, D, rfl, rfl, rfl, rfl, rfl, hj, hD⟩
          have hDl : D.length = B.d.length + (nx - next) := by rw [hD]; simp only [List.length_append, List.length_drop, List.length_take]; omega
          by_cases hjl : nx < DX.length
          · have hnb : nx < BX.length := by omega
            have hgx : (BX.map uV)[nx]? = some [.int .u8 (BX[nx].toNat : Int)] := by rw [List.getElem?_map, List.getElem?_eq_getElem hnb]; rfl
            (try (refine st_E16_1 ?_; intros))
            refine w_callF Try.func49 ?_ (hs := mdrop_any ⟨B.l, B.p ++ PY[q], D⟩ BX[nx] (by simp only; omega) _ _ _)
            rintro v m H1 ⟨rfl, rfl, rfl⟩
            (try (refine st_E16_1 ?_; intros))
            refine WQ.next (DX.length - (nx + 1)) ⟨nx + 1, D ++ [BX[nx]], rfl, rfl, rfl, rfl, rfl, ?_, ?_⟩ (by omega) (by (repeat (first | exact Env.Sub.nil | refine Env.Sub.cons rfl ?_))) (fun w h => Pick.sat (by iterate 60 (try (first | exact Pick.all | (apply Pick.take; (· (repeat (first | exact Out.here | apply Out.there)))) | apply Pick.drop))) h)
            · omega
            · rw [hD, List.take_succ_eq_append_getElem hnb, List.drop_append_of_le_length (by rw [List.length_take]; omega), List.append_assoc]
          · obtain rfl : nx = DX.length := by omega
            rw [List.take_of_length_le (by omega)] at hD
            rw [← hD]
            (try (refine st_E16_1 ?_; intros))
            refine WL.heap (H' := .blk bm (.cells [.slice c B.l.length cp, str (B.p ++ PY[q]), str D].toArray 109 (0, 0)) :: .row c cp 84 3 (B.l.map Stp.cs) :: H) (fun w h => Pick.sat (by iterate 60 (try (first | exact Pick.all | (apply Pick.take; (· (repeat (first | exact Out.here | apply Out.there)))) | apply Pick.drop))) h) ?_
            refine w_callF Try.func51 ?_ (hs := end_any ⟨B.l, B.p ++ PY[q], D⟩ (by simp only; omega) _ _ _)
            rintro v m H1 ⟨rfl, rfl, c2, cp2, rfl⟩
            (try (refine st_E16_1 ?_; intros))
            exact q_fin0 (H0 := .row c2 cp2 84 3 ((⟨B.l, B.p ++ PY[q], D⟩ : Bld).close.l.map Stp.cs) :: H) ⟨rfl, c2, cp2, rfl, rfl⟩ (hd := (fun w h => Pick.sat (by iterate 60 (try (first | exact Pick.all | (apply Pick.take; (· (repeat (first | exact Out.here | apply Out.there)))) | apply Pick.drop))) h))
  · have e : comP a b = .inl 5 := by simp only [comP, hsa, hsb]; rw [if_pos hmf]
    rw [e]
    (try (refine st_E16_1 ?_; intros))
    exact q_fin0 (H0 := H) ⟨rfl, rfl, rfl⟩ (hd := (fun w h => Pick.sat (by iterate 60 (try (first | exact Pick.all | (apply Pick.take; (· (repeat (first | exact Out.here | apply Out.there)))) | apply Pick.drop))) h))
end Go.Proofs.Ytelgegefmjlimaa

/-
  Plain facts on changes: how much composing and carrying make. No condition.
-/
namespace Go.Eng
open Go
theorem compA_len (xs ys : List Atm) : ∀ o, compA xs ys = some o → o.length ≤ xs.length + ys.length := by
  fun_induction compA xs ys <;> intro o h
  all_goals first
    | (simp only [Option.some.injEq] at h; subst h; simp)
    | (rename_i ih; obtain ⟨o', h', rfl⟩ := Option.map_eq_some_iff.1 h; have := ih o' h'; simp only [List.length_cons] at this ⊢; omega)
    | (rename_i ih; have := ih o h; simp only [List.length_cons] at this ⊢; omega)
    | (cases h)
theorem carA_len (xs ys : List Atm) : ∀ o, carA xs ys = some o → o.1.length ≤ xs.length + ys.length ∧ o.2.length ≤ xs.length + ys.length := by
  fun_induction carA xs ys <;> intro o h
  all_goals first
    | (simp only [Option.some.injEq] at h; subst h; simp)
    | (rename_i ih; obtain ⟨o', h', rfl⟩ := Option.map_eq_some_iff.1 h; have := ih o' h'; simp only [List.length_cons] at this ⊢; omega)
    | (rename_i ih; have := ih o h; simp only [List.length_cons] at this ⊢; omega)
    | (cases h)
theorem list_len (L : List Atm) : (listOf L).length ≤ 4 * L.length + 2 := (BFit.close (BFit.runs L)).len
theorem cmpT_list (A B : List Atm) : cmpT Bld.start A B = (compA A B).map listOf := rfl
theorem carT_list (A B : List Atm) : carT Bld.start Bld.start 0 A B = (carA A B).map fun o => (listOf o.1, listOf o.2, 0 + toA o.1) := rfl
/-- what a change that may be is of, in its one form -/
theorem nf_len {l : List Stp} {f t : Int} (h : sizesOf l = some (f, t)) : (nfOf (gapsOf l)).length ≤ 131072 ∧ (fromA (nfOf (gapsOf l)) : Int) = f ∧ (toA (nfOf (gapsOf l)) : Int) = t := by
  obtain ⟨h1, h2, h3, h4, h5⟩ := sizesOf_some h
  have hok : ∀ s ∈ l, stpOk s := fun s hs => (h1 s hs).1
  obtain ⟨n1, n2⟩ := nf_sizes l hok
  have := atoms_le (nfOf (gapsOf l))
  unfold maxT at h4 h5
  omega
end Go.Eng

/-
  The walk of the reference's Carry: two changes carried over each other. No condition.
-/
namespace Go.Eng
open Go Go.RowKit
theorem bfit_put {N : Nat} {B : Bld} (h : BFit N B) (P : List UInt8) : BFit (N + P.length) ⟨B.l, B.p ++ P, B.d⟩ :=
  ⟨by have := h.len; simp only; omega, fun s hs => by have := h.k s hs; omega, by have := h.p; simp only [List.length_append]; omega, by have := h.d; simp only; omega⟩
theorem bfit_drop {N : Nat} {B : Bld} (h : BFit N B) (P : List UInt8) : BFit (N + P.length) ⟨B.l, B.p, B.d ++ P⟩ :=
  ⟨by have := h.len; simp only; omega, fun s hs => by have := h.k s hs; omega, by have := h.p; simp only; omega, by have := h.d; simp only [List.length_append]; omega⟩
theorem pos_drop {PX : List (List UInt8)} {DX : List Bool} {BX : List UInt8} {p : Nat} (h1 : BX.length = DX.length) (h2 : PX.length = DX.length + 1) (hp : p < DX.length) : (PX.zip (DX.zip BX)).drop p = (PX[p], DX[p], BX[p]) :: (PX.zip (DX.zip BX)).drop (p + 1) := by
  rw [List.drop_eq_getElem_cons (by simp only [List.length_zip]; omega)]
  simp
theorem getD_last {PX : List (List UInt8)} {N p : Nat} (hp : p = N) (h : p < PX.length) : PX.getD N [] = PX[p] := by
  subst hp
  rw [List.getD_eq_getElem?_getD, List.getElem?_eq_getElem h]; rfl
theorem pos_end {PX : List (List UInt8)} {DX : List Bool} {BX : List UInt8} {p : Nat} (h : DX.length ≤ p) : (PX.zip (DX.zip BX)).drop p = [] := List.drop_eq_nil_of_le (by simp only [List.length_zip]; omega)
/-- how much is left, place by place -/
theorem pos_less {PX : List (List UInt8)} {DX : List Bool} {BX : List UInt8} {p : Nat} (h1 : BX.length = DX.length) (h2 : PX.length = DX.length + 1) (hp : p < DX.length) :
    (sdA ((PX.zip (DX.zip BX)).drop p) (PX.getD DX.length [])).length = PX[p].length + 1 + (sdA ((PX.zip (DX.zip BX)).drop (p + 1)) (PX.getD DX.length [])).length := by
  rw [pos_drop h1 h2 hp, sdA_cons]
  simp only [List.length_append, List.length_map, List.length_cons]
  omega
theorem pos_left {PX : List (List UInt8)} {DX : List Bool} {BX : List UInt8} {p : Nat} (h1 : BX.length = DX.length) (h2 : PX.length = DX.length + 1) (hp : p < PX.length) : PX[p].length ≤ (sdA ((PX.zip (DX.zip BX)).drop p) (PX.getD DX.length [])).length := by
  by_cases h : p < DX.length
  · rw [pos_less h1 h2 h]; omega
  · rw [pos_end (by omega), sdA_nil, getD_last (by omega) hp, List.length_map]; exact Nat.le_refl _
end Go.Eng
namespace Go.Proofs.Ytelgegefmjlimaa
open Go Go.Eng
set_option maxRecDepth 100000
set_option maxHeartbeats 4000000
set_option linter.all false
attribute [local irreducible] WL WC WQ QFun QLoop Does Q1 QRound QAssign Go.Addr.add
attribute [local irreducible] sizesF sizesOf carT putsOf dropsOf bytesOf gapsOf
theorem sq_E20_1 {G : Prop} (h : G := by (repeat (first | (refine sp ?_; (repeat intro zzc)) | (refine iF 14 rfl ?_; refine w_callG Try.func14 ?_ (hs := refSizes_any (by assumption) _ _ _ (by assumption))))); exact WQ.q1 rfl) : G := h
theorem st_E20_1 {G G' : Prop} (next : G') (h : Bx G' → G := by intro zzn; (first | ((refine st ?_; (repeat intro zzc)); (try ((first | (refine iF 14 rfl ?_; refine w_callG Try.func14 ?_ (hs := refSizes_any (by assumption) _ _ _ (by assumption))) | ((refine iDraw ?_; (first | refine WC.drawAll rfl (by decide +kernel) ?_ | refine WC.draw 1 rfl (by decide +kernel) ?_ | refine WC.draw 2 rfl (by decide +kernel) ?_ | refine WC.draw 3 rfl (by decide +kernel) ?_ | refine WC.draw 4 rfl (by decide +kernel) ?_ | refine WC.draw 5 rfl (by decide +kernel) ?_ | refine WC.draw 6 rfl (by decide +kernel) ?_ | refine WC.draw 7 rfl (by decide +kernel) ?_ | refine WC.draw 8 rfl (by decide +kernel) ?_ | refine WC.draw 9 rfl (by decide +kernel) ?_ | refine WC.draw 10 rfl (by decide +kernel) ?_ | refine WC.draw 11 rfl (by decide +kernel) ?_ | refine WC.draw 12 rfl (by decide +kernel) ?_ | refine WC.draw 13 rfl (by decide +kernel) ?_ | refine WC.draw 14 rfl (by decide +kernel) ?_ | refine WC.draw 15 rfl (by decide +kernel) ?_ | refine WC.draw 16 rfl (by decide +kernel) ?_ | refine WC.draw 17 rfl (by decide +kernel) ?_ | refine WC.draw 18 rfl (by decide +kernel) ?_ | refine WC.draw 19 rfl (by decide +kernel) ?_ | refine WC.draw 20 rfl (by decide +kernel) ?_ | refine WC.draw 21 rfl (by decide +kernel) ?_ | refine WC.draw 22 rfl (by decide +kernel) ?_ | refine WC.draw 23 rfl (by decide +kernel) ?_ | refine WC.draw 24 rfl (by decide +kernel) ?_)); (repeat (refine WD.cons rfl (fun c h => by cases h) sq_E20_1 ?_)); refine WD.nil ?_)); (try (refine st ?_; (repeat intro zzc)))))) | ((first | (refine iF 14 rfl ?_; refine w_callG Try.func14 ?_ (hs := refSizes_any (by assumption) _ _ _ (by assumption))) | ((refine iDraw ?_; (first | refine WC.drawAll rfl (by decide +kernel) ?_ | refine WC.draw 1 rfl (by decide +kernel) ?_ | refine WC.draw 2 rfl (by decide +kernel) ?_ | refine WC.draw 3 rfl (by decide +kernel) ?_ | refine WC.draw 4 rfl (by decide +kernel) ?_ | refine WC.draw 5 rfl (by decide +kernel) ?_ | refine WC.draw 6 rfl (by decide +kernel) ?_ | refine WC.draw 7 rfl (by decide +kernel) ?_ | refine WC.draw 8 rfl (by decide +kernel) ?_ | refine WC.draw 9 rfl (by decide +kernel) ?_ | refine WC.draw 10 rfl (by decide +kernel) ?_ | refine WC.draw 11 rfl (by decide +kernel) ?_ | refine WC.draw 12 rfl (by decide +kernel) ?_ | refine WC.draw 13 rfl (by decide +kernel) ?_ | refine WC.draw 14 rfl (by decide +kernel) ?_ | refine WC.draw 15 rfl (by decide +kernel) ?_ | refine WC.draw 16 rfl (by decide +kernel) ?_ | refine WC.draw 17 rfl (by decide +kernel) ?_ | refine WC.draw 18 rfl (by decide +kernel) ?_ | refine WC.draw 19 rfl (by decide +kernel) ?_ | refine WC.draw 20 rfl (by decide +kernel) ?_ | refine WC.draw 21 rfl (by decide +kernel) ?_ | refine WC.draw 22 rfl (by decide +kernel) ?_ | refine WC.draw 23 rfl (by decide +kernel) ?_ | refine WC.draw 24 rfl (by decide +kernel) ?_)); (repeat (refine WD.cons rfl (fun c h => by cases h) sq_E20_1 ?_)); refine WD.nil ?_)); (try (refine st ?_; (repeat intro zzc))))); (repeat ((first | (refine iF 14 rfl ?_; refine w_callG Try.func14 ?_ (hs := refSizes_any (by assumption) _ _ _ (by assumption))) | ((refine iDraw ?_; (first | refine WC.drawAll rfl (by decide +kernel) ?_ | refine WC.draw 1 rfl (by decide +kernel) ?_ | refine WC.draw 2 rfl (by decide +kernel) ?_ | refine WC.draw 3 rfl (by decide +kernel) ?_ | refine WC.draw 4 rfl (by decide +kernel) ?_ | refine WC.draw 5 rfl (by decide +kernel) ?_ | refine WC.draw 6 rfl (by decide +kernel) ?_ | refine WC.draw 7 rfl (by decide +kernel) ?_ | refine WC.draw 8 rfl (by decide +kernel) ?_ | refine WC.draw 9 rfl (by decide +kernel) ?_ | refine WC.draw 10 rfl (by decide +kernel) ?_ | refine WC.draw 11 rfl (by decide +kernel) ?_ | refine WC.draw 12 rfl (by decide +kernel) ?_ | refine WC.draw 13 rfl (by decide +kernel) ?_ | refine WC.draw 14 rfl (by decide +kernel) ?_ | refine WC.draw 15 rfl (by decide +kernel) ?_ | refine WC.draw 16 rfl (by decide +kernel) ?_ | refine WC.draw 17 rfl (by decide +kernel) ?_ | refine WC.draw 18 rfl (by decide +kernel) ?_ | refine WC.draw 19 rfl (by decide +kernel) ?_ | refine WC.draw 20 rfl (by decide +kernel) ?_ | refine WC.draw 21 rfl (by decide +kernel) ?_ | refine WC.draw 22 rfl (by decide +kernel) ?_ | refine WC.draw 23 rfl (by decide +kernel) ?_ | refine WC.draw 24 rfl (by decide +kernel) ?_)); (repeat (refine WD.cons rfl (fun c h => by cases h) sq_E20_1 ?_)); refine WD.nil ?_)); (try (refine st ?_; (repeat intro zzc))))); (repeat revert zzc); exact zzn.out) : G := h ⟨next⟩
theorem rCarry_any {pa pb : Option Addr} {ca cb : Nat} {a b : List Stp} {fa ta fb tb : Int} (hfa : Fit a) (hfb : Fit b) (hsa : sizesOf a = some (fa, ta)) (hsb : sizesOf b = some (fb, tb)) (w0 : World) (m : Mem) (H : SHeap) (hra : RowR w0 m H 3 pa (a.map Stp.cs)) (hrb : RowR w0 m H 3 pb (b.map Stp.cs)) :
    Does Try.prog 28 #[.slice pa a.length ca, .slice pb b.length cb] w0 m H (PairP 84 (carP a b) .i64 m H) := by
  refine Does.of_body (args := [.slice pa a.length ca, .slice pb b.length cb]) Try.func28 rfl Try.ntmps28 rfl ?_
  have e2 : szR (sizesOf a) = .tuple #[.int .i64 fa, .int .i64 ta, .bool true] := by rw [hsa]; rfl
  have e3 : szR (sizesOf b) = .tuple #[.int .i64 fb, .int .i64 tb, .bool true] := by rw [hsb]; rfl
  obtain ⟨hoka, hal, hpla, hfra, htoa, _, _, _, _⟩ := sized hsa
  obtain ⟨hokb, hbl, hplb, hfrb, htob, _, _, _, _⟩ := sized hsb
  (try (refine st_E20_1 ?_; intros))
  rw [e2]
  (try (refine st_E20_1 ?_; intros))
  rw [e3]
  by_cases hmf : fa = fb
  · (try (refine st_E20_1 ?_; intros))
    refine w_callF Try.func43 ?_ (hs := say_any hfa hsa _ _ _ hra)
    rintro _ m _ ⟨rfl, q2, q4, q6, rfl, rfl⟩
    (try (refine st_E20_1 ?_; intros))
    refine w_callF Try.func43 ?_ (hs := say_any hfb hsb _ _ _ hrb.more.more.more)
    rintro _ m _ ⟨rfl, z2, z4, z6, rfl, rfl⟩
    have hda := drops_from a hoka
    have hdb := drops_from b hokb
    obtain ⟨la1, la2⟩ := said_len (gapsOf a)
    obtain ⟨lb1, lb2⟩ := said_len (gapsOf b)
    have hpa : posOf (gapsOf a) = (putsOf (gapsOf a)).zip ((dropsOf (gapsOf a)).zip (bytesOf (gapsOf a))) := rfl
    have hlaa : lastOf (gapsOf a) = (putsOf (gapsOf a)).getD (dropsOf (gapsOf a)).length [] := rfl
    have hpb : posOf (gapsOf b) = (putsOf (gapsOf b)).zip ((dropsOf (gapsOf b)).zip (bytesOf (gapsOf b))) := rfl
    have hlb : lastOf (gapsOf b) = (putsOf (gapsOf b)).getD (dropsOf (gapsOf b)).length [] := rfl
    have hla2 : (sdA (posOf (gapsOf a)) (lastOf (gapsOf a))).length ≤ 200000 := by rw [sd_atoms]; have := (nf_len hsa).1; omega
    have hlb2 : (sdA (posOf (gapsOf b)) (lastOf (gapsOf b))).length ≤ 200000 := by rw [sd_atoms]; have := (nf_len hsb).1; omega
    have hcom : carP a b = match carT Bld.start Bld.start 0 (sdA (posOf (gapsOf a)) (lastOf (gapsOf a))) (sdA (posOf (gapsOf b)) (lastOf (gapsOf b))) with
        | none => .inl 270
        | some (u, v, n) => if 65536 < n then .inl 3 else .inr (u, v) := by
      simp only [carP, hsa, hsb]
      rw [if_neg (fun h => h hmf), sd_atoms, sd_atoms]
      cases carT Bld.start Bld.start 0 (nfOf (gapsOf a)) (nfOf (gapsOf b)) <;> rfl
    generalize putsOf (gapsOf a) = PX at *
    generalize dropsOf (gapsOf a) = DX at *
    generalize bytesOf (gapsOf a) = BX at *
    generalize putsOf (gapsOf b) = PY at *
    generalize dropsOf (gapsOf b) = DY at *
    generalize bytesOf (gapsOf b) = BY at *
    generalize posOf (gapsOf a) = XP at *
    generalize lastOf (gapsOf a) = XL at *
    generalize posOf (gapsOf b) = YP at *
    generalize lastOf (gapsOf b) = YL at *
    have hPl : (PX.map sV).length = PX.length := by simp
    have hDl : (DX.map oV).length = DX.length := by simp
    have hBl : (BX.map uV).length = BX.length := by simp
    have hPl2 : (PY.map sV).length = PY.length := by simp
    have hDl2 : (DY.map oV).length = DY.length := by simp
    have hBl2 : (BY.map uV).length = BY.length := by simp
    have hDD : DX.length = DY.length := by omega
    subst hpa
    subst hlaa
    subst hpb
    subst hlb
    have hfN : fa = (DX.length : Int) := by omega
    have hDle : DX.length ≤ 65536 := by omega
    rw [hfN]
    clear hsa hsb e2 e3 hoka hokb hal hbl hpla hplb hfra hfrb htoa htob hda hdb hfN hmf hra hrb
    (refine st_E20_1 ?_; intros; rename_i x y bu bv)
    refine WC.newRow (T := 84) (sz := 3) ?_
    refine WC.newRow (T := 84) (sz := 3) ?_
    refine WC.loopH [(18, .int .i64 ((0) : Int)), (17, .int .i64 ((0) : Int)), (7, .int .i64 (DX.length : Int)), (13, .pointer (some ⟨x, 0, none⟩)), (14, .pointer (some ⟨y, 0, none⟩)), (15, .pointer (some ⟨bu, 0, none⟩)), (16, .pointer (some ⟨bv, 0, none⟩))] ?_ ?_ (fun j r ds m' H' => ∃ (p : Nat) (cu : Option Addr) (cpu : Nat) (U : Bld) (cv : Option Addr) (cpv : Nat) (V : Bld) (al : Nat) (k : Nat), j = DX.length + 1 - p ∧ r = [(18, .int .i64 (p : Int)), (17, .int .i64 (al : Int)), (7, .int .i64 (DX.length : Int)), (13, .pointer (some ⟨x, 0, none⟩)), (14, .pointer (some ⟨y, 0, none⟩)), (15, .pointer (some ⟨bu, 0, none⟩)), (16, .pointer (some ⟨bv, 0, none⟩))] ∧ ds = [] ∧ m = m' ∧ H' = .blk bu (.cells [.slice cu U.l.length cpu, str U.p, str U.d].toArray 109 (0, 0)) :: .row cu cpu 84 3 (U.l.map Stp.cs) :: .blk bv (.cells [.slice cv V.l.length cpv, str V.p, str V.d].toArray 109 (0, 0)) :: .row cv cpv 84 3 (V.l.map Stp.cs) :: .blk x (.cells [.slice (some ⟨q2, 0, none⟩) PX.length PX.length, .slice (some ⟨q4, 0, none⟩) DX.length DX.length, .slice (some ⟨q6, 0, none⟩) BX.length BX.length].toArray 92 (0, 0)) :: .row (some ⟨q2, 0, none⟩) PX.length 9 1 (PX.map sV) :: .row (some ⟨q4, 0, none⟩) DX.length 4 1 (DX.map oV) :: .row (some ⟨q6, 0, none⟩) BX.length 5 1 (BX.map uV) :: .blk y (.cells [.slice (some ⟨z2, 0, none⟩) PY.length PY.length, .slice (some ⟨z4, 0, none⟩) DY.length DY.length, .slice (some ⟨z6, 0, none⟩) BY.length BY.length].toArray 92 (0, 0)) :: .row (some ⟨z2, 0, none⟩) PY.length 9 1 (PY.map sV) :: .row (some ⟨z4, 0, none⟩) DY.length 4 1 (DY.map oV) :: .row (some ⟨z6, 0, none⟩) BY.length 5 1 (BY.map uV) :: H ∧ (p ≤ DX.length) ∧ (BFit k U) ∧ (BFit k V) ∧ (k + 4 * ((sdA ((PX.zip (DX.zip BX)).drop p) (PX.getD DX.length [])).length + (sdA ((PY.zip (DY.zip BY)).drop p) (PY.getD DY.length [])).length) ≤ 10000000 ∧ al ≤ k) ∧ (carT U V al (sdA ((PX.zip (DX.zip BX)).drop p) (PX.getD DX.length [])) (sdA ((PY.zip (DY.zip BY)).drop p) (PY.getD DY.length [])) = carT Bld.start Bld.start 0 (sdA (PX.zip (DX.zip BX)) (PX.getD DX.length [])) (sdA (PY.zip (DY.zip BY)) (PY.getD DY.length [])))) (DX.length + 1 - (0)) ⟨0, none, 0, Bld.start, none, 0, Bld.start, 0, 0, rfl, rfl, rfl, rfl, rfl, by omega, BFit.start, BFit.start, by rw [List.drop_zero, List.drop_zero]; omega, by rw [List.drop_zero, List.drop_zero]⟩ ?_
    · (repeat (first | exact Env.Sub.nil | refine Env.Sub.cons rfl ?_))
    · exact (fun w h => Pick.sat (by iterate 60 (try (first | exact Pick.all | (apply Pick.take; (· (repeat (first | exact Out.here | apply Out.there)))) | apply Pick.drop))) h)
    rintro j r ds m' H' ⟨p, cu, cpu, U, cv, cpv, V, al, k, rfl, rfl, rfl, rfl, rfl, hp, hU, hV, hk, ht⟩
    have hpx : p < PX.length := by omega
    have hpy : p < PY.length := by omega
    have hgx : (PX.map sV)[p]? = some [str PX[p]] := by rw [List.getElem?_map, List.getElem?_eq_getElem hpx]; rfl
    have hgy : (PY.map sV)[p]? = some [str PY[p]] := by rw [List.getElem?_map, List.getElem?_eq_getElem hpy]; rfl
    have hUp := hU.p
    have hVp := hV.p
    have eal : (al : Int) + (PX[p].length : Int) + (PY[p].length : Int) = ((al + PX[p].length + PY[p].length : Nat) : Int) := by omega
    have hU1 := bfit_put hU PX[p]
    have hU2 := hU1.keep (n := PY[p].length)
    have hV1 := hV.keep (n := PX[p].length)
    have hV2 := bfit_put hV1 PY[p]
    have hbx := pos_left la1 la2 hpx
    have hby := pos_left lb1 lb2 hpy
    have hbk : PX[p].length ≤ 10000000 ∧ PY[p].length ≤ 10000000 := by omega
    (try (refine st_E20_1 ?_; intros))
    refine WL.heap (H' := .blk bv (.cells [.slice cv V.l.length cpv, str V.p, str V.d].toArray 109 (0, 0)) :: .row cv cpv 84 3 (V.l.map Stp.cs) :: .blk bu (.cells [.slice cu U.l.length cpu, str (U.p ++ PX[p]), str U.d].toArray 109 (0, 0)) :: .row cu cpu 84 3 (U.l.map Stp.cs) :: .blk x (.cells [.slice (some ⟨q2, 0, none⟩) PX.length PX.length, .slice (some ⟨q4, 0, none⟩) DX.length DX.length, .slice (some ⟨q6, 0, none⟩) BX.length BX.length].toArray 92 (0, 0)) :: .row (some ⟨q2, 0, none⟩) PX.length 9 1 (PX.map sV) :: .row (some ⟨q4, 0, none⟩) DX.length 4 1 (DX.map oV) :: .row (some ⟨q6, 0, none⟩) BX.length 5 1 (BX.map uV) :: .blk y (.cells [.slice (some ⟨z2, 0, none⟩) PY.length PY.length, .slice (some ⟨z4, 0, none⟩) DY.length DY.length, .slice (some ⟨z6, 0, none⟩) BY.length BY.length].toArray 92 (0, 0)) :: .row (some ⟨z2, 0, none⟩) PY.length 9 1 (PY.map sV) :: .row (some ⟨z4, 0, none⟩) DY.length 4 1 (DY.map oV) :: .row (some ⟨z6, 0, none⟩) BY.length 5 1 (BY.map uV) :: H) (fun w h => Pick.sat (by iterate 60 (try (first | exact Pick.all | (apply Pick.take; (· (repeat (first | exact Out.here | apply Out.there)))) | apply Pick.drop))) h) ?_
    refine w_callF Try.func50 ?_ (hs := mkeep_any V PX[p].length (by omega) (hV.mono (by omega)) _ _ _)
    rintro v m H1 ⟨rfl, rfl, cv2, cpv2, rfl⟩
    generalize hV1e : V.keep (PX[p].length : Int) = V1 at *
    (try (refine st_E20_1 ?_; intros))
    refine WL.heap (H' := .blk bu (.cells [.slice cu U.l.length cpu, str (U.p ++ PX[p]), str U.d].toArray 109 (0, 0)) :: .row cu cpu 84 3 (U.l.map Stp.cs) :: .blk bv (.cells [.slice cv2 V1.l.length cpv2, str V1.p, str V1.d].toArray 109 (0, 0)) :: .row cv2 cpv2 84 3 (V1.l.map Stp.cs) :: .blk x (.cells [.slice (some ⟨q2, 0, none⟩) PX.length PX.length, .slice (some ⟨q4, 0, none⟩) DX.length DX.length, .slice (some ⟨q6, 0, none⟩) BX.length BX.length].toArray 92 (0, 0)) :: .row (some ⟨q2, 0, none⟩) PX.length 9 1 (PX.map sV) :: .row (some ⟨q4, 0, none⟩) DX.length 4 1 (DX.map oV) :: .row (some ⟨q6, 0, none⟩) BX.length 5 1 (BX.map uV) :: .blk y (.cells [.slice (some ⟨z2, 0, none⟩) PY.length PY.length, .slice (some ⟨z4, 0, none⟩) DY.length DY.length, .slice (some ⟨z6, 0, none⟩) BY.length BY.length].toArray 92 (0, 0)) :: .row (some ⟨z2, 0, none⟩) PY.length 9 1 (PY.map sV) :: .row (some ⟨z4, 0, none⟩) DY.length 4 1 (DY.map oV) :: .row (some ⟨z6, 0, none⟩) BY.length 5 1 (BY.map uV) :: H) (fun w h => Pick.sat (by iterate 60 (try (first | exact Pick.all | (apply Pick.take; (· (repeat (first | exact Out.here | apply Out.there)))) | apply Pick.drop))) h) ?_
    refine w_callF Try.func50 ?_ (hs := mkeep_any ⟨U.l, U.p ++ PX[p], U.d⟩ PY[p].length (by omega) (hU1.mono (by omega)) _ _ _)
    rintro v m H1 ⟨rfl, rfl, cu2, cpu2, rfl⟩
    generalize hU2e : (⟨U.l, U.p ++ PX[p], U.d⟩ : Bld).keep (PY[p].length : Int) = U2 at *
    have hV1p := hV1.p
    by_cases hlt : p < DX.length
    · have hxd : p < DX.length := hlt
      have hyd : p < DY.length := by omega
      have hxb : p < BX.length := by omega
      have hyb : p < BY.length := by omega
      have gxd : (DX.map oV)[p]? = some [.bool DX[p]] := by rw [List.getElem?_map, List.getElem?_eq_getElem hxd]; rfl
      have gyd : (DY.map oV)[p]? = some [.bool DY[p]] := by rw [List.getElem?_map, List.getElem?_eq_getElem hyd]; rfl
      have gxb : (BX.map uV)[p]? = some [.int .u8 (BX[p].toNat : Int)] := by rw [List.getElem?_map, List.getElem?_eq_getElem hxb]; rfl
      have gyb : (BY.map uV)[p]? = some [.int .u8 (BY[p].toNat : Int)] := by rw [List.getElem?_map, List.getElem?_eq_getElem hyb]; rfl
      rw [pos_drop la1 la2 hxd, pos_drop lb1 lb2 hyd, car_pos] at ht
      rw [pos_less la1 la2 hxd, pos_less lb1 lb2 hyd] at hk
      dsimp only at ht
      rw [hV1e, hU2e] at ht
      have hU2d := hU2.d
      cases hdx : DX[p] with
      | true =>
        rw [hdx] at gxd ht
        cases hdy : DY[p] with
        | true =>
          rw [hdy] at gyd ht
          simp only [and_self, if_true] at ht
          by_cases hb : BX[p] = BY[p]
          · rw [if_pos hb] at ht
            have hb' : (BX[p].toNat : Int) = (BY[p].toNat : Int) := by rw [hb]
            (try (refine st_E20_1 ?_; intros))
            rw [eal]
            refine WQ.next (DX.length + 1 - (p + 1)) ⟨p + 1, cu2, cpu2, U2, cv2, cpv2, ⟨V1.l, V1.p ++ PY[p], V1.d⟩, al + PX[p].length + PY[p].length, k + PX[p].length + PY[p].length + 7, rfl, rfl, rfl, rfl, rfl, ?_, ?_, ?_, ?_, ?_⟩ (by omega) (by (repeat (first | exact Env.Sub.nil | refine Env.Sub.cons rfl ?_))) (fun w h => Pick.sat (by iterate 60 (try (first | exact Pick.all | (apply Pick.take; (· (repeat (first | exact Out.here | apply Out.there)))) | apply Pick.drop))) h)
            · omega
            · exact hU2.mono (by omega)
            · exact hV2.mono (by omega)
            · omega
            · exact ht
          · rw [if_neg hb] at ht
            have hb' : ¬ (BX[p].toNat : Int) = (BY[p].toNat : Int) := fun h => hb (UInt8.toNat_inj.1 (by omega))
            have e : carP a b = .inl 270 := by rw [hcom, ← ht]
            rw [e]
            (try (refine st_E20_1 ?_; intros))
            exact q_fin0 (H0 := H) ⟨rfl, rfl, rfl⟩ (hd := (fun w h => Pick.sat (by iterate 60 (try (first | exact Pick.all | (apply Pick.take; (· (repeat (first | exact Out.here | apply Out.there)))) | apply Pick.drop))) h))
        | false =>
          rw [hdy] at gyd ht
          simp only [Bool.false_eq_true, and_false, if_false, if_true] at ht
          (try (refine st_E20_1 ?_; intros))
          refine WL.heap (H' := .blk bu (.cells [.slice cu2 U2.l.length cpu2, str U2.p, str U2.d].toArray 109 (0, 0)) :: .row cu2 cpu2 84 3 (U2.l.map Stp.cs) :: .blk bv (.cells [.slice cv2 V1.l.length cpv2, str (V1.p ++ PY[p]), str V1.d].toArray 109 (0, 0)) :: .row cv2 cpv2 84 3 (V1.l.map Stp.cs) :: .blk x (.cells [.slice (some ⟨q2, 0, none⟩) PX.length PX.length, .slice (some ⟨q4, 0, none⟩) DX.length DX.length, .slice (some ⟨q6, 0, none⟩) BX.length BX.length].toArray 92 (0, 0)) :: .row (some ⟨q2, 0, none⟩) PX.length 9 1 (PX.map sV) :: .row (some ⟨q4, 0, none⟩) DX.length 4 1 (DX.map oV) :: .row (some ⟨q6, 0, none⟩) BX.length 5 1 (BX.map uV) :: .blk y (.cells [.slice (some ⟨z2, 0, none⟩) PY.length PY.length, .slice (some ⟨z4, 0, none⟩) DY.length DY.length, .slice (some ⟨z6, 0, none⟩) BY.length BY.length].toArray 92 (0, 0)) :: .row (some ⟨z2, 0, none⟩) PY.length 9 1 (PY.map sV) :: .row (some ⟨z4, 0, none⟩) DY.length 4 1 (DY.map oV) :: .row (some ⟨z6, 0, none⟩) BY.length 5 1 (BY.map uV) :: H) (fun w h => Pick.sat (by iterate 60 (try (first | exact Pick.all | (apply Pick.take; (· (repeat (first | exact Out.here | apply Out.there)))) | apply Pick.drop))) h) ?_
          refine w_callF Try.func49 ?_ (hs := mdrop_any U2 BX[p] (by omega) _ _ _)
          rintro v m H1 ⟨rfl, rfl, rfl⟩
          (try (refine st_E20_1 ?_; intros))
          rw [eal]
          refine WQ.next (DX.length + 1 - (p + 1)) ⟨p + 1, cu2, cpu2, ⟨U2.l, U2.p, U2.d ++ [BX[p]]⟩, cv2, cpv2, ⟨V1.l, V1.p ++ PY[p], V1.d⟩, al + PX[p].length + PY[p].length, k + PX[p].length + PY[p].length + 7, rfl, rfl, rfl, rfl, rfl, ?_, ?_, ?_, ?_, ?_⟩ (by omega) (by (repeat (first | exact Env.Sub.nil | refine Env.Sub.cons rfl ?_))) (fun w h => Pick.sat (by iterate 60 (try (first | exact Pick.all | (apply Pick.take; (· (repeat (first | exact Out.here | apply Out.there)))) | apply Pick.drop))) h)
          · omega
          · exact (bfit_drop hU2 [BX[p]]).mono (by simp only [List.length_singleton]; omega)
          · exact hV2.mono (by omega)
          · omega
          · exact ht
      | false =>
        rw [hdx] at gxd ht
        cases hdy : DY[p] with
        | true =>
          rw [hdy] at gyd ht
          simp only [Bool.false_eq_true, false_and, if_false, if_true] at ht
          (try (refine st_E20_1 ?_; intros))
          refine WL.heap (H' := .blk bv (.cells [.slice cv2 V1.l.length cpv2, str (V1.p ++ PY[p]), str V1.d].toArray 109 (0, 0)) :: .row cv2 cpv2 84 3 (V1.l.map Stp.cs) :: .blk bu (.cells [.slice cu2 U2.l.length cpu2, str U2.p, str U2.d].toArray 109 (0, 0)) :: .row cu2 cpu2 84 3 (U2.l.map Stp.cs) :: .blk x (.cells [.slice (some ⟨q2, 0, none⟩) PX.length PX.length, .slice (some ⟨q4, 0, none⟩) DX.length DX.length, .slice (some ⟨q6, 0, none⟩) BX.length BX.length].toArray 92 (0, 0)) :: .row (some ⟨q2, 0, none⟩) PX.length 9 1 (PX.map sV) :: .row (some ⟨q4, 0, none⟩) DX.length 4 1 (DX.map oV) :: .row (some ⟨q6, 0, none⟩) BX.length 5 1 (BX.map uV) :: .blk y (.cells [.slice (some ⟨z2, 0, none⟩) PY.length PY.length, .slice (some ⟨z4, 0, none⟩) DY.length DY.length, .slice (some ⟨z6, 0, none⟩) BY.length BY.length].toArray 92 (0, 0)) :: .row (some ⟨z2, 0, none⟩) PY.length 9 1 (PY.map sV) :: .row (some ⟨z4, 0, none⟩) DY.length 4 1 (DY.map oV) :: .row (some ⟨z6, 0, none⟩) BY.length 5 1 (BY.map uV) :: H) (fun w h => Pick.sat (by iterate 60 (try (first | exact Pick.all | (apply Pick.take; (· (repeat (first | exact Out.here | apply Out.there)))) | apply Pick.drop))) h) ?_
          refine w_callF Try.func49 ?_ (hs := mdrop_any ⟨V1.l, V1.p ++ PY[p], V1.d⟩ BY[p] (by have := hV2.d; simp only at this ⊢; omega) _ _ _)
          rintro v m H1 ⟨rfl, rfl, rfl⟩
          (try (refine st_E20_1 ?_; intros))
          rw [eal]
          refine WQ.next (DX.length + 1 - (p + 1)) ⟨p + 1, cu2, cpu2, U2, cv2, cpv2, ⟨V1.l, V1.p ++ PY[p], V1.d ++ [BY[p]]⟩, al + PX[p].length + PY[p].length, k + PX[p].length + PY[p].length + 7, rfl, rfl, rfl, rfl, rfl, ?_, ?_, ?_, ?_, ?_⟩ (by omega) (by (repeat (first | exact Env.Sub.nil | refine Env.Sub.cons rfl ?_))) (fun w h => Pick.sat (by iterate 60 (try (first | exact Pick.all | (apply Pick.take; (· (repeat (first | exact Out.here | apply Out.there)))) | apply Pick.drop))) h)
          · omega
          · exact hU2.mono (by omega)
          · exact (bfit_drop hV2 [BY[p]]).mono (by simp only [List.length_singleton]; omega)
          · omega
          · exact ht
        | false =>
          rw [hdy] at gyd ht
          simp only [Bool.false_eq_true, and_self, if_false] at ht
          have eal2 : ((al + PX[p].length + PY[p].length : Nat) : Int) + 1 = ((al + PX[p].length + PY[p].length + 1 : Nat) : Int) := by omega
          (try (refine st_E20_1 ?_; intros))
          refine WL.heap (H' := .blk bu (.cells [.slice cu2 U2.l.length cpu2, str U2.p, str U2.d].toArray 109 (0, 0)) :: .row cu2 cpu2 84 3 (U2.l.map Stp.cs) :: .blk bv (.cells [.slice cv2 V1.l.length cpv2, str (V1.p ++ PY[p]), str V1.d].toArray 109 (0, 0)) :: .row cv2 cpv2 84 3 (V1.l.map Stp.cs) :: .blk x (.cells [.slice (some ⟨q2, 0, none⟩) PX.length PX.length, .slice (some ⟨q4, 0, none⟩) DX.length DX.length, .slice (some ⟨q6, 0, none⟩) BX.length BX.length].toArray 92 (0, 0)) :: .row (some ⟨q2, 0, none⟩) PX.length 9 1 (PX.map sV) :: .row (some ⟨q4, 0, none⟩) DX.length 4 1 (DX.map oV) :: .row (some ⟨q6, 0, none⟩) BX.length 5 1 (BX.map uV) :: .blk y (.cells [.slice (some ⟨z2, 0, none⟩) PY.length PY.length, .slice (some ⟨z4, 0, none⟩) DY.length DY.length, .slice (some ⟨z6, 0, none⟩) BY.length BY.length].toArray 92 (0, 0)) :: .row (some ⟨z2, 0, none⟩) PY.length 9 1 (PY.map sV) :: .row (some ⟨z4, 0, none⟩) DY.length 4 1 (DY.map oV) :: .row (some ⟨z6, 0, none⟩) BY.length 5 1 (BY.map uV) :: H) (fun w h => Pick.sat (by iterate 60 (try (first | exact Pick.all | (apply Pick.take; (· (repeat (first | exact Out.here | apply Out.there)))) | apply Pick.drop))) h) ?_
          refine w_callF Try.func50 ?_ (hs := mkeep_any U2 1 (by omega) (hU2.mono (by omega)) _ _ _)
          rintro v m H1 ⟨rfl, rfl, cu3, cpu3, rfl⟩
          (try (refine st_E20_1 ?_; intros))
          refine WL.heap (H' := .blk bv (.cells [.slice cv2 V1.l.length cpv2, str (V1.p ++ PY[p]), str V1.d].toArray 109 (0, 0)) :: .row cv2 cpv2 84 3 (V1.l.map Stp.cs) :: .blk bu (.cells [.slice cu3 (U2.keep ((1 : Nat) : Int)).l.length cpu3, str (U2.keep ((1 : Nat) : Int)).p, str (U2.keep ((1 : Nat) : Int)).d].toArray 109 (0, 0)) :: .row cu3 cpu3 84 3 ((U2.keep ((1 : Nat) : Int)).l.map Stp.cs) :: .blk x (.cells [.slice (some ⟨q2, 0, none⟩) PX.length PX.length, .slice (some ⟨q4, 0, none⟩) DX.length DX.length, .slice (some ⟨q6, 0, none⟩) BX.length BX.length].toArray 92 (0, 0)) :: .row (some ⟨q2, 0, none⟩) PX.length 9 1 (PX.map sV) :: .row (some ⟨q4, 0, none⟩) DX.length 4 1 (DX.map oV) :: .row (some ⟨q6, 0, none⟩) BX.length 5 1 (BX.map uV) :: .blk y (.cells [.slice (some ⟨z2, 0, none⟩) PY.length PY.length, .slice (some ⟨z4, 0, none⟩) DY.length DY.length, .slice (some ⟨z6, 0, none⟩) BY.length BY.length].toArray 92 (0, 0)) :: .row (some ⟨z2, 0, none⟩) PY.length 9 1 (PY.map sV) :: .row (some ⟨z4, 0, none⟩) DY.length 4 1 (DY.map oV) :: .row (some ⟨z6, 0, none⟩) BY.length 5 1 (BY.map uV) :: H) (fun w h => Pick.sat (by iterate 60 (try (first | exact Pick.all | (apply Pick.take; (· (repeat (first | exact Out.here | apply Out.there)))) | apply Pick.drop))) h) ?_
          refine w_callF Try.func50 ?_ (hs := mkeep_any ⟨V1.l, V1.p ++ PY[p], V1.d⟩ 1 (by omega) (hV2.mono (by omega)) _ _ _)
          rintro v m H1 ⟨rfl, rfl, cv3, cpv3, rfl⟩
          (try (refine st_E20_1 ?_; intros))
          rw [eal, eal2]
          refine WQ.next (DX.length + 1 - (p + 1)) ⟨p + 1, cu3, cpu3, U2.keep ((1 : Nat) : Int), cv3, cpv3, (⟨V1.l, V1.p ++ PY[p], V1.d⟩ : Bld).keep ((1 : Nat) : Int), al + PX[p].length + PY[p].length + 1, k + PX[p].length + PY[p].length + 7, rfl, rfl, rfl, rfl, rfl, ?_, ?_, ?_, ?_, ?_⟩ (by omega) (by (repeat (first | exact Env.Sub.nil | refine Env.Sub.cons rfl ?_))) (fun w h => Pick.sat (by iterate 60 (try (first | exact Pick.all | (apply Pick.take; (· (repeat (first | exact Out.here | apply Out.there)))) | apply Pick.drop))) h)
          · omega
          · exact (hU2.keep (n := 1)).mono (by omega)
          · exact (hV2.keep (n := 1)).mono (by omega)
          · omega
          · exact ht
    · have hpe : p = DX.length := by omega
      have eL : PX.getD DX.length [] = PX[p] := getD_last hpe hpx
      have eM : PY.getD DY.length [] = PY[p] := getD_last (by omega) hpy
      rw [pos_end (by omega), pos_end (by omega), eL, eM, car_last] at ht
      dsimp only at ht
      rw [hV1e, hU2e] at ht
      have hcom2 : carP a b = if 65536 < al + PX[p].length + PY[p].length then .inl 3 else .inr (U2.close.l, (⟨V1.l, V1.p ++ PY[p], V1.d⟩ : Bld).close.l) := by
        rw [hcom, eL, eM, ← ht]
      have hU2l := hU2.len
      have hV2l := hV2.len
      rw [hcom2]
      by_cases hbig : 65536 < al + PX[p].length + PY[p].length
      · rw [if_pos hbig]
        (try (refine st_E20_1 ?_; intros))
        exact q_fin0 (H0 := H) ⟨rfl, rfl, rfl⟩ (hd := (fun w h => Pick.sat (by iterate 60 (try (first | exact Pick.all | (apply Pick.take; (· (repeat (first | exact Out.here | apply Out.there)))) | apply Pick.drop))) h))
      · rw [if_neg hbig]
        (try (refine st_E20_1 ?_; intros))
        refine WL.heap (H' := .blk bu (.cells [.slice cu2 U2.l.length cpu2, str U2.p, str U2.d].toArray 109 (0, 0)) :: .row cu2 cpu2 84 3 (U2.l.map Stp.cs) :: .blk bv (.cells [.slice cv2 V1.l.length cpv2, str (V1.p ++ PY[p]), str V1.d].toArray 109 (0, 0)) :: .row cv2 cpv2 84 3 (V1.l.map Stp.cs) :: H) (fun w h => Pick.sat (by iterate 60 (try (first | exact Pick.all | (apply Pick.take; (· (repeat (first | exact Out.here | apply Out.there)))) | apply Pick.drop))) h) ?_
        refine w_callF Try.func51 ?_ (hs := end_any U2 (by omega) _ _ _)
        rintro v m H1 ⟨rfl, rfl, cu3, cpu3, rfl⟩
        (try (refine st_E20_1 ?_; intros))
        refine WL.heap (H' := .blk bv (.cells [.slice cv2 V1.l.length cpv2, str (V1.p ++ PY[p]), str V1.d].toArray 109 (0, 0)) :: .row cv2 cpv2 84 3 (V1.l.map Stp.cs) :: .blk bu (.cells [.slice cu3 U2.close.l.length cpu3, str [], str []].toArray 109 (0, 0)) :: .row cu3 cpu3 84 3 (U2.close.l.map Stp.cs) :: H) (fun w h => Pick.sat (by iterate 60 (try (first | exact Pick.all | (apply Pick.take; (· (repeat (first | exact Out.here | apply Out.there)))) | apply Pick.drop))) h) ?_
        refine w_callF Try.func51 ?_ (hs := end_any ⟨V1.l, V1.p ++ PY[p], V1.d⟩ (by simp only at hV2l ⊢; omega) _ _ _)
        rintro v m H1 ⟨rfl, rfl, cv3, cpv3, rfl⟩
        (try (refine st_E20_1 ?_; intros))
        exact q_fin0 (H0 := .row cu3 cpu3 84 3 (U2.close.l.map Stp.cs) :: .row cv3 cpv3 84 3 ((⟨V1.l, V1.p ++ PY[p], V1.d⟩ : Bld).close.l.map Stp.cs) :: H) ⟨rfl, cu3, cpu3, cv3, cpv3, rfl, rfl⟩ (hd := (fun w h => Pick.sat (by iterate 60 (try (first | exact Pick.all | (apply Pick.take; (· (repeat (first | exact Out.here | apply Out.there)))) | apply Pick.drop))) h))
  · have e : carP a b = .inl 5 := by simp only [carP, hsa, hsb]; rw [if_pos hmf]
    rw [e]
    (try (refine st_E20_1 ?_; intros))
    exact q_fin0 (H0 := H) ⟨rfl, rfl, rfl⟩ (hd := (fun w h => Pick.sat (by iterate 60 (try (first | exact Pick.all | (apply Pick.take; (· (repeat (first | exact Out.here | apply Out.there)))) | apply Pick.drop))) h))
end Go.Proofs.Ytelgegefmjlimaa

/-
  The walks of package edit, tenth part: what a change makes of a text; the law's example. No condition.
-/
namespace Go.Eng
open Go Go.RowKit
theorem RowR.blk {w0 : World} {m : Mem} {H : SHeap} {b sz : Nat} {T : TypeId} {fz : Nat × Nat} {es : List (List Value)} {L : List Value} (hm : Item.blk b (.cells L.toArray T fz) ∈ H) (h1 : ∀ e ∈ es, e.length = sz) (hL : es.flatten = L) : RowR w0 m H sz (.some ⟨b, 0, .none⟩) es := by
  subst hL
  intro w hs
  refine ⟨h1, fun j v hj => ?_⟩
  rw [add_none]
  exact Cell.blk hm (by simpa using hj) w hs
def bV (b : UInt8) : List Value := [.int .u8 (b.toNat : Int)]
def applyV (s : List UInt8) (l : List Stp) : Value := match sizesOf l with
  | none => .tuple #[str [], .int .i64 2]
  | some (f, _) => if f ≠ s.length then .tuple #[str [], .int .i64 5] else match applyA s (atomsOf l) with
    | none => .tuple #[str [], .int .i64 270]
    | some o => .tuple #[str o, .int .i64 0]
end Go.Eng
namespace Go.Proofs.Ytelgegefmjlimaa
open Go Go.Eng
set_option maxRecDepth 100000
set_option maxHeartbeats 4000000
set_option linter.all false
attribute [local irreducible] WL WC WQ QFun QLoop Does Q1 QRound QAssign Go.Addr.add
attribute [local irreducible] applyA sizesF sizesOf
theorem sq_E10_1 {G : Prop} (h : G := by (repeat (first | (refine sp ?_; (repeat intro zzc)) | (refine iF 40 rfl ?_; refine w_callG Try.func40 ?_ (hs := sizes_any (by assumption) _ _ _ (by assumption))))); exact WQ.q1 rfl) : G := h
theorem st_E10_1 {G G' : Prop} (next : G') (h : Bx G' → G := by intro zzn; (first | ((refine st ?_; (repeat intro zzc)); (try ((first | (refine iF 40 rfl ?_; refine w_callG Try.func40 ?_ (hs := sizes_any (by assumption) _ _ _ (by assumption))) | ((refine iDraw ?_; (first | refine WC.drawAll rfl (by decide +kernel) ?_ | refine WC.draw 1 rfl (by decide +kernel) ?_ | refine WC.draw 2 rfl (by decide +kernel) ?_ | refine WC.draw 3 rfl (by decide +kernel) ?_ | refine WC.draw 4 rfl (by decide +kernel) ?_ | refine WC.draw 5 rfl (by decide +kernel) ?_ | refine WC.draw 6 rfl (by decide +kernel) ?_ | refine WC.draw 7 rfl (by decide +kernel) ?_ | refine WC.draw 8 rfl (by decide +kernel) ?_ | refine WC.draw 9 rfl (by decide +kernel) ?_ | refine WC.draw 10 rfl (by decide +kernel) ?_ | refine WC.draw 11 rfl (by decide +kernel) ?_ | refine WC.draw 12 rfl (by decide +kernel) ?_ | refine WC.draw 13 rfl (by decide +kernel) ?_ | refine WC.draw 14 rfl (by decide +kernel) ?_ | refine WC.draw 15 rfl (by decide +kernel) ?_ | refine WC.draw 16 rfl (by decide +kernel) ?_ | refine WC.draw 17 rfl (by decide +kernel) ?_ | refine WC.draw 18 rfl (by decide +kernel) ?_ | refine WC.draw 19 rfl (by decide +kernel) ?_ | refine WC.draw 20 rfl (by decide +kernel) ?_ | refine WC.draw 21 rfl (by decide +kernel) ?_ | refine WC.draw 22 rfl (by decide +kernel) ?_ | refine WC.draw 23 rfl (by decide +kernel) ?_ | refine WC.draw 24 rfl (by decide +kernel) ?_)); (repeat (refine WD.cons rfl (fun c h => by cases h) sq_E10_1 ?_)); refine WD.nil ?_)); (try (refine st ?_; (repeat intro zzc)))))) | ((first | (refine iF 40 rfl ?_; refine w_callG Try.func40 ?_ (hs := sizes_any (by assumption) _ _ _ (by assumption))) | ((refine iDraw ?_; (first | refine WC.drawAll rfl (by decide +kernel) ?_ | refine WC.draw 1 rfl (by decide +kernel) ?_ | refine WC.draw 2 rfl (by decide +kernel) ?_ | refine WC.draw 3 rfl (by decide +kernel) ?_ | refine WC.draw 4 rfl (by decide +kernel) ?_ | refine WC.draw 5 rfl (by decide +kernel) ?_ | refine WC.draw 6 rfl (by decide +kernel) ?_ | refine WC.draw 7 rfl (by decide +kernel) ?_ | refine WC.draw 8 rfl (by decide +kernel) ?_ | refine WC.draw 9 rfl (by decide +kernel) ?_ | refine WC.draw 10 rfl (by decide +kernel) ?_ | refine WC.draw 11 rfl (by decide +kernel) ?_ | refine WC.draw 12 rfl (by decide +kernel) ?_ | refine WC.draw 13 rfl (by decide +kernel) ?_ | refine WC.draw 14 rfl (by decide +kernel) ?_ | refine WC.draw 15 rfl (by decide +kernel) ?_ | refine WC.draw 16 rfl (by decide +kernel) ?_ | refine WC.draw 17 rfl (by decide +kernel) ?_ | refine WC.draw 18 rfl (by decide +kernel) ?_ | refine WC.draw 19 rfl (by decide +kernel) ?_ | refine WC.draw 20 rfl (by decide +kernel) ?_ | refine WC.draw 21 rfl (by decide +kernel) ?_ | refine WC.draw 22 rfl (by decide +kernel) ?_ | refine WC.draw 23 rfl (by decide +kernel) ?_ | refine WC.draw 24 rfl (by decide +kernel) ?_)); (repeat (refine WD.cons rfl (fun c h => by cases h) sq_E10_1 ?_)); refine WD.nil ?_)); (try (refine st ?_; (repeat intro zzc))))); (repeat ((first | (refine iF 40 rfl ?_; refine w_callG Try.func40 ?_ (hs := sizes_any (by assumption) _ _ _ (by assumption))) | ((refine iDraw ?_; (first | refine WC.drawAll rfl (by decide +kernel) ?_ | refine WC.draw 1 rfl (by decide +kernel) ?_ | refine WC.draw 2 rfl (by decide +kernel) ?_ | refine WC.draw 3 rfl (by decide +kernel) ?_ | refine WC.draw 4 rfl (by decide +kernel) ?_ | refine WC.draw 5 rfl (by decide +kernel) ?_ | refine WC.draw 6 rfl (by decide +kernel) ?_ | refine WC.draw 7 rfl (by decide +kernel) ?_ | refine WC.draw 8 rfl (by decide +kernel) ?_ | refine WC.draw 9 rfl (by decide +kernel) ?_ | refine WC.draw 10 rfl (by decide +kernel) ?_ | refine WC.draw 11 rfl (by decide +kernel) ?_ | refine WC.draw 12 rfl (by decide +kernel) ?_ | refine WC.draw 13 rfl (by decide +kernel) ?_ | refine WC.draw 14 rfl (by decide +kernel) ?_ | refine WC.draw 15 rfl (by decide +kernel) ?_ | refine WC.draw 16 rfl (by decide +kernel) ?_ | refine WC.draw 17 rfl (by decide +kernel) ?_ | refine WC.draw 18 rfl (by decide +kernel) ?_ | refine WC.draw 19 rfl (by decide +kernel) ?_ | refine WC.draw 20 rfl (by decide +kernel) ?_ | refine WC.draw 21 rfl (by decide +kernel) ?_ | refine WC.draw 22 rfl (by decide +kernel) ?_ | refine WC.draw 23 rfl (by decide +kernel) ?_ | refine WC.draw 24 rfl (by decide +kernel) ?_)); (repeat (refine WD.cons rfl (fun c h => by cases h) sq_E10_1 ?_)); refine WD.nil ?_)); (try (refine st ?_; (repeat intro zzc))))); (repeat revert zzc); exact zzn.out) : G := h ⟨next⟩
theorem apply_any {a : Option Addr} {cap : Nat} {l : List Stp} {s : List UInt8} (hf : Fit l) (hsl : s.length ≤ 1000000000) (w0 : World) (m : Mem) (H : SHeap) (hr : RowR w0 m H 3 a (l.map Stp.cs)) :
    Does Try.prog 22 #[str s, .slice a l.length cap] w0 m H (Gives (applyV s l) m H) := by
  refine Does.of_body (args := [str s, .slice a l.length cap]) Try.func22 rfl Try.ntmps22 rfl ?_
  have hln : (l.map Stp.cs).length = l.length := by simp
  have hlen := hf.len
  cases hs : sizesOf l with
  | none =>
    have e : applyV s l = .tuple #[str [], .int .i64 2] := by simp only [applyV, hs]
    have e2 : szP (sizesOf l) = .tuple #[.int .i64 0, .int .i64 0, .int .i64 2] := by rw [hs]; rfl
    rw [e]
    (try (refine st_E10_1 ?_; intros))
    rw [e2]
    (try (refine st_E10_1 ?_; intros))
    exact q_fin0 (H0 := H) (Gives.mk rfl) (hd := (fun w h => Pick.sat (by iterate 60 (try (first | exact Pick.all | (apply Pick.take; (· (repeat (first | exact Out.here | apply Out.there)))) | apply Pick.drop))) h))
  | some ft =>
    obtain ⟨f, t⟩ := ft
    have e2 : szP (sizesOf l) = .tuple #[.int .i64 f, .int .i64 t, .int .i64 0] := by rw [hs]; rfl
    obtain ⟨hok, hal, hpl, hfr, _, g1, g2, _, _⟩ := sized hs
    by_cases hfs : f = s.length
    · (try (refine st_E10_1 ?_; intros))
      rw [e2]
      (try (refine st_E10_1 ?_; intros))
      refine WC.newRow (T := 5) (sz := 1) ?_
      refine WC.loopH [(29, .int .i64 ((0) : Int)), (28, .int .i64 (l.length : Int)), (27, .slice a l.length cap), (0, str (s)), (9, .slice (none) (0) (0))] ?_ ?_ (fun j r ds m' H' => ∃ i S a9 c9 n9 O, j = l.length - i ∧ r = [(29, .int .i64 (i : Int)), (28, .int .i64 (l.length : Int)), (27, .slice a l.length cap), (0, str S), (9, .slice a9 n9 c9)] ∧ ds = [] ∧ m = m' ∧ H' = .row a9 c9 5 1 (O.map bV) :: H ∧ (i ≤ l.length) ∧ (n9 = O.length) ∧ (O.length ≤ (atomsOf (l.take i)).length + s.length - S.length) ∧ (S.length ≤ s.length) ∧ (fromA (atomsOf (l.drop i)) = S.length) ∧ ((applyA S (atomsOf (l.drop i))).map (O ++ ·) = applyA s (atomsOf l))) (l.length - (0)) ⟨0, s, none, 0, 0, ([] : List UInt8), rfl, rfl, rfl, rfl, rfl, by omega, rfl, by simp, by omega, by rw [List.drop_zero]; omega, by simp⟩ ?_
      · (repeat (first | exact Env.Sub.nil | refine Env.Sub.cons rfl ?_))
      · exact (fun w h => Pick.sat (by iterate 60 (try (first | exact Pick.all | (apply Pick.take; (· (repeat (first | exact Out.here | apply Out.there)))) | apply Pick.drop))) h)
      rintro j r ds m' H' ⟨i, S, a9, c9, n9, O, rfl, rfl, rfl, rfl, rfl, hi, hn9, hO, hSl, hSf, hR⟩
      have hOl : (O.map bV).length = O.length := by simp
      have htl : (atomsOf (l.take i)).length ≤ (atomsOf l).length := by
        have e : atomsOf l = atomsOf (l.take i) ++ atomsOf (l.drop i) := by rw [← atoms_append, List.take_append_drop]
        rw [e]; simp
      subst hn9
      by_cases hlt : i < l.length
      · obtain ⟨x, hx, hget, htk, hmem, hdr⟩ := at_idx (f := Stp.cs) hlt
        have hxl : (atomsOf (l.take (i + 1))).length = (atomsOf (l.take i)).length + x.atoms.length := by rw [htk, atoms_append, atoms_one, List.length_append]
        have hxm : (atomsOf (l.take (i + 1))).length ≤ (atomsOf l).length := by
          have e : atomsOf l = atomsOf (l.take (i + 1)) ++ atomsOf (l.drop (i + 1)) := by rw [← atoms_append, List.take_append_drop]
          rw [e, List.length_append]; omega
        rw [atoms_len] at hxl
        rw [hdr, atoms_cons] at hR hSf
        rw [fromA_append, from_step] at hSf
        have hr1 := hr.more (i := .row a9 c9 5 1 (O.map bV))
        have hxok := hok x hmem
        refine WC.rSome hr1 (by omega) ?_
        rintro a0 rfl
        rcases hxok with ⟨h1, h2, h3⟩ | ⟨h1, h2, h3⟩ | ⟨h1, h2, h3⟩
        · have h2' : x.d.length = 0 := by rw [h2]; rfl
          have h3' : x.p.length = 0 := by rw [h3]; rfl
          have ea : x.atoms = List.replicate x.k.toNat .k := by simp [Stp.atoms, h2, h3]
          rw [ea, applyA_ks x.k.toNat S _ (by omega), Option.map_map] at hR
          have hmin : (S.take x.k.toNat).length = x.k.toNat := by simp; omega
          have hed : (S.drop x.k.toNat).length = S.length - x.k.toNat := by simp
          (refine st_E10_1 ?_; intros; rename_i bx a8 c8)
          rw [hOl, hmin]
          have em : O.map bV ++ (S.take x.k.toNat).map (fun b => [Value.int .u8 (b.toNat : Int)]) = (O ++ S.take x.k.toNat).map bV := by rw [List.map_append]; rfl
          rw [em]
          refine WQ.next (l.length - (i + 1)) ⟨i + 1, S.drop x.k.toNat, a8, c8, O.length + x.k.toNat, O ++ S.take x.k.toNat, rfl, rfl, rfl, rfl, rfl, ?_, ?_, ?_, ?_, ?_, ?_⟩ (by omega) (by (repeat (first | exact Env.Sub.nil | refine Env.Sub.cons rfl ?_))) (fun w h => Pick.sat (by iterate 60 (try (first | exact Pick.all | (apply Pick.take; (· (repeat (first | exact Out.here | apply Out.there)))) | apply Pick.drop))) h)
          · omega
          · rw [List.length_append, hmin]
          · rw [List.length_append, hmin]; omega
          · omega
          · omega
          · rw [← hR]; congr 1; funext q; simp
        · have h3' : x.p.length = 0 := by rw [h3]; rfl
          have ea : x.atoms = x.d.map .d := by simp [Stp.atoms, h1, h3]
          rw [ea, applyA_ds x.d S _ (by omega)] at hR
          have hed : (S.drop x.d.length).length = S.length - x.d.length := by simp
          by_cases h4 : S.take x.d.length = x.d
          · rw [if_pos h4] at hR
            (try (refine st_E10_1 ?_; intros))
            refine WQ.next (l.length - (i + 1)) ⟨i + 1, S.drop x.d.length, a9, c9, O.length, O, rfl, rfl, rfl, rfl, rfl, ?_, ?_, ?_, ?_, ?_, ?_⟩ (by omega) (by (repeat (first | exact Env.Sub.nil | refine Env.Sub.cons rfl ?_))) (fun w h => Pick.sat (by iterate 60 (try (first | exact Pick.all | (apply Pick.take; (· (repeat (first | exact Out.here | apply Out.there)))) | apply Pick.drop))) h)
            · omega
            · rfl
            · omega
            · omega
            · omega
            · exact hR
          · rw [if_neg h4] at hR
            have e : applyV s l = .tuple #[str [], .int .i64 270] := by simp only [applyV, hs, hfs, ne_eq, not_true, if_false, ← hR, Option.map_none]
            rw [e]
            (try (refine st_E10_1 ?_; intros))
            exact q_fin0 (H0 := H) (Gives.mk rfl) (hd := (fun w h => Pick.sat (by iterate 60 (try (first | exact Pick.all | (apply Pick.take; (· (repeat (first | exact Out.here | apply Out.there)))) | apply Pick.drop))) h))
        · have h2' : x.d.length = 0 := by rw [h2]; rfl
          have ea : x.atoms = x.p.map .p := by simp [Stp.atoms, h1, h2]
          rw [ea, applyA_ps S x.p, Option.map_map] at hR
          (refine st_E10_1 ?_; intros; rename_i bx a8 c8)
          rw [hOl]
          have em : O.map bV ++ x.p.map (fun b => [Value.int .u8 (b.toNat : Int)]) = (O ++ x.p).map bV := by rw [List.map_append]; rfl
          rw [em]
          refine WQ.next (l.length - (i + 1)) ⟨i + 1, S, a8, c8, O.length + x.p.length, O ++ x.p, rfl, rfl, rfl, rfl, rfl, ?_, ?_, ?_, ?_, ?_, ?_⟩ (by omega) (by (repeat (first | exact Env.Sub.nil | refine Env.Sub.cons rfl ?_))) (fun w h => Pick.sat (by iterate 60 (try (first | exact Pick.all | (apply Pick.take; (· (repeat (first | exact Out.here | apply Out.there)))) | apply Pick.drop))) h)
          · omega
          · rw [List.length_append]
          · rw [List.length_append]; omega
          · omega
          · omega
          · rw [← hR]; congr 1; funext q; simp
      · obtain rfl : i = l.length := by omega
        rw [List.drop_length] at hR
        have e : applyV s l = .tuple #[str O, .int .i64 0] := by
          have : some O = applyA s (atomsOf l) := by rw [← hR, show atomsOf [] = [] from rfl, applyA_nil]; simp
          simp only [applyV, hs, hfs, ne_eq, not_true, if_false, ← this]
        rw [e]
        (try (refine st_E10_1 ?_; intros))
        refine WL.rowStr (s := O) rfl rfl (by (repeat (first | exact List.Mem.head _ | apply List.Mem.tail))) rfl rfl rfl rfl rfl ?_
        (try (refine st_E10_1 ?_; intros))
        exact q_fin0 (H0 := H) (Gives.mk rfl) (hd := (fun w h => Pick.sat (by iterate 60 (try (first | exact Pick.all | (apply Pick.take; (· (repeat (first | exact Out.here | apply Out.there)))) | apply Pick.drop))) h))
    · have e : applyV s l = .tuple #[str [], .int .i64 5] := by simp [applyV, hs, hfs]
      rw [e]
      (try (refine st_E10_1 ?_; intros))
      rw [e2]
      (try (refine st_E10_1 ?_; intros))
      exact q_fin0 (H0 := H) (Gives.mk rfl) (hd := (fun w h => Pick.sat (by iterate 60 (try (first | exact Pick.all | (apply Pick.take; (· (repeat (first | exact Out.here | apply Out.there)))) | apply Pick.drop))) h))
theorem sq_E10_2 {G : Prop} (h : G := by (repeat (first | (refine sp ?_; (repeat intro zzc)))); exact WQ.q1 rfl) : G := h
theorem st_E10_2 {G G' : Prop} (next : G') (h : Bx G' → G := by intro zzn; (first | ((refine st ?_; (repeat intro zzc)); (try ((first | ((refine iDraw ?_; (first | refine WC.drawAll rfl (by decide +kernel) ?_ | refine WC.draw 1 rfl (by decide +kernel) ?_ | refine WC.draw 2 rfl (by decide +kernel) ?_ | refine WC.draw 3 rfl (by decide +kernel) ?_ | refine WC.draw 4 rfl (by decide +kernel) ?_ | refine WC.draw 5 rfl (by decide +kernel) ?_ | refine WC.draw 6 rfl (by decide +kernel) ?_ | refine WC.draw 7 rfl (by decide +kernel) ?_ | refine WC.draw 8 rfl (by decide +kernel) ?_ | refine WC.draw 9 rfl (by decide +kernel) ?_ | refine WC.draw 10 rfl (by decide +kernel) ?_ | refine WC.draw 11 rfl (by decide +kernel) ?_ | refine WC.draw 12 rfl (by decide +kernel) ?_ | refine WC.draw 13 rfl (by decide +kernel) ?_ | refine WC.draw 14 rfl (by decide +kernel) ?_ | refine WC.draw 15 rfl (by decide +kernel) ?_ | refine WC.draw 16 rfl (by decide +kernel) ?_ | refine WC.draw 17 rfl (by decide +kernel) ?_ | refine WC.draw 18 rfl (by decide +kernel) ?_ | refine WC.draw 19 rfl (by decide +kernel) ?_ | refine WC.draw 20 rfl (by decide +kernel) ?_ | refine WC.draw 21 rfl (by decide +kernel) ?_ | refine WC.draw 22 rfl (by decide +kernel) ?_ | refine WC.draw 23 rfl (by decide +kernel) ?_ | refine WC.draw 24 rfl (by decide +kernel) ?_)); (repeat (refine WD.cons rfl (fun c h => by cases h) sq_E10_2 ?_)); refine WD.nil ?_)); (try (refine st ?_; (repeat intro zzc)))))) | ((first | ((refine iDraw ?_; (first | refine WC.drawAll rfl (by decide +kernel) ?_ | refine WC.draw 1 rfl (by decide +kernel) ?_ | refine WC.draw 2 rfl (by decide +kernel) ?_ | refine WC.draw 3 rfl (by decide +kernel) ?_ | refine WC.draw 4 rfl (by decide +kernel) ?_ | refine WC.draw 5 rfl (by decide +kernel) ?_ | refine WC.draw 6 rfl (by decide +kernel) ?_ | refine WC.draw 7 rfl (by decide +kernel) ?_ | refine WC.draw 8 rfl (by decide +kernel) ?_ | refine WC.draw 9 rfl (by decide +kernel) ?_ | refine WC.draw 10 rfl (by decide +kernel) ?_ | refine WC.draw 11 rfl (by decide +kernel) ?_ | refine WC.draw 12 rfl (by decide +kernel) ?_ | refine WC.draw 13 rfl (by decide +kernel) ?_ | refine WC.draw 14 rfl (by decide +kernel) ?_ | refine WC.draw 15 rfl (by decide +kernel) ?_ | refine WC.draw 16 rfl (by decide +kernel) ?_ | refine WC.draw 17 rfl (by decide +kernel) ?_ | refine WC.draw 18 rfl (by decide +kernel) ?_ | refine WC.draw 19 rfl (by decide +kernel) ?_ | refine WC.draw 20 rfl (by decide +kernel) ?_ | refine WC.draw 21 rfl (by decide +kernel) ?_ | refine WC.draw 22 rfl (by decide +kernel) ?_ | refine WC.draw 23 rfl (by decide +kernel) ?_ | refine WC.draw 24 rfl (by decide +kernel) ?_)); (repeat (refine WD.cons rfl (fun c h => by cases h) sq_E10_2 ?_)); refine WD.nil ?_)); (try (refine st ?_; (repeat intro zzc))))); (repeat ((first | ((refine iDraw ?_; (first | refine WC.drawAll rfl (by decide +kernel) ?_ | refine WC.draw 1 rfl (by decide +kernel) ?_ | refine WC.draw 2 rfl (by decide +kernel) ?_ | refine WC.draw 3 rfl (by decide +kernel) ?_ | refine WC.draw 4 rfl (by decide +kernel) ?_ | refine WC.draw 5 rfl (by decide +kernel) ?_ | refine WC.draw 6 rfl (by decide +kernel) ?_ | refine WC.draw 7 rfl (by decide +kernel) ?_ | refine WC.draw 8 rfl (by decide +kernel) ?_ | refine WC.draw 9 rfl (by decide +kernel) ?_ | refine WC.draw 10 rfl (by decide +kernel) ?_ | refine WC.draw 11 rfl (by decide +kernel) ?_ | refine WC.draw 12 rfl (by decide +kernel) ?_ | refine WC.draw 13 rfl (by decide +kernel) ?_ | refine WC.draw 14 rfl (by decide +kernel) ?_ | refine WC.draw 15 rfl (by decide +kernel) ?_ | refine WC.draw 16 rfl (by decide +kernel) ?_ | refine WC.draw 17 rfl (by decide +kernel) ?_ | refine WC.draw 18 rfl (by decide +kernel) ?_ | refine WC.draw 19 rfl (by decide +kernel) ?_ | refine WC.draw 20 rfl (by decide +kernel) ?_ | refine WC.draw 21 rfl (by decide +kernel) ?_ | refine WC.draw 22 rfl (by decide +kernel) ?_ | refine WC.draw 23 rfl (by decide +kernel) ?_ | refine WC.draw 24 rfl (by decide +kernel) ?_)); (repeat (refine WD.cons rfl (fun c h => by cases h) sq_E10_2 ?_)); refine WD.nil ?_)); (try (refine st ?_; (repeat intro zzc))))); (repeat revert zzc); exact zzn.out) : G := h ⟨next⟩
theorem live_val : applyV [97, 98] [⟨1, [], []⟩, ⟨0, [98], []⟩, ⟨0, [], [99]⟩] = .tuple #[str [97, 99], .int .i64 0] := by
  have h1 : sizesOf [⟨1, [], []⟩, ⟨0, [98], []⟩, ⟨0, [], [99]⟩] = some (2, 2) := by decide +kernel
  have h2 : applyA [97, 98] (atomsOf [⟨1, [], []⟩, ⟨0, [98], []⟩, ⟨0, [], [99]⟩]) = some [97, 99] := by decide +kernel
  simp only [applyV, h1, h2]
  rfl
theorem live_any (w0 : World) (m : Mem) (H : SHeap) : Does Try.prog 12 #[] w0 m H (Gives (.bool true) m H) := by
  refine Does.of_body (args := []) Try.func12 rfl Try.ntmps12 rfl ?_
  (refine st_E10_2 ?_; intros; rename_i b)
  refine w_callF Try.func22 ?_ (hs := apply_any (s := [97, 98]) (l := [⟨1, [], []⟩, ⟨0, [98], []⟩, ⟨0, [], [99]⟩]) ⟨by decide, by decide, by decide, by decide⟩ (by decide) _ _ _ (RowR.blk (by (repeat (first | exact List.Mem.head _ | apply List.Mem.tail))) (by decide) rfl))
  rintro v m1 H1 ⟨rfl, rfl, rfl⟩
  rw [live_val]
  (try (refine st_E10_2 ?_; intros))
  (refine q_fin0 ?_)
  exact Gives.mk (by rw [dcd_true rfl])
end Go.Proofs.Ytelgegefmjlimaa

/-
  Plain facts on changes: turned about; their one form. No condition.
-/
namespace Go.Eng
open Go
def Atm.inv : Atm → Atm
  | .k => .k
  | .d b => .p b
  | .p b => .d b
def Stp.inv (s : Stp) : Stp := ⟨s.k, s.p, s.d⟩
def Gap.inv (g : Gap) : Gap := ⟨g.d, g.p⟩
def Gs.inv (g : Gs) : Gs := ⟨g.done.map Gap.inv, g.cur.inv⟩
theorem inv_ok {s : Stp} (h : stpOk s) : stpOk s.inv := by
  rcases h with ⟨h1, h2, h3⟩ | ⟨h1, h2, h3⟩ | ⟨h1, h2, h3⟩
  · exact .inl ⟨h1, h3, h2⟩
  · exact .inr (.inr ⟨h1, h3, h2⟩)
  · exact .inr (.inl ⟨h1, h3, h2⟩)
theorem inv_atoms {s : Stp} (h : stpOk s) : s.inv.atoms = s.atoms.map Atm.inv := by
  have hk : ∀ n, (List.replicate n Atm.k).map Atm.inv = List.replicate n Atm.k := fun n => by simp [Atm.inv]
  have hd : ∀ l : List UInt8, (l.map Atm.d).map Atm.inv = l.map Atm.p := fun l => by rw [List.map_map]; rfl
  have hp : ∀ l : List UInt8, (l.map Atm.p).map Atm.inv = l.map Atm.d := fun l => by rw [List.map_map]; rfl
  rcases h with ⟨h1, h2, h3⟩ | ⟨h1, h2, h3⟩ | ⟨h1, h2, h3⟩ <;> simp only [Stp.atoms, Stp.inv, h1, h2, h3, List.map_append, hk, hd, hp, List.map_nil, List.append_nil, List.nil_append]
  all_goals simp
theorem inv_ps (l : List UInt8) : (l.map Atm.p).map Atm.inv = l.map Atm.d := by rw [List.map_map]; rfl
theorem fromA_le : ∀ l : List Atm, fromA l ≤ l.length
  | [] => Nat.le_refl _
  | .k :: l => by have := fromA_le l; simp only [fromA, List.length_cons]; omega
  | .d _ :: l => by have := fromA_le l; simp only [fromA, List.length_cons]; omega
  | .p _ :: l => by have := fromA_le l; simp only [fromA, List.length_cons]; omega
theorem inv_all : ∀ (l : List Stp), (∀ s ∈ l, stpOk s) → atomsOf (l.map Stp.inv) = (atomsOf l).map Atm.inv
  | [], _ => rfl
  | s :: l, h => by
    rw [List.map_cons, atoms_cons, atoms_cons, List.map_append, inv_atoms (h s List.mem_cons_self), inv_all l (fun x hx => h x (List.mem_cons_of_mem _ hx))]
theorem gs_inv_atom (g : Gs) (a : Atm) : g.inv.atom a.inv = (g.atom a).inv := by
  cases a <;> simp [Gs.inv, Gs.atom, Atm.inv, Gap.inv]
theorem gs_inv_run : ∀ (L : List Atm) (g : Gs), g.inv.run (L.map Atm.inv) = (g.run L).inv
  | [], _ => rfl
  | a :: L, g => by
    rw [List.map_cons, show g.inv.run (a.inv :: L.map Atm.inv) = (g.inv.atom a.inv).run (L.map Atm.inv) from rfl, gs_inv_atom, gs_inv_run L (g.atom a)]; rfl
theorem start_inv (L : List Atm) : Gs.start.run (L.map Atm.inv) = (Gs.start.run L).inv := gs_inv_run L Gs.start
theorem gs_inv_inv (g : Gs) : g.inv.inv = g := by
  obtain ⟨d, c⟩ := g
  simp only [Gs.inv, List.map_map, Gap.inv]
  congr 1
  conv => rhs; rw [← List.map_id d]
  rfl
theorem list_same {L M : List Atm} (h : Gs.start.run L = Gs.start.run M) : listOf L = listOf M := by unfold listOf; rw [start_run, start_run, h]
/-- what is turned about, from a change's steps and from its one form -/
theorem inv_nf (l : List Stp) (h : ∀ s ∈ l, stpOk s) : listOf ((atomsOf l).map Atm.inv) = listOf ((nfOf (gapsOf l)).map Atm.inv) := by
  refine list_same ?_
  rw [start_inv, start_inv, run_nf, gapsOf_run l h]
theorem inv_twice (l : List Stp) (h : ∀ s ∈ l, stpOk s) : listOf ((atomsOf (listOf ((atomsOf l).map Atm.inv))).map Atm.inv) = plainOf l := by
  rw [plain_list]
  refine list_same ?_
  rw [(list_ok _).2, start_inv, run_nf, start_inv, gs_inv_inv, run_nf, gapsOf_run l h]
theorem inv_from : ∀ L : List Atm, fromA (L.map Atm.inv) = toA L ∧ toA (L.map Atm.inv) = fromA L
  | [] => ⟨rfl, rfl⟩
  | .k :: L => by simp [Atm.inv, fromA, toA, inv_from L]
  | .d _ :: L => by simp [Atm.inv, fromA, toA, inv_from L]
  | .p _ :: L => by simp [Atm.inv, fromA, toA, inv_from L]
/-- what is turned about undoes it -/
theorem inv_apply : ∀ (L : List Atm) (s t : List UInt8), applyA s L = some t → fromA L = s.length → applyA t (L.map Atm.inv) = some s
  | [], s, t, h, hf => by
    rw [applyA_nil] at h
    cases h
    rw [List.map_nil, applyA_nil, List.eq_nil_of_length_eq_zero hf.symm]
  | .p b :: L, s, t, h, hf => by
    rw [applyA_p] at h
    obtain ⟨t', h', rfl⟩ := Option.map_eq_some_iff.1 h
    rw [List.map_cons, show Atm.inv (.p b) = .d b from rfl, applyA_dc, if_pos rfl]
    exact inv_apply L s t' h' hf
  | .k :: L, [], t, h, hf => by cases h
  | .k :: L, c :: s, t, h, hf => by
    rw [applyA] at h
    obtain ⟨t', h', rfl⟩ := Option.map_eq_some_iff.1 h
    rw [List.map_cons, show Atm.inv .k = .k from rfl, applyA, inv_apply L s t' h' (by simpa [fromA] using hf)]; rfl
  | .d b :: L, [], t, h, hf => by cases h
  | .d b :: L, c :: s, t, h, hf => by
    rw [applyA_dc] at h
    split at h
    · rename_i hc
      subst hc
      rw [List.map_cons, show Atm.inv (.d c) = .p c from rfl, applyA_p, inv_apply L s t h (by simpa [fromA] using hf)]; rfl
    · cases h
/-- the one form makes the same -/
theorem plain_apply (l : List Stp) (h : ∀ s ∈ l, stpOk s) (s : List UInt8) : applyA s (atomsOf (plainOf l)) = applyA s (atomsOf l) := by rw [plain_atoms, apply_nf l h]
theorem plain_sizes {l : List Stp} {f t : Int} (hs : sizesOf l = some (f, t)) : sizesOf (plainOf l) = some (f, t) := by
  obtain ⟨h1, h2, h3, h4, h5⟩ := sizesOf_some hs
  have hok : ∀ s ∈ l, stpOk s := fun s hs => (h1 s hs).1
  obtain ⟨n1, n2⟩ := nf_sizes l hok
  unfold maxT at h4 h5
  rw [sizesOf_of (plain_ok l) (by rw [plain_atoms]; omega) (by rw [plain_atoms]; omega), plain_atoms, n1, n2, h2, h3]
theorem applyA_kc (c : UInt8) (s : List UInt8) (l : List Atm) : applyA (c :: s) (.k :: l) = (applyA s l).map (c :: ·) := rfl
end Go.Eng

