/-
  Parts of a walk, joined: OSH O20 O12 O13 O21 O24 OT7 O25 O26 OT8 O27 O28 O22 O29 O30. No condition.
-/
import Derived.Shelf.Strings.Builder1
import Derived.Shelf.Strings.Builder2
import Derived.Shelf.Strings.BuilderF
import Derived.Shelf.Strings.Search1
import Derived.Shelf.Strings.Search2
import Derived.Shelf.Strings.Search3
import Derived.Shelf.LaysM
import Derived.Shelf.Strings.Shaped
import Derived.Shelf.Strings.Prefix
import Derived.Shelf.Bits.Mul64
import Derived.Shelf.Strings.Repeat
import Derived.Test.YtljfncpecpkhhaaProg
import Derived.Test.YtljfncpecpkhhaaP7
import Derived.Test.YtljfncpecpkhhaaP4
set_option linter.all false
/-
  Contracts of the library, laid at this seat by the shelf's own tools. No condition.
-/
namespace Go.Proofs.Ytljfncpecpkhhaa
open Go Go.Shelf Go.Proofs
set_option linter.all false
def sh_lays143_ren : Go.Shelf.Ren := ⟨fun | 143 => 62 | 219 => 83 | 217 => 90 | 225 => 91 | 224 => 92 | 267 => 93 | 266 => 96 | 314 => 97 | n => n, fun | 9 => 9 | 3 => 3 | 4 => 4 | 5 => 5 | 46 => 95 | 146 => 126 | 51 => 125 | n => n, fun | 1 => 0 | n => n⟩
theorem sh_lays143 : Go.Proofs.Lays.n143 Try.prog sh_lays143_ren := {
  mixed := by kernel_rfl
  f143 := Try.func62.trans (congrArg some (by kernel_rfl))
  f217 := Try.func90.trans (congrArg some (by kernel_rfl))
  f219 := Try.func83.trans (congrArg some (by kernel_rfl))
  f224 := Try.func92.trans (congrArg some (by kernel_rfl))
  f225 := Try.func91.trans (congrArg some (by kernel_rfl))
  f266 := Try.func96.trans (congrArg some (by kernel_rfl))
  f267 := Try.func93.trans (congrArg some (by kernel_rfl))
  f314 := Try.func97.trans (congrArg some (by kernel_rfl))
  t3 := Try.underlying3
  a3 := Try.isAgg3
  z3 := Try.sizeOf3
  v3 := Try.zeroValue3
  t4 := Try.underlying4
  a4 := Try.isAgg4
  z4 := Try.sizeOf4
  v4 := Try.zeroValue4
  t5 := Try.underlying5
  a5 := Try.isAgg5
  z5 := Try.sizeOf5
  v5 := Try.zeroValue5
  t9 := Try.underlying9
  a9 := Try.isAgg9
  z9 := Try.sizeOf9
  v9 := Try.zeroValue9
  t46 := Try.underlying95
  a46 := Try.isAgg95
  z46 := Try.sizeOf95
  v46 := Try.zeroValue95
  t51 := Try.underlying125
  a51 := Try.isAgg125
  z51 := Try.sizeOf125
  v51 := Try.zeroValue125
  t146 := Try.underlying126
  a146 := Try.isAgg126
  z146 := Try.sizeOf126
  v146 := Try.zeroValue126
  g1 := by kernel_rfl }
open Go.RowKit Go.Lib in
theorem sh_strings_Index (s sub : ByteArray) (m : Int) (w : World) (hs : s.size < 4294967281) (hm : w.cell? ⟨0, 0, none⟩ = some (.int .i64 m)) :
    Calls Try.prog 62 #[.string s, .string sub] w fun e w' => e = .returned (.int .i64 (Lib.index s.data.toList sub.data.toList)) ∧ w' = w := Any.strings_Index sh_lays143 s sub m w hs hm
def sh_lays99_ren : Go.Shelf.Ren := ⟨fun | 99 => 56 | 206 => 80 | n => n, fun | 9 => 9 | 4 => 4 | 3 => 3 | n => n, fun | n => n⟩
theorem sh_lays99 : Go.Proofs.Lays.n99 Try.prog sh_lays99_ren := {
  mixed := by kernel_rfl
  f99 := Try.func56.trans (congrArg some (by kernel_rfl))
  f206 := Try.func80.trans (congrArg some (by kernel_rfl))
  t3 := Try.underlying3
  a3 := Try.isAgg3
  z3 := Try.sizeOf3
  v3 := Try.zeroValue3
  t4 := Try.underlying4
  a4 := Try.isAgg4
  z4 := Try.sizeOf4
  v4 := Try.zeroValue4
  t9 := Try.underlying9
  a9 := Try.isAgg9
  z9 := Try.sizeOf9
  v9 := Try.zeroValue9 }
open Go.RowKit Go.Lib in
theorem sh_strings_HasPrefix (s p : ByteArray) (w : World) :
    Calls Try.prog 56 #[.string s, .string p] w fun e w' => e = .returned (.bool (Lib.hasPrefix s.data.toList p.data.toList)) ∧ w' = w := Any.strings_HasPrefix sh_lays99 s p w
def sh_lays105_ren : Go.Shelf.Ren := ⟨fun | 105 => 28 | 212 => 55 | 99 => 56 | 165 => 57 | 166 => 58 | 170 => 59 | 169 => 60 | 263 => 78 | 264 => 79 | 206 => 80 | 240 => 81 | 241 => 82 | 276 => 88 | 277 => 89 | n => n, fun | 9 => 9 | 3 => 3 | 4 => 4 | 20 => 20 | 0 => 0 | 46 => 95 | 109 => 96 | 5 => 5 | 72 => 101 | 76 => 105 | 51 => 125 | 146 => 126 | 53 => 128 | 148 => 129 | 70 => 99 | 37 => 90 | 75 => 104 | 127 => 131 | 164 => 140 | 80 => 29 | n => n, fun | n => n⟩
end Go.Proofs.Ytljfncpecpkhhaa

/-
  The library's functions that ropes call: strings.Index, HasPrefix, Repeat. No condition.
-/
namespace Go.Proofs.Ytljfncpecpkhhaa
open Go Go.Eng
theorem stringsIndex_any {s t : List UInt8} {w0 : World} {m : Mem} {H : SHeap} (hs : s.length < 4294967281) (hg : GInt 0 m) : Does Try.prog 62 #[str s, str t] w0 m H (Gives (.int .i64 (Lib.index s t)) m H) := by
  refine Does.ofSame fun w hw => ?_
  obtain ⟨z, hz⟩ := hg.cell hw
  exact sh_strings_Index ⟨s.toArray⟩ ⟨t.toArray⟩ z w (by simpa [ByteArray.size] using hs) hz
theorem hasPrefix_any {s t : List UInt8} (w0 : World) (m : Mem) (H : SHeap) : Does Try.prog 56 #[str s, str t] w0 m H (Gives (.bool (Lib.hasPrefix s t)) m H) :=
  Does.ofSame fun w _ => sh_strings_HasPrefix ⟨s.toArray⟩ ⟨t.toArray⟩ w
end Go.Proofs.Ytljfncpecpkhhaa

/-
  The walk of the law RopeHeals. No condition.
-/
namespace Go.Eng
end Go.Eng
namespace Go.Proofs.Ytljfncpecpkhhaa
open Go Go.Eng
set_option maxRecDepth 100000
set_option maxHeartbeats 4000000
set_option linter.all false
attribute [local irreducible] WL WC WQ QFun QLoop Does Q1 QRound QAssign Go.Addr.add
end Go.Proofs.Ytljfncpecpkhhaa

/-
  The walk of the law RopeGrows. No condition.
-/
namespace Go.Eng
end Go.Eng
namespace Go.Proofs.Ytljfncpecpkhhaa
open Go Go.Eng
set_option maxRecDepth 100000
set_option maxHeartbeats 4000000
set_option linter.all false
attribute [local irreducible] WL WC WQ QFun QLoop Does Q1 QRound QAssign Go.Addr.add
theorem most_any {n : Nat} (hn : n ≤ 100000000) (w0 : World) (m : Mem) (H : SHeap) : Does Try.prog 21 #[.int .i64 (n : Int)] w0 m H (Gives (.int .i64 ((2 * bitsN n : Nat) : Int)) m H) := by
  refine Does.of_body (args := [.int .i64 (n : Int)]) Try.func21 rfl Try.ntmps21 rfl ?_
  have hbl := bitsN_le n
  (try (refine st ?_; intros))
  refine WC.loopH [(0, .int .i64 ((n) : Int)), (3, .int .i64 ((0) : Int))] ?_ ?_ (fun j r ds m' H' => ∃ (k : Nat) (c : Nat), j = 2 * k ∧ r = [(0, .int .i64 (k : Int)), (3, .int .i64 (c : Int))] ∧ ds = [] ∧ m = m' ∧ H' = H ∧ (c + bitsN k = bitsN n) ∧ (k ≤ n)) (2 * (n)) ⟨n, 0, rfl, rfl, rfl, rfl, rfl, by omega, Nat.le_refl _⟩ ?_
  · (repeat (first | exact Env.Sub.nil | refine Env.Sub.cons rfl ?_))
  · exact zpk
  rintro j r ds m' H' ⟨k, c, rfl, rfl, rfl, rfl, rfl, hc, hkn⟩
  generalize H' = H
  by_cases hk : 0 < k
  · have hbk := bitsN_pos hk
    (try (refine st ?_; intros))
    rw [show (k : Int) / 2 = ((k / 2 : Nat) : Int) from rfl]
    refine WQ.next (2 * (k / 2)) ⟨k / 2, c + 1, rfl, rfl, rfl, rfl, rfl, ?_, ?_⟩ (by omega) zsb zpk
    · omega
    · omega
  · obtain rfl : k = 0 := by omega
    rw [bitsN_zero] at hc
    (try (refine st ?_; intros))
    refine q_fin0 (H0 := H) (Gives.mk (congrArg _ ?_)) (hd := zpk)
    omega
end Go.Proofs.Ytljfncpecpkhhaa

/-
  The walks of ropes' Index, and of what nil ropes answer. No condition.
-/
namespace Go.Eng
/-- the least place from one on at which a text stands -/
def idxR (s t : List UInt8) (f : Int) : Int × Bool := if f < 0 ∨ (s.length : Int) < f then (0, false) else if Lib.index (s.drop f.toNat) t < 0 then (0, false) else (f + Lib.index (s.drop f.toNat) t, true)
end Go.Eng
namespace Go.Proofs.Ytljfncpecpkhhaa
open Go Go.Eng
set_option maxRecDepth 100000
set_option maxHeartbeats 4000000
set_option linter.all false
attribute [local irreducible] WL WC WQ QFun QLoop Does Q1 QRound QAssign Go.Addr.add
attribute [local irreducible] Lib.index
theorem sq_O21_1 {G : Prop} (h : G := by (repeat (first | (refine sp ?_; (repeat intro zzc)) | (refine iF 19 rfl ?_; refine w_callG Try.func19 ?_ (hs := len_any _ _ _ (by assumption))) | (refine iF 15 rfl ?_; refine w_callG Try.func15 ?_ (hs := text_any _ _ _ (by assumption))))); exact WQ.q1 rfl) : G := h
theorem st_O21_1 {G G' : Prop} (next : G') (h : Bx G' → G := by intro zzn; (first | ((refine st ?_; (repeat intro zzc)); (try ((first | (refine iF 19 rfl ?_; refine w_callG Try.func19 ?_ (hs := len_any _ _ _ (by assumption))) | (refine iF 15 rfl ?_; refine w_callG Try.func15 ?_ (hs := text_any _ _ _ (by assumption))) | ((refine iDraw ?_; (first | refine WC.drawAll rfl (by decide +kernel) ?_ | refine WC.draw 1 rfl (by decide +kernel) ?_ | refine WC.draw 2 rfl (by decide +kernel) ?_ | refine WC.draw 3 rfl (by decide +kernel) ?_ | refine WC.draw 4 rfl (by decide +kernel) ?_ | refine WC.draw 5 rfl (by decide +kernel) ?_ | refine WC.draw 6 rfl (by decide +kernel) ?_ | refine WC.draw 7 rfl (by decide +kernel) ?_ | refine WC.draw 8 rfl (by decide +kernel) ?_ | refine WC.draw 9 rfl (by decide +kernel) ?_ | refine WC.draw 10 rfl (by decide +kernel) ?_ | refine WC.draw 11 rfl (by decide +kernel) ?_ | refine WC.draw 12 rfl (by decide +kernel) ?_ | refine WC.draw 13 rfl (by decide +kernel) ?_ | refine WC.draw 14 rfl (by decide +kernel) ?_ | refine WC.draw 15 rfl (by decide +kernel) ?_ | refine WC.draw 16 rfl (by decide +kernel) ?_ | refine WC.draw 17 rfl (by decide +kernel) ?_ | refine WC.draw 18 rfl (by decide +kernel) ?_ | refine WC.draw 19 rfl (by decide +kernel) ?_ | refine WC.draw 20 rfl (by decide +kernel) ?_ | refine WC.draw 21 rfl (by decide +kernel) ?_ | refine WC.draw 22 rfl (by decide +kernel) ?_ | refine WC.draw 23 rfl (by decide +kernel) ?_ | refine WC.draw 24 rfl (by decide +kernel) ?_)); (repeat (refine WD.cons rfl (fun c h => by cases h) sq_O21_1 ?_)); refine WD.nil ?_)); (try (refine st ?_; (repeat intro zzc)))))) | ((first | (refine iF 19 rfl ?_; refine w_callG Try.func19 ?_ (hs := len_any _ _ _ (by assumption))) | (refine iF 15 rfl ?_; refine w_callG Try.func15 ?_ (hs := text_any _ _ _ (by assumption))) | ((refine iDraw ?_; (first | refine WC.drawAll rfl (by decide +kernel) ?_ | refine WC.draw 1 rfl (by decide +kernel) ?_ | refine WC.draw 2 rfl (by decide +kernel) ?_ | refine WC.draw 3 rfl (by decide +kernel) ?_ | refine WC.draw 4 rfl (by decide +kernel) ?_ | refine WC.draw 5 rfl (by decide +kernel) ?_ | refine WC.draw 6 rfl (by decide +kernel) ?_ | refine WC.draw 7 rfl (by decide +kernel) ?_ | refine WC.draw 8 rfl (by decide +kernel) ?_ | refine WC.draw 9 rfl (by decide +kernel) ?_ | refine WC.draw 10 rfl (by decide +kernel) ?_ | refine WC.draw 11 rfl (by decide +kernel) ?_ | refine WC.draw 12 rfl (by decide +kernel) ?_ | refine WC.draw 13 rfl (by decide +kernel) ?_ | refine WC.draw 14 rfl (by decide +kernel) ?_ | refine WC.draw 15 rfl (by decide +kernel) ?_ | refine WC.draw 16 rfl (by decide +kernel) ?_ | refine WC.draw 17 rfl (by decide +kernel) ?_ | refine WC.draw 18 rfl (by decide +kernel) ?_ | refine WC.draw 19 rfl (by decide +kernel) ?_ | refine WC.draw 20 rfl (by decide +kernel) ?_ | refine WC.draw 21 rfl (by decide +kernel) ?_ | refine WC.draw 22 rfl (by decide +kernel) ?_ | refine WC.draw 23 rfl (by decide +kernel) ?_ | refine WC.draw 24 rfl (by decide +kernel) ?_)); (repeat (refine WD.cons rfl (fun c h => by cases h) sq_O21_1 ?_)); refine WD.nil ?_)); (try (refine st ?_; (repeat intro zzc))))); (repeat ((first | (refine iF 19 rfl ?_; refine w_callG Try.func19 ?_ (hs := len_any _ _ _ (by assumption))) | (refine iF 15 rfl ?_; refine w_callG Try.func15 ?_ (hs := text_any _ _ _ (by assumption))) | ((refine iDraw ?_; (first | refine WC.drawAll rfl (by decide +kernel) ?_ | refine WC.draw 1 rfl (by decide +kernel) ?_ | refine WC.draw 2 rfl (by decide +kernel) ?_ | refine WC.draw 3 rfl (by decide +kernel) ?_ | refine WC.draw 4 rfl (by decide +kernel) ?_ | refine WC.draw 5 rfl (by decide +kernel) ?_ | refine WC.draw 6 rfl (by decide +kernel) ?_ | refine WC.draw 7 rfl (by decide +kernel) ?_ | refine WC.draw 8 rfl (by decide +kernel) ?_ | refine WC.draw 9 rfl (by decide +kernel) ?_ | refine WC.draw 10 rfl (by decide +kernel) ?_ | refine WC.draw 11 rfl (by decide +kernel) ?_ | refine WC.draw 12 rfl (by decide +kernel) ?_ | refine WC.draw 13 rfl (by decide +kernel) ?_ | refine WC.draw 14 rfl (by decide +kernel) ?_ | refine WC.draw 15 rfl (by decide +kernel) ?_ | refine WC.draw 16 rfl (by decide +kernel) ?_ | refine WC.draw 17 rfl (by decide +kernel) ?_ | refine WC.draw 18 rfl (by decide +kernel) ?_ | refine WC.draw 19 rfl (by decide +kernel) ?_ | refine WC.draw 20 rfl (by decide +kernel) ?_ | refine WC.draw 21 rfl (by decide +kernel) ?_ | refine WC.draw 22 rfl (by decide +kernel) ?_ | refine WC.draw 23 rfl (by decide +kernel) ?_ | refine WC.draw 24 rfl (by decide +kernel) ?_)); (repeat (refine WD.cons rfl (fun c h => by cases h) sq_O21_1 ?_)); refine WD.nil ?_)); (try (refine st ?_; (repeat intro zzc))))); (repeat revert zzc); exact zzn.out) : G := h ⟨next⟩
theorem index_any {p : Value} {s t : List UInt8} {f : Int} (w0 : World) (m : Mem) (H : SHeap) (hg : GInt 0 m) (hp : RopeAt m p s) :
    Does Try.prog 30 #[p, str t, .int .i64 f] w0 m H (fun v m' H' => m.le m' ∧ H' = H ∧ v = .tuple #[.int .i64 (idxR s t f).1, .bool (idxR s t f).2]) := by
  have hl := hp.len
  obtain ⟨b, rfl⟩ := ropes_ptr hp
  have hnn : (some (⟨b, 0, none⟩ : Addr)).isNone = false := rfl
  refine Does.of_body (args := [.pointer (some ⟨b, 0, none⟩), str t, .int .i64 f]) Try.func30 rfl Try.ntmps30 rfl ?_
  unfold idxR
  by_cases h1 : f < 0
  · rw [if_pos (.inl h1)]
    (try (refine st_O21_1 ?_; intros))
    exact q_fin0 (H0 := H) ⟨Mem.le.refl _, rfl, rfl⟩ (hd := zpk)
  by_cases h2 : (s.length : Int) < f
  · rw [if_pos (.inr h2)]
    (try (refine st_O21_1 ?_; intros))
    exact q_fin0 (H0 := H) ⟨Mem.le.refl _, rfl, rfl⟩ (hd := zpk)
  rw [if_neg (by omega)]
  (try (refine st_O21_1 ?_; intros))
  refine w_callF Try.func16 ?_ (hs := slice_any _ _ _ hp)
  rintro v m1 H ⟨hle1, rfl, hv⟩
  have hv2 : ResV m1 (.ok (s.drop f.toNat)) v := by
    unfold sliceR at hv
    rw [if_neg (by omega), Int.toNat_natCast, List.take_of_length_le (Nat.le_refl _)] at hv
    exact hv
  obtain ⟨q, rfl, hq⟩ := hv2
  have hge := Lib.index_ge (s.drop f.toNat) t
  have hle := Lib.index_le (s.drop f.toNat) t
  have hdl : (s.drop f.toNat).length ≤ s.length := by simp
  (try (refine st_O21_1 ?_; intros))
  refine w_callF Try.func62 ?_ (hs := stringsIndex_any (by omega) (hg.le hle1))
  rintro v m2 H ⟨rfl, rfl, rfl⟩
  by_cases h3 : Lib.index (s.drop f.toNat) t < 0
  · rw [if_pos h3]
    (try (refine st_O21_1 ?_; intros))
    exact q_fin0 (H0 := H) ⟨hle1, rfl, rfl⟩ (hd := zpk)
  · rw [if_neg h3]
    (try (refine st_O21_1 ?_; intros))
    exact q_fin0 (H0 := H) ⟨hle1, rfl, rfl⟩ (hd := zpk)
theorem isN : (none : Option Addr).isNone = true := rfl
theorem pieceOut_any {p : Value} {s : List UInt8} {k : Int} (hk : k < 0 ∨ (s.length : Int) ≤ k) (w0 : World) (m : Mem) (H : SHeap) (hp : RopeAt m p s) :
    Does Try.prog 22 #[p, .int .i64 k] w0 m H (Gives (.tuple #[zeroP, .int .i64 5]) m H) := by
  obtain ⟨b, rfl⟩ := ropes_ptr hp
  have hnn : (some (⟨b, 0, none⟩ : Addr)).isNone = false := rfl
  refine Does.of_body (args := [.pointer (some ⟨b, 0, none⟩), .int .i64 k]) Try.func22 rfl Try.ntmps22 rfl ?_
  by_cases h : k < 0
  · (try (refine st_O21_1 ?_; intros))
    exact q_fin0 (H0 := H) (Gives.mk rfl) (hd := zpk)
  · (try (refine st_O21_1 ?_; intros))
    exact q_fin0 (H0 := H) (Gives.mk rfl) (hd := zpk)
end Go.Proofs.Ytljfncpecpkhhaa

/-
  The walks of the references' Pieces (canticleref02, canticleref26). No condition.
-/
namespace Go.Eng
open Go
/-- a piece without its break, and one whose width is not told yet -/
def Pc.c3 (p : Pc) : List Value := [.int .i64 (p.at_ : Int), .int .i64 (p.w : Int), .int .i32 (p.r : Int)]
def Pc.z3 (p : Pc) : List Value := [.int .i64 (p.at_ : Int), .int .i64 0, .int .i32 (p.r : Int)]
end Go.Eng
namespace Go.Proofs.Ytljfncpecpkhhaa
open Go Go.Eng
set_option maxRecDepth 100000
set_option maxHeartbeats 4000000
set_option linter.all false
attribute [local irreducible] WL WC WQ QFun QLoop Does Q1 QRound QAssign Go.Addr.add
attribute [local irreducible] readP pieces dl from_
theorem p2_any (l : List UInt8) (hl : l.length ≤ 17000000) (w0 : World) (m : Mem) (H : SHeap) :
    Does Try.prog 84 #[str l] w0 m H (fun v m' H' => m' = m ∧ ∃ c cp, v = .slice c (pieces l).length cp ∧ H' = .row c cp 135 3 ((pieces l).map Pc.c3) :: H) := by
  refine Does.of_body (args := [str l]) Try.func84 rfl Try.ntmps84 rfl ?_
  have hcnt := pieces_length l
  have hp0 : pieces l = from_ l 0 := by unfold pieces; rfl
  (refine st ?_; intros; rename_i it)
  refine WC.newRow (T := 135) (sz := 3) ?_
  refine WC.loopH [(7, .pointer (some ⟨it, 0, none⟩)), (3, .slice (none) (([] : List Pc)).length (0)), (0, str l)] ?_ ?_ (fun j r ds m' H' => ∃ (k : Nat) (c : Option Addr) (cp : Nat) (es : List (List Value)) (pre : List Pc), j = l.length - k ∧ r = [(7, .pointer (some ⟨it, 0, none⟩)), (3, .slice c pre.length cp), (0, str l)] ∧ ds = [] ∧ m = m' ∧ H' = .row c cp 135 3 es :: .blk it (.stringIter ⟨l.toArray⟩ k) :: H ∧ (pieces l = pre ++ from_ l k) ∧ ((pre = [] ∧ es = []) ∨ ∃ ps p, pre = ps ++ [p] ∧ es = ps.map Pc.c3 ++ [p.z3] ∧ p.at_ + p.w = k) ∧ (k ≤ l.length)) (l.length - (0)) ⟨0, none, 0, ([] : List (List Value)), ([] : List Pc), rfl, rfl, rfl, rfl, rfl, hp0, .inl ⟨rfl, rfl⟩, Nat.zero_le _⟩ ?_
  · (repeat (first | exact Env.Sub.nil | refine Env.Sub.cons rfl ?_))
  · exact zpk
  rintro j r ds m' H' ⟨k, c, cp, es, pre, rfl, rfl, rfl, rfl, rfl, hp, hes, hkl⟩
  have hpl : pre.length ≤ l.length := by have := congrArg List.length hp; rw [List.length_append] at this; omega
  have hel : es.length = pre.length := by
    rcases hes with ⟨rfl, rfl⟩ | ⟨ps, p, rfl, rfl, _⟩
    · rfl
    · simp
  by_cases hk : k < l.length
  · have hw := readP_w hk
    have hwe := readP_w_eq l k
    have hre := readP_r_eq l k
    have em : [Value.int .i64 (k : Int), .int .i64 0, .int .i32 ((dl (l.drop k)).1 : Int)] = (readP l k).z3 := by unfold Pc.z3; rw [readP_at, readP_r_eq]
    rw [from_cons hk] at hp
    rcases hes with ⟨rfl, rfl⟩ | ⟨ps, p, rfl, rfl, hpk⟩
    · have h0 : ([] : List Pc).length = 0 := rfl
      (refine st ?_; intros; rename_i c2 cp2)
      rw [List.nil_append, em]
      refine WQ.next (l.length - (k + (dl (l.drop k)).2)) ⟨k + (dl (l.drop k)).2, c2, cp2, [(readP l k).z3], [readP l k], rfl, rfl, rfl, rfl, rfl, ?_, ?_, ?_⟩ (by omega) zsb zpk
      · rw [hp, hwe]; rfl
      · refine .inr ⟨[], readP l k, rfl, rfl, ?_⟩
        rw [readP_at, hwe]
      · omega
    · have h1 : (ps ++ [p]).length = ps.length + 1 := by simp
      have hget : (ps.map Pc.c3 ++ [p.z3])[(ps ++ [p]).length - 1]? = some p.z3 := by rw [h1]; simp
      have hset : ∀ e, (ps.map Pc.c3 ++ [p.z3]).set ((ps ++ [p]).length - 1) e = ps.map Pc.c3 ++ [e] := fun e => by rw [h1]; simp
      have hwp : (k : Int) - (p.at_ : Int) = (p.w : Int) := by omega
      refine WC.rowSome (a := c) (es := ps.map Pc.c3 ++ [p.z3]) zhs (by simp) ?_
      rintro c0 rfl
      generalize hE : ps.map Pc.c3 ++ [p.z3] = E at *
      have e : [Value.int .i64 (p.at_ : Int), .int .i64 ((k : Int) - (p.at_ : Int)), .int .i32 (p.r : Int)] = p.c3 := by rw [hwp]; rfl
      have hFl : (ps.map Pc.c3 ++ [p.c3]).length = (ps ++ [p]).length := by simp
      have en : (ps ++ [p]).length + 1 = (ps ++ [p] ++ [readP l k]).length := by simp
      (try (refine st ?_; intros))
      rw [hset, e]
      generalize hF : ps.map Pc.c3 ++ [p.c3] = F at *
      (refine st ?_; intros; rename_i c2 cp2)
      rw [em, hFl, en]
      refine WQ.next (l.length - (k + (dl (l.drop k)).2)) ⟨k + (dl (l.drop k)).2, c2, cp2, F ++ [(readP l k).z3], ps ++ [p] ++ [readP l k], rfl, rfl, rfl, rfl, rfl, ?_, ?_, ?_⟩ (by omega) zsb zpk
      · rw [hp, hwe]; simp
      · refine .inr ⟨ps ++ [p], readP l k, rfl, ?_, ?_⟩
        · rw [← hF]; simp
        · rw [readP_at, hwe]
      · omega
  · obtain rfl : k = l.length := by omega
    rw [from_nil hk, List.append_nil] at hp
    rw [hp]
    rcases hes with ⟨rfl, rfl⟩ | ⟨ps, p, rfl, rfl, hpk⟩
    · have h0 : ([] : List Pc).length = 0 := rfl
      (try (refine st ?_; intros))
      exact q_fin0 (H0 := .row c cp 135 3 [] :: H) ⟨rfl, c, cp, rfl, rfl⟩ (hd := zpk)
    · have h1 : (ps ++ [p]).length = ps.length + 1 := by simp
      have hget : (ps.map Pc.c3 ++ [p.z3])[(ps ++ [p]).length - 1]? = some p.z3 := by rw [h1]; simp
      have hset : ∀ e, (ps.map Pc.c3 ++ [p.z3]).set ((ps ++ [p]).length - 1) e = ps.map Pc.c3 ++ [e] := fun e => by rw [h1]; simp
      have hwp : (l.length : Int) - (p.at_ : Int) = (p.w : Int) := by omega
      refine WC.rowSome (a := c) (es := ps.map Pc.c3 ++ [p.z3]) zhs (by simp) ?_
      rintro c0 rfl
      generalize hE : ps.map Pc.c3 ++ [p.z3] = E at *
      have e : [Value.int .i64 (p.at_ : Int), .int .i64 ((l.length : Int) - (p.at_ : Int)), .int .i32 (p.r : Int)] = p.c3 := by rw [hwp]; rfl
      (try (refine st ?_; intros))
      rw [hset, e]
      exact q_fin0 (H0 := .row (some c0) cp 135 3 (ps.map Pc.c3 ++ [p.c3]) :: H) ⟨rfl, some c0, cp, rfl, by rw [List.map_append]; rfl⟩ (hd := zpk)
theorem sq_O24_1 {G : Prop} (h : G := by (repeat (first | (refine sp ?_; (repeat intro zzc)) | (refine iF 84 rfl ?_; refine w_callG Try.func84 ?_ (hs := p2_any _ (by omega) _ _ _)))); exact WQ.q1 rfl) : G := h
theorem st_O24_1 {G G' : Prop} (next : G') (h : Bx G' → G := by intro zzn; (first | ((refine st ?_; (repeat intro zzc)); (try ((first | (refine iF 84 rfl ?_; refine w_callG Try.func84 ?_ (hs := p2_any _ (by omega) _ _ _)) | ((refine iDraw ?_; (first | refine WC.drawAll rfl (by decide +kernel) ?_ | refine WC.draw 1 rfl (by decide +kernel) ?_ | refine WC.draw 2 rfl (by decide +kernel) ?_ | refine WC.draw 3 rfl (by decide +kernel) ?_ | refine WC.draw 4 rfl (by decide +kernel) ?_ | refine WC.draw 5 rfl (by decide +kernel) ?_ | refine WC.draw 6 rfl (by decide +kernel) ?_ | refine WC.draw 7 rfl (by decide +kernel) ?_ | refine WC.draw 8 rfl (by decide +kernel) ?_ | refine WC.draw 9 rfl (by decide +kernel) ?_ | refine WC.draw 10 rfl (by decide +kernel) ?_ | refine WC.draw 11 rfl (by decide +kernel) ?_ | refine WC.draw 12 rfl (by decide +kernel) ?_ | refine WC.draw 13 rfl (by decide +kernel) ?_ | refine WC.draw 14 rfl (by decide +kernel) ?_ | refine WC.draw 15 rfl (by decide +kernel) ?_ | refine WC.draw 16 rfl (by decide +kernel) ?_ | refine WC.draw 17 rfl (by decide +kernel) ?_ | refine WC.draw 18 rfl (by decide +kernel) ?_ | refine WC.draw 19 rfl (by decide +kernel) ?_ | refine WC.draw 20 rfl (by decide +kernel) ?_ | refine WC.draw 21 rfl (by decide +kernel) ?_ | refine WC.draw 22 rfl (by decide +kernel) ?_ | refine WC.draw 23 rfl (by decide +kernel) ?_ | refine WC.draw 24 rfl (by decide +kernel) ?_)); (repeat (refine WD.cons rfl (fun c h => by cases h) sq_O24_1 ?_)); refine WD.nil ?_)); (try (refine st ?_; (repeat intro zzc)))))) | ((first | (refine iF 84 rfl ?_; refine w_callG Try.func84 ?_ (hs := p2_any _ (by omega) _ _ _)) | ((refine iDraw ?_; (first | refine WC.drawAll rfl (by decide +kernel) ?_ | refine WC.draw 1 rfl (by decide +kernel) ?_ | refine WC.draw 2 rfl (by decide +kernel) ?_ | refine WC.draw 3 rfl (by decide +kernel) ?_ | refine WC.draw 4 rfl (by decide +kernel) ?_ | refine WC.draw 5 rfl (by decide +kernel) ?_ | refine WC.draw 6 rfl (by decide +kernel) ?_ | refine WC.draw 7 rfl (by decide +kernel) ?_ | refine WC.draw 8 rfl (by decide +kernel) ?_ | refine WC.draw 9 rfl (by decide +kernel) ?_ | refine WC.draw 10 rfl (by decide +kernel) ?_ | refine WC.draw 11 rfl (by decide +kernel) ?_ | refine WC.draw 12 rfl (by decide +kernel) ?_ | refine WC.draw 13 rfl (by decide +kernel) ?_ | refine WC.draw 14 rfl (by decide +kernel) ?_ | refine WC.draw 15 rfl (by decide +kernel) ?_ | refine WC.draw 16 rfl (by decide +kernel) ?_ | refine WC.draw 17 rfl (by decide +kernel) ?_ | refine WC.draw 18 rfl (by decide +kernel) ?_ | refine WC.draw 19 rfl (by decide +kernel) ?_ | refine WC.draw 20 rfl (by decide +kernel) ?_ | refine WC.draw 21 rfl (by decide +kernel) ?_ | refine WC.draw 22 rfl (by decide +kernel) ?_ | refine WC.draw 23 rfl (by decide +kernel) ?_ | refine WC.draw 24 rfl (by decide +kernel) ?_)); (repeat (refine WD.cons rfl (fun c h => by cases h) sq_O24_1 ?_)); refine WD.nil ?_)); (try (refine st ?_; (repeat intro zzc))))); (repeat ((first | (refine iF 84 rfl ?_; refine w_callG Try.func84 ?_ (hs := p2_any _ (by omega) _ _ _)) | ((refine iDraw ?_; (first | refine WC.drawAll rfl (by decide +kernel) ?_ | refine WC.draw 1 rfl (by decide +kernel) ?_ | refine WC.draw 2 rfl (by decide +kernel) ?_ | refine WC.draw 3 rfl (by decide +kernel) ?_ | refine WC.draw 4 rfl (by decide +kernel) ?_ | refine WC.draw 5 rfl (by decide +kernel) ?_ | refine WC.draw 6 rfl (by decide +kernel) ?_ | refine WC.draw 7 rfl (by decide +kernel) ?_ | refine WC.draw 8 rfl (by decide +kernel) ?_ | refine WC.draw 9 rfl (by decide +kernel) ?_ | refine WC.draw 10 rfl (by decide +kernel) ?_ | refine WC.draw 11 rfl (by decide +kernel) ?_ | refine WC.draw 12 rfl (by decide +kernel) ?_ | refine WC.draw 13 rfl (by decide +kernel) ?_ | refine WC.draw 14 rfl (by decide +kernel) ?_ | refine WC.draw 15 rfl (by decide +kernel) ?_ | refine WC.draw 16 rfl (by decide +kernel) ?_ | refine WC.draw 17 rfl (by decide +kernel) ?_ | refine WC.draw 18 rfl (by decide +kernel) ?_ | refine WC.draw 19 rfl (by decide +kernel) ?_ | refine WC.draw 20 rfl (by decide +kernel) ?_ | refine WC.draw 21 rfl (by decide +kernel) ?_ | refine WC.draw 22 rfl (by decide +kernel) ?_ | refine WC.draw 23 rfl (by decide +kernel) ?_ | refine WC.draw 24 rfl (by decide +kernel) ?_)); (repeat (refine WD.cons rfl (fun c h => by cases h) sq_O24_1 ?_)); refine WD.nil ?_)); (try (refine st ?_; (repeat intro zzc))))); (repeat revert zzc); exact zzn.out) : G := h ⟨next⟩
theorem p26_any (l : List UInt8) (hl : l.length ≤ 17000000) (w0 : World) (m : Mem) (H : SHeap) :
    Does Try.prog 63 #[str l] w0 m H (fun v m' H' => m' = m ∧ ∃ c cp, v = .slice c (pieces l).length cp ∧ H' = .row c cp 40 4 ((pieces l).map Pc.cs) :: H) := by
  refine Does.of_body (args := [str l]) Try.func63 rfl Try.ntmps63 rfl ?_
  have hcnt := pieces_length l
  (try (refine st_O24_1 ?_; intros))
  refine w_callF Try.func84 ?_ (hs := p2_any l hl _ _ _)
  rintro v m H1 ⟨rfl, c, cp, rfl, rfl⟩
  (try (refine st_O24_1 ?_; intros))
  refine WC.newRow (T := 40) (sz := 4) ?_
  refine WC.loopH [(5, .int .i64 ((0) : Int)), (3, .slice c (pieces l).length cp), (4, .slice (none) (0) (0))] ?_ ?_ (fun j r ds m' H' => ∃ (i : Nat) (a : Option Addr) (cap : Nat), j = (pieces l).length - i ∧ r = [(5, .int .i64 (i : Int)), (3, .slice c (pieces l).length cp), (4, .slice a i cap)] ∧ ds = [] ∧ m = m' ∧ H' = .row a cap 40 4 (((pieces l).take i).map Pc.cs) :: .row c cp 135 3 ((pieces l).map Pc.c3) :: H ∧ (i ≤ (pieces l).length)) ((pieces l).length - (0)) ⟨0, none, 0, rfl, rfl, rfl, rfl, rfl, Nat.zero_le _⟩ ?_
  · (repeat (first | exact Env.Sub.nil | refine Env.Sub.cons rfl ?_))
  · exact zpk
  rintro j r ds m' H' ⟨i, a, cap, rfl, rfl, rfl, rfl, rfl, hi⟩
  have hel : (((pieces l).take i).map Pc.cs).length = i := by simp; omega
  have hel2 : ((pieces l).map Pc.c3).length = (pieces l).length := by simp
  by_cases hlt : i < (pieces l).length
  · have hmem : (pieces l)[i] ∈ pieces l := List.getElem_mem hlt
    have hpf := pc_form hmem
    have hnext : ((pieces l).take i).map Pc.cs ++ [((pieces l)[i]).cs] = ((pieces l).take (i + 1)).map Pc.cs := by
      rw [List.take_succ_eq_append_getElem hlt, List.map_append]; rfl
    have hget : ((pieces l).map Pc.c3)[i]? = some ((pieces l)[i]).c3 := by simp [hlt]
    generalize hpi : (pieces l)[i] = pi at *
    generalize hE : (pieces l).map Pc.c3 = E at *
    generalize hD : ((pieces l).take i).map Pc.cs = D at *
    have hc3 : pi.c3 = [.int .i64 (pi.at_ : Int), .int .i64 (pi.w : Int), .int .i32 (pi.r : Int)] := rfl
    rw [hc3] at hget
    refine WC.rowSome (a := c) (es := E) zhs (by omega) ?_
    rintro c0 rfl
    by_cases hr : pi.r = 65533
    · by_cases hw1 : pi.w = 1
      · have hb : pi.b = true := by
          cases hh : pi.b with
          | false => exact absurd ⟨hr, hw1⟩ (hpf.2 hh).1
          | true => rfl
        have ec : [Value.int .i64 (pi.at_ : Int), .int .i64 (pi.w : Int), .int .i32 (pi.r : Int), .bool (dcd ((pi.w : Int) = 1))] = pi.cs := by unfold Pc.cs; rw [hb, dcd_true (p := (pi.w : Int) = 1) (by omega)]
        (refine st_O24_1 ?_; intros; rename_i bp a2 cap2)
        rw [ec, hnext, hel]
        refine WQ.next ((pieces l).length - (i + 1)) ⟨i + 1, a2, cap2, rfl, rfl, rfl, rfl, rfl, ?_⟩ (by omega) zsb zpk
        omega
      · have hb : pi.b = false := by
          cases hh : pi.b with
          | false => rfl
          | true => exact absurd (hpf.1 hh).2 hw1
        have ec : [Value.int .i64 (pi.at_ : Int), .int .i64 (pi.w : Int), .int .i32 (pi.r : Int), .bool (dcd ((pi.w : Int) = 1))] = pi.cs := by unfold Pc.cs; rw [hb, dcd_false (p := (pi.w : Int) = 1) (by omega)]
        (refine st_O24_1 ?_; intros; rename_i bp a2 cap2)
        rw [ec, hnext, hel]
        refine WQ.next ((pieces l).length - (i + 1)) ⟨i + 1, a2, cap2, rfl, rfl, rfl, rfl, rfl, ?_⟩ (by omega) zsb zpk
        omega
    · have hb : pi.b = false := by
        cases hh : pi.b with
        | false => rfl
        | true => exact absurd (hpf.1 hh).1 hr
      have ec : [Value.int .i64 (pi.at_ : Int), .int .i64 (pi.w : Int), .int .i32 (pi.r : Int), .bool false] = pi.cs := by unfold Pc.cs; rw [hb]
      (refine st_O24_1 ?_; intros; rename_i bp a2 cap2)
      rw [ec, hnext, hel]
      refine WQ.next ((pieces l).length - (i + 1)) ⟨i + 1, a2, cap2, rfl, rfl, rfl, rfl, rfl, ?_⟩ (by omega) zsb zpk
      omega
  · obtain rfl : i = (pieces l).length := by omega
    rw [List.take_length]
    (try (refine st_O24_1 ?_; intros))
    exact q_fin0 (H0 := .row a cap 40 4 ((pieces l).map Pc.cs) :: H) ⟨rfl, a, cap, rfl, rfl⟩ (hd := zpk)
end Go.Proofs.Ytljfncpecpkhhaa

/-
  Plain facts for ropes: how pieces follow one another. No condition.
-/
namespace Go.Eng
open Go
theorem piece_first {l : List UInt8} (h : 0 < (pieces l).length) : ((pieces l)[0]).at_ = 0 := by
  have h0 : 0 < l.length := by
    by_cases hl : 0 < l.length
    · exact hl
    · have : pieces l = [] := by unfold pieces; exact from_nil hl
      rw [this] at h; simp at h
  have hc : pieces l = readP l 0 :: from_ l (0 + (readP l 0).w) := by unfold pieces; exact from_cons h0
  have : (pieces l)[0]? = some (readP l 0) := by rw [hc]; rfl
  rw [List.getElem?_eq_getElem h] at this
  rw [Option.some.inj this, readP_at]
theorem piece_after {l : List UInt8} {i : Nat} (h : i < (pieces l).length) : (pieces l).drop (i + 1) = from_ l (((pieces l)[i]).at_ + ((pieces l)[i]).w) ∧ ((pieces l)[i]).at_ + ((pieces l)[i]).w ≤ l.length := by
  have hs : pieces l = (pieces l).take i ++ (pieces l)[i] :: (pieces l).drop (i + 1) := by
    rw [← List.drop_eq_getElem_cons h, List.take_append_drop]
  obtain ⟨h1, h2, h3, _⟩ := pieces_split hs
  rw [from_cons h1] at h3
  have h4 := (List.cons.inj h3).2
  rw [← h2] at h4
  have hw := readP_w h1
  rw [← h2] at hw
  exact ⟨h4, hw.2.2⟩
theorem piece_next {l : List UInt8} {i : Nat} (h : i + 1 < (pieces l).length) : ((pieces l)[i + 1]).at_ = ((pieces l)[i]).at_ + ((pieces l)[i]).w := by
  obtain ⟨h1, h2⟩ := piece_after (l := l) (i := i) (by omega)
  rw [List.drop_eq_getElem_cons h] at h1
  by_cases hk : ((pieces l)[i]).at_ + ((pieces l)[i]).w < l.length
  · rw [from_cons hk] at h1
    rw [(List.cons.inj h1).1, readP_at]
  · rw [from_nil hk] at h1; cases h1
theorem piece_end {l : List UInt8} {i : Nat} (h : i + 1 = (pieces l).length) : ((pieces l)[i]).at_ + ((pieces l)[i]).w = l.length := by
  obtain ⟨h1, h2⟩ := piece_after (l := l) (i := i) (by omega)
  rw [List.drop_of_length_le (by omega)] at h1
  by_cases hk : ((pieces l)[i]).at_ + ((pieces l)[i]).w < l.length
  · rw [from_cons hk] at h1; cases h1
  · omega
theorem pieces_some {l : List UInt8} (h : 0 < l.length) : 0 < (pieces l).length := by
  have hc : pieces l = readP l 0 :: from_ l (0 + (readP l 0).w) := by unfold pieces; exact from_cons h
  rw [hc]; simp
/-- the piece over a place, from the end -/
theorem over_idx {l : List UInt8} {i k : Nat} (h : i < (pieces l).length) (hk : k < l.length) (h1 : ((pieces l)[i]).at_ ≤ k) (h2 : ∀ h : i + 1 < (pieces l).length, k < ((pieces l)[i + 1]).at_) : Over l k (pieces l)[i] := by
  refine ⟨List.getElem_mem h, h1, ?_⟩
  by_cases hl : i + 1 < (pieces l).length
  · have := h2 hl
    rw [piece_next hl] at this
    exact this
  · have := piece_end (l := l) (i := i) (by omega)
    omega
theorem over_one {L : List UInt8} {k : Nat} {p q : Pc} (hp : Over L k p) (hq : Over L k q) : p = q := by
  obtain ⟨h1, h2, h3⟩ := hp
  obtain ⟨h4, h5, h6⟩ := hq
  obtain ⟨r1, l1, e1⟩ := reach_of_mem h1
  obtain ⟨r2, l2, e2⟩ := reach_of_mem h4
  rcases Nat.lt_trichotomy p.at_ q.at_ with h | h | h
  · exact absurd r2 (not_reach_within l1 r1 h (by rw [← e1]; omega))
  · rw [e1, e2, h]
  · exact absurd r1 (not_reach_within l2 r2 h (by rw [← e2]; omega))
end Go.Eng

/-
  The walks of the reference's Count, Piece, Rune (canticleref26). No condition.
-/
namespace Go.Proofs.Ytljfncpecpkhhaa
open Go Go.Eng
set_option maxRecDepth 100000
set_option maxHeartbeats 4000000
set_option linter.all false
attribute [local irreducible] WL WC WQ QFun QLoop Does Q1 QRound QAssign Go.Addr.add
attribute [local irreducible] readP pieces dl from_ nBrk
theorem row_piece {l : List UInt8} {i : Nat} (h : i < (pieces l).length) : ((pieces l).map Pc.cs)[i]? = some [.int .i64 (((pieces l)[i]).at_ : Int), .int .i64 (((pieces l)[i]).w : Int), .int .i32 (((pieces l)[i]).r : Int), .bool ((pieces l)[i]).b] := by
  rw [List.getElem?_map, List.getElem?_eq_getElem h]; rfl
theorem refCount_any (l : List UInt8) (hl : l.length ≤ 17000000) (w0 : World) (m : Mem) (H : SHeap) :
    Does Try.prog 64 #[str l] w0 m H (Gives (.tuple #[.int .i64 ((pieces l).length : Int), .int .i64 (nBrk (pieces l) : Int)]) m H) := by
  refine Does.of_body (args := [str l]) Try.func64 rfl Try.ntmps64 rfl ?_
  have hcnt := pieces_length l
  have h0 : nBrk [] = 0 := by unfold nBrk; rfl
  (try (refine st ?_; intros))
  refine w_callF Try.func63 ?_ (hs := p26_any l hl _ _ _)
  rintro v m H1 ⟨rfl, c, cp, rfl, rfl⟩
  (try (refine st ?_; intros))
  refine WC.loopH [(6, .int .i64 ((0) : Int)), (5, .int .i64 ((0) : Int)), (4, .slice c (pieces l).length cp)] ?_ ?_ (fun j r ds m' H' => ∃ (i : Nat) (N : Nat), j = (pieces l).length - i ∧ r = [(6, .int .i64 (i : Int)), (5, .int .i64 (N : Int)), (4, .slice c (pieces l).length cp)] ∧ ds = [] ∧ m = m' ∧ H' = .row c cp 40 4 ((pieces l).map Pc.cs) :: H ∧ (i ≤ (pieces l).length) ∧ (N = nBrk ((pieces l).take i))) ((pieces l).length - (0)) ⟨0, 0, rfl, rfl, rfl, rfl, rfl, Nat.zero_le _, by rw [List.take_zero]; exact h0.symm⟩ ?_
  · (repeat (first | exact Env.Sub.nil | refine Env.Sub.cons rfl ?_))
  · exact zpk
  rintro j r ds m' H' ⟨i, N, rfl, rfl, rfl, rfl, rfl, hi, hN⟩
  have hel2 : ((pieces l).map Pc.cs).length = (pieces l).length := by simp
  by_cases hlt : i < (pieces l).length
  · have hget := row_piece hlt
    have hn := nBrk_snoc ((pieces l).take i) (pieces l)[i]
    rw [← List.take_succ_eq_append_getElem hlt] at hn
    have hbl := nBrk_le ((pieces l).take i)
    have htl : ((pieces l).take i).length ≤ (pieces l).length := by simp; omega
    generalize hpi : (pieces l)[i] = pi at *
    generalize hE : (pieces l).map Pc.cs = E at *
    refine WC.rowSome (a := c) (es := E) zhs (by omega) ?_
    rintro c0 rfl
    cases hb : pi.b with
    | true =>
      rw [hb, if_pos rfl] at hn
      rw [hb] at hget
      (try (refine st ?_; intros))
      refine WQ.next ((pieces l).length - (i + 1)) ⟨i + 1, N + 1, rfl, rfl, rfl, rfl, rfl, ?_, ?_⟩ (by omega) zsb zpk
      · omega
      · omega
    | false =>
      rw [hb, if_neg (by decide)] at hn
      rw [hb] at hget
      (try (refine st ?_; intros))
      refine WQ.next ((pieces l).length - (i + 1)) ⟨i + 1, N, rfl, rfl, rfl, rfl, rfl, ?_, ?_⟩ (by omega) zsb zpk
      · omega
      · omega
  · obtain rfl : i = (pieces l).length := by omega
    rw [List.take_length] at hN
    subst hN
    (try (refine st ?_; intros))
    exact q_fin0 (H0 := H) (Gives.mk rfl) (hd := zpk)
theorem refPieceOut_any {l : List UInt8} {k : Int} (hk : k < 0 ∨ (l.length : Int) ≤ k) (hl : l.length ≤ 17000000) (w0 : World) (m : Mem) (H : SHeap) :
    Does Try.prog 65 #[str l, .int .i64 k] w0 m H (Gives (.tuple #[zeroP, .int .i64 5]) m H) := by
  refine Does.of_body (args := [str l, .int .i64 k]) Try.func65 rfl Try.ntmps65 rfl ?_
  by_cases h : k < 0
  · (refine st ?_; intros; rename_i b4)
    exact q_fin0 (H0 := H) (Gives.mk rfl) (hd := zpk)
  · (refine st ?_; intros; rename_i b4)
    exact q_fin0 (H0 := H) (Gives.mk rfl) (hd := zpk)
theorem refPiece_any {l : List UInt8} {k : Nat} (hk : k < l.length) (hl : l.length ≤ 17000000) (w0 : World) (m : Mem) (H : SHeap) :
    Does Try.prog 65 #[str l, .int .i64 (k : Int)] w0 m H (fun v m' H' => m' = m ∧ H' = H ∧ ∃ q, Over l k q ∧ v = .tuple #[q.v, .int .i64 0]) := by
  refine Does.of_body (args := [str l, .int .i64 (k : Int)]) Try.func65 rfl Try.ntmps65 rfl ?_
  have hcnt := pieces_length l
  have hps := pieces_some (l := l) (by omega)
  (refine st ?_; intros; rename_i b4)
  refine w_callF Try.func63 ?_ (hs := p26_any l hl _ _ _)
  rintro v m H1 ⟨rfl, c, cp, rfl, rfl⟩
  (try (refine st ?_; intros))
  obtain ⟨i0, hi0⟩ : ∃ i0, (pieces l).length = i0 + 1 := ⟨(pieces l).length - 1, by omega⟩
  have e0 : ((pieces l).length : Int) - 1 = (i0 : Int) := by omega
  rw [e0]
  refine WC.loopH [(7, .int .i64 ((i0) : Int)), (6, .slice c (pieces l).length cp), (1, .int .i64 (k : Int)), (4, .pointer (some ⟨b4, 0, none⟩))] ?_ ?_ (fun j r ds m' H' => ∃ (i : Nat), j = 2 * i ∧ r = [(7, .int .i64 (i : Int)), (6, .slice c (pieces l).length cp), (1, .int .i64 (k : Int)), (4, .pointer (some ⟨b4, 0, none⟩))] ∧ ds = [] ∧ m = m' ∧ H' = .row c cp 40 4 ((pieces l).map Pc.cs) :: .blk b4 (.cells [.int .i64 0, .int .i64 0, .int .i32 0, .bool false].toArray 40 (0, 0)) :: H ∧ (i < (pieces l).length) ∧ (∀ h : i + 1 < (pieces l).length, k < ((pieces l)[i + 1]).at_)) (2 * (i0)) ⟨i0, rfl, rfl, rfl, rfl, rfl, by omega, fun h => by omega⟩ ?_
  · (repeat (first | exact Env.Sub.nil | refine Env.Sub.cons rfl ?_))
  · exact zpk
  rintro j r ds m' H' ⟨i, rfl, rfl, rfl, rfl, rfl, hi, hbe⟩
  have hel2 : ((pieces l).map Pc.cs).length = (pieces l).length := by simp
  have hget := row_piece hi
  have hov := over_idx hi hk
  have hf : i = 0 → ((pieces l)[i]).at_ = 0 := fun h => by subst h; exact piece_first hi
  have hsucc : ∀ h : i - 1 + 1 < (pieces l).length, 0 < i → (pieces l)[i - 1 + 1] = (pieces l)[i] := fun h h0 => by congr 1; omega
  generalize hpi : (pieces l)[i] = pi at *
  generalize hE : (pieces l).map Pc.cs = E at *
  refine WC.rowSome (a := c) (es := E) zhs (by omega) ?_
  rintro c0 rfl
  by_cases hgt : k < pi.at_
  · have hi0 : 0 < i := by
      by_cases h : 0 < i
      · exact h
      · have := hf (by omega); omega
    (try (refine st ?_; intros))
    rw [show (i : Int) - 1 = ((i - 1 : Nat) : Int) by omega]
    refine WQ.next (2 * (i - 1)) ⟨i - 1, rfl, rfl, rfl, rfl, rfl, ?_, ?_⟩ (by omega) zsb zpk
    · omega
    · intro h
      rw [hsucc h hi0]
      exact hgt
  · have hov2 := hov (by omega) hbe
    (try (refine st ?_; intros))
    refine q_fin0 (H0 := H) ⟨rfl, rfl, pi, hov2, ?_⟩ (hd := zpk)
    rfl
theorem refRune_any {l : List UInt8} {k : Int} (hl : l.length ≤ 17000000) (w0 : World) (m : Mem) (H : SHeap) :
    Does Try.prog 66 #[str l, .int .i64 k] w0 m H (Gives (.tuple #[.int .i64 (runeR l k).1, .int .i64 (runeR l k).2]) m H) := by
  refine Does.of_body (args := [str l, .int .i64 k]) Try.func66 rfl Try.ntmps66 rfl ?_
  have hcnt := pieces_length l
  (try (refine st ?_; intros))
  refine w_callF Try.func63 ?_ (hs := p26_any l hl _ _ _)
  rintro v m H1 ⟨rfl, c, cp, rfl, rfl⟩
  unfold runeR
  by_cases h1 : k < 0
  · rw [if_pos (.inl h1)]
    (try (refine st ?_; intros))
    exact q_fin0 (H0 := H) (Gives.mk rfl) (hd := zpk)
  by_cases h2 : ((pieces l).length : Int) < k
  · rw [if_pos (.inr h2)]
    (try (refine st ?_; intros))
    exact q_fin0 (H0 := H) (Gives.mk rfl) (hd := zpk)
  rw [if_neg (by omega)]
  obtain ⟨n, rfl⟩ : ∃ n : Nat, k = (n : Int) := ⟨k.toNat, by omega⟩
  rw [Int.toNat_natCast]
  by_cases h3 : n = (pieces l).length
  · rw [h3, List.getElem?_eq_none (Nat.le_refl _)]
    (try (refine st ?_; intros))
    exact q_fin0 (H0 := H) (Gives.mk rfl) (hd := zpk)
  · have hlt : n < (pieces l).length := by omega
    rw [List.getElem?_eq_getElem hlt]
    have hel2 : ((pieces l).map Pc.cs).length = (pieces l).length := by simp
    have hget := row_piece hlt
    generalize hpi : (pieces l)[n] = pi at *
    generalize hE : (pieces l).map Pc.cs = E at *
    refine WL.rowSome (a := c) (es := E) zhs (by omega) ?_
    rintro c0 rfl
    (try (refine st ?_; intros))
    exact q_fin0 (H0 := H) (Gives.mk rfl) (hd := zpk)
end Go.Proofs.Ytljfncpecpkhhaa

/-
  The walks of the reference's Slice, Delete, Insert, Join, Index (canticleref26). No condition.
-/
namespace Go.Eng
/-- what the reference answers -/
def outR (x : Except Int (List UInt8)) : Value := match x with
  | .error e => .tuple #[str [], .int .i64 e]
  | .ok s => .tuple #[str s, .int .i64 0]
theorem occ_iff {s t : List UInt8} {j : Nat} : Lib.occAt s t j = true ↔ (s.take (j + t.length)).drop j = t := by
  unfold Lib.occAt
  rw [List.isPrefixOf_iff_prefix, List.prefix_iff_eq_take, List.drop_take, show j + t.length - j = t.length by omega]
  exact eq_comm
theorem occ_len {s t : List UInt8} {j : Nat} (h : s.length < j + t.length) (hj : j ≤ s.length) : Lib.occAt s t j = false := by
  cases ho : Lib.occAt s t j with
  | false => rfl
  | true =>
    have := congrArg List.length (occ_iff.1 ho)
    simp at this
    omega
theorem occ_drop {s t : List UInt8} {f j : Nat} : Lib.occAt (s.drop f) t j = Lib.occAt s t (f + j) := by
  unfold Lib.occAt
  rw [List.drop_drop]
theorem idx_found {s t : List UInt8} {f i : Nat} (hf : f ≤ i) (hi : i ≤ s.length) (h : (s.take (i + t.length)).drop i = t) (hno : ∀ j, f ≤ j → j < i → Lib.occAt s t j = false) : idxR s t (f : Int) = ((i : Int), true) := by
  have he : Lib.index (s.drop f) t = ((i - f : Nat) : Int) := by
    refine Lib.index_first (by simp; omega) ?_ (fun j hj => ?_)
    · rw [occ_drop, show f + (i - f) = i by omega]; exact occ_iff.2 h
    · rw [occ_drop]; exact hno _ (by omega) (by omega)
  unfold idxR
  rw [if_neg (by omega), Int.toNat_natCast, he, if_neg (by omega)]
  refine Prod.ext ?_ rfl
  simp only []; omega
theorem idx_none {s t : List UInt8} {f i : Nat} (hf : f ≤ s.length) (hi : s.length < i + t.length) (hno : ∀ j, f ≤ j → j < i → Lib.occAt s t j = false) : idxR s t (f : Int) = (0, false) := by
  have he : Lib.index (s.drop f) t = -1 := by
    refine Lib.index_none fun j hj => ?_
    rw [occ_drop]
    by_cases h : f + j < i
    · exact hno _ (by omega) h
    · exact occ_len (by omega) (by simp at hj; omega)
  unfold idxR
  rw [if_neg (by omega), Int.toNat_natCast, he, if_pos (by decide)]
end Go.Eng
namespace Go.Proofs.Ytljfncpecpkhhaa
open Go Go.Eng
set_option maxRecDepth 100000
set_option maxHeartbeats 4000000
set_option linter.all false
attribute [local irreducible] WL WC WQ QFun QLoop Does Q1 QRound QAssign Go.Addr.add
attribute [local irreducible] Lib.index
theorem refSlice_any {s : List UInt8} {f t : Int} (hl : s.length ≤ 1000000000) (w0 : World) (m : Mem) (H : SHeap) : Does Try.prog 32 #[str s, .int .i64 f, .int .i64 t] w0 m H (Gives (outR (sliceR s f t)) m H) := by
  refine Does.of_body (args := [str s, .int .i64 f, .int .i64 t]) Try.func32 rfl Try.ntmps32 rfl ?_
  unfold sliceR
  by_cases h1 : f < 0
  · rw [if_pos (.inl h1)]
    (try (refine st ?_; intros))
    exact q_fin0 (H0 := H) (Gives.mk rfl) (hd := zpk)
  by_cases h2 : t < f
  · rw [if_pos (.inr (.inl h2))]
    (try (refine st ?_; intros))
    exact q_fin0 (H0 := H) (Gives.mk rfl) (hd := zpk)
  by_cases h3 : (s.length : Int) < t
  · rw [if_pos (.inr (.inr h3))]
    (try (refine st ?_; intros))
    exact q_fin0 (H0 := H) (Gives.mk rfl) (hd := zpk)
  rw [if_neg (by omega)]
  obtain ⟨a, rfl⟩ : ∃ a : Nat, f = (a : Int) := ⟨f.toNat, by omega⟩
  obtain ⟨b, rfl⟩ : ∃ b : Nat, t = (b : Int) := ⟨t.toNat, by omega⟩
  rw [Int.toNat_natCast, Int.toNat_natCast]
  (try (refine st ?_; intros))
  exact q_fin0 (H0 := H) (Gives.mk rfl) (hd := zpk)
theorem refDelete_any {s : List UInt8} {f t : Int} (hl : s.length ≤ 1000000000) (w0 : World) (m : Mem) (H : SHeap) : Does Try.prog 33 #[str s, .int .i64 f, .int .i64 t] w0 m H (Gives (outR (deleteR s f t)) m H) := by
  refine Does.of_body (args := [str s, .int .i64 f, .int .i64 t]) Try.func33 rfl Try.ntmps33 rfl ?_
  unfold deleteR
  by_cases h1 : f < 0
  · rw [if_pos (.inl h1)]
    (try (refine st ?_; intros))
    exact q_fin0 (H0 := H) (Gives.mk rfl) (hd := zpk)
  by_cases h2 : t < f
  · rw [if_pos (.inr (.inl h2))]
    (try (refine st ?_; intros))
    exact q_fin0 (H0 := H) (Gives.mk rfl) (hd := zpk)
  by_cases h3 : (s.length : Int) < t
  · rw [if_pos (.inr (.inr h3))]
    (try (refine st ?_; intros))
    exact q_fin0 (H0 := H) (Gives.mk rfl) (hd := zpk)
  rw [if_neg (by omega)]
  obtain ⟨a, rfl⟩ : ∃ a : Nat, f = (a : Int) := ⟨f.toNat, by omega⟩
  obtain ⟨b, rfl⟩ : ∃ b : Nat, t = (b : Int) := ⟨t.toNat, by omega⟩
  rw [Int.toNat_natCast, Int.toNat_natCast]
  have z1 : (s.take a).length ≤ s.length := by simp; omega
  have z2 : (s.drop b).length ≤ s.length := by simp
  (try (refine st ?_; intros))
  exact q_fin0 (H0 := H) (Gives.mk rfl) (hd := zpk)
theorem refInsert_any {s u : List UInt8} {a : Int} (hl : s.length + u.length ≤ 1000000000) (w0 : World) (m : Mem) (H : SHeap) : Does Try.prog 34 #[str s, .int .i64 a, str u] w0 m H (Gives (outR (insertR s a u)) m H) := by
  refine Does.of_body (args := [str s, .int .i64 a, str u]) Try.func34 rfl Try.ntmps34 rfl ?_
  unfold insertR
  by_cases h1 : a < 0
  · rw [if_pos (.inl h1)]
    (try (refine st ?_; intros))
    exact q_fin0 (H0 := H) (Gives.mk rfl) (hd := zpk)
  by_cases h2 : (s.length : Int) < a
  · rw [if_pos (.inr h2)]
    (try (refine st ?_; intros))
    exact q_fin0 (H0 := H) (Gives.mk rfl) (hd := zpk)
  rw [if_neg (by omega)]
  by_cases h3 : 16777216 < s.length + u.length
  · rw [if_pos h3]
    (try (refine st ?_; intros))
    exact q_fin0 (H0 := H) (Gives.mk rfl) (hd := zpk)
  rw [if_neg h3]
  obtain ⟨b, rfl⟩ : ∃ b : Nat, a = (b : Int) := ⟨a.toNat, by omega⟩
  rw [Int.toNat_natCast]
  have z1 : (s.take b).length ≤ b := by simp; omega
  have z2 : (s.drop b).length = s.length - b := by simp
  have z3 : (s.take b ++ u).length ≤ b + u.length := by simp; omega
  (try (refine st ?_; intros))
  exact q_fin0 (H0 := H) (Gives.mk rfl) (hd := zpk)
theorem refJoin_any {s u : List UInt8} (hl : s.length + u.length ≤ 1000000000) (w0 : World) (m : Mem) (H : SHeap) : Does Try.prog 35 #[str s, str u] w0 m H (Gives (outR (joinRR s u)) m H) := by
  refine Does.of_body (args := [str s, str u]) Try.func35 rfl Try.ntmps35 rfl ?_
  unfold joinRR
  by_cases h3 : 16777216 < s.length + u.length
  · rw [if_pos h3]
    (try (refine st ?_; intros))
    exact q_fin0 (H0 := H) (Gives.mk rfl) (hd := zpk)
  rw [if_neg h3]
  (try (refine st ?_; intros))
  exact q_fin0 (H0 := H) (Gives.mk rfl) (hd := zpk)
theorem refIndex_any {s t : List UInt8} {f : Int} (hl : s.length + t.length ≤ 1000000000) (w0 : World) (m : Mem) (H : SHeap) : Does Try.prog 36 #[str s, str t, .int .i64 f] w0 m H (Gives (.tuple #[.int .i64 (idxR s t f).1, .bool (idxR s t f).2]) m H) := by
  refine Does.of_body (args := [str s, str t, .int .i64 f]) Try.func36 rfl Try.ntmps36 rfl ?_
  by_cases h1 : f < 0
  · have e : idxR s t f = (0, false) := by unfold idxR; rw [if_pos (.inl h1)]
    rw [e]
    (try (refine st ?_; intros))
    exact q_fin0 (H0 := H) (Gives.mk rfl) (hd := zpk)
  by_cases h2 : (s.length : Int) < f
  · have e : idxR s t f = (0, false) := by unfold idxR; rw [if_pos (.inr h2)]
    rw [e]
    (try (refine st ?_; intros))
    exact q_fin0 (H0 := H) (Gives.mk rfl) (hd := zpk)
  obtain ⟨a, rfl⟩ : ∃ a : Nat, f = (a : Int) := ⟨f.toNat, by omega⟩
  (try (refine st ?_; intros))
  refine WC.loopH [(8, .int .i64 ((a) : Int)), (0, str s), (1, str t)] ?_ ?_ (fun j r ds m' H' => ∃ (i : Nat), j = s.length + 2 - i ∧ r = [(8, .int .i64 (i : Int)), (0, str s), (1, str t)] ∧ ds = [] ∧ m = m' ∧ H' = H ∧ (a ≤ i ∧ i ≤ s.length + 1) ∧ (∀ j, a ≤ j → j < i → Lib.occAt s t j = false)) (s.length + 2 - (a)) ⟨a, rfl, rfl, rfl, rfl, rfl, ⟨by omega, by omega⟩, fun j h1 h2 => by omega⟩ ?_
  · (repeat (first | exact Env.Sub.nil | refine Env.Sub.cons rfl ?_))
  · exact zpk
  rintro j r ds m' H' ⟨i, rfl, rfl, rfl, rfl, rfl, hi, hno⟩
  generalize H' = H
  by_cases hin : i + t.length ≤ s.length
  · have ez : (i : Int) + (t.length : Int) = ((i + t.length : Nat) : Int) := by omega
    by_cases hocc : (s.take (i + t.length)).drop i = t
    · have e := idx_found hi.1 (by omega) hocc hno
      rw [e]
      have hd : (dcd ((s.take (i + t.length)).drop i = t)) = true := dcd_true hocc
      (try (refine st ?_; intros))
      exact q_fin0 (H0 := H) (Gives.mk rfl) (hd := zpk)
    · (try (refine st ?_; intros))
      refine WQ.next (s.length + 2 - (i + 1)) ⟨i + 1, rfl, rfl, rfl, rfl, rfl, ?_, ?_⟩ (by omega) zsb zpk
      · omega
      · intro j hj1 hj2
        by_cases h : j = i
        · subst h
          cases ho : Lib.occAt s t j with
          | false => rfl
          | true => exact absurd (occ_iff.1 ho) hocc
        · exact hno j hj1 (by omega)
  · have e := idx_none (f := a) (by omega) (by omega) hno
    rw [e]
    (try (refine st ?_; intros))
    exact q_fin0 (H0 := H) (Gives.mk rfl) (hd := zpk)
end Go.Proofs.Ytljfncpecpkhhaa

/-
  Plain facts for ropes: the reference's places, one for each piece; where lines end. No condition.
-/
namespace Go.Eng
open Go
theorem read_ascii {l : List UInt8} {k : Nat} : (gb l k < 128 → (readP l k).r = gb l k ∧ (readP l k).w = 1) ∧ (128 ≤ gb l k → 128 ≤ (readP l k).r) := by
  rw [readP_r_eq, readP_w_eq]
  have h0 : nb (l.drop k) 0 = gb l k := by rw [nb_drop]; rfl
  unfold dl
  simp only [h0]
  refine ⟨fun h => by simp [h], fun h => ?_⟩
  rw [if_neg (by omega)]
  split
  · split
    · simpa using (by assumption : _ ≥ 128)
    · simp
  · split
    · split
      · rename_i hc
        simp only [Bool.and_eq_true, decide_eq_true_eq, ge_iff_le] at hc
        simp only []; omega
      · simp
    · split
      · split
        · rename_i hc
          simp only [Bool.and_eq_true, decide_eq_true_eq, ge_iff_le] at hc
          simp only []; omega
        · simp
      · simp
theorem gb_out {l : List UInt8} {k : Nat} (h : l.length ≤ k) : gb l k = 0 := by simp [gb, List.getD_eq_getElem?_getD, List.getElem?_eq_none h]
theorem inside_high {l : List UInt8} {k j : Nat} (hk : k < l.length) (hr : Reach l k) (h1 : k < j) (h2 : j < k + (readP l k).w) : 128 ≤ gb l j := by
  rcases Nat.lt_or_ge (gb l j) 128 with h | h
  · have hw := readP_w hk
    exact absurd (reach_lead (by omega) (.inl h) j 0 (by omega) (by omega) (Reach.zero l)) (not_reach_within hk hr h1 h2)
  · exact h
/-- where a line ends: at a 10, or at a 13 with no 10 behind it -/
def isE (l : List UInt8) (i : Nat) : Bool := decide (gb l i = 10 ∨ (gb l i = 13 ∧ gb l (i + 1) ≠ 10))
/-- where lines end, from a place on -/
def eFrom (l : List UInt8) (k : Nat) : List Nat := ((List.range' k (l.length - k)).filter (isE l)).map (· + 1)
theorem eFrom_end {l : List UInt8} {k : Nat} (h : l.length ≤ k) : eFrom l k = [] := by
  unfold eFrom; rw [show l.length - k = 0 by omega]; rfl
theorem eFrom_step {l : List UInt8} {k : Nat} (h : k < l.length) : eFrom l k = if isE l k then (k + 1) :: eFrom l (k + 1) else eFrom l (k + 1) := by
  unfold eFrom
  rw [show l.length - k = (l.length - (k + 1)) + 1 by omega, List.range'_succ, List.filter_cons]
  split <;> rfl
theorem eFrom_ge {l : List UInt8} {k x : Nat} (h : x ∈ eFrom l k) : k + 1 ≤ x ∧ x ≤ l.length := by
  unfold eFrom at h
  obtain ⟨y, hy, rfl⟩ := List.mem_map.1 h
  have := (List.mem_filter.1 hy).1
  rw [List.mem_range'] at this
  obtain ⟨i, h1, h2⟩ := this
  omega
theorem eFrom_len (l : List UInt8) (k : Nat) : (eFrom l k).length ≤ l.length := by
  unfold eFrom
  rw [List.length_map]
  refine Nat.le_trans (List.length_filter_le _ _) ?_
  rw [List.length_range']
  omega
theorem eFrom_skip {l : List UInt8} {a : Nat} : ∀ d, (∀ j, a ≤ j → j < a + d → isE l j = false) → eFrom l a = eFrom l (a + d)
  | 0, _ => rfl
  | d + 1, h => by
    rw [eFrom_skip d fun j h1 h2 => h j h1 (by omega)]
    by_cases hk : a + d < l.length
    · rw [eFrom_step hk, h (a + d) (by omega) (by omega)]; rfl
    · rw [eFrom_end (by omega), eFrom_end (by omega)]
theorem isE_high {l : List UInt8} {j : Nat} (h : 128 ≤ gb l j) : isE l j = false := by
  unfold isE; rw [decide_eq_false_iff_not]; omega
/-- where a piece begins; behind the last one: the text's end -/
def bnd (l : List UInt8) (i : Nat) : Nat := if h : i < (pieces l).length then ((pieces l)[i]).at_ else l.length
def lastR (l : List UInt8) : Nat → Nat
  | 0 => 0
  | i + 1 => (((pieces l)[i]?).map Pc.r).getD 0
def behR (l : List UInt8) (i : Nat) : Nat := (((pieces l)[i]?).map Pc.r).getD 0
theorem bnd_zero (l : List UInt8) : bnd l 0 = 0 := by
  unfold bnd
  split
  · exact piece_first (by assumption)
  · rename_i h
    by_cases hl : 0 < l.length
    · exact absurd (pieces_some hl) h
    · omega
theorem bnd_at {l : List UInt8} {i : Nat} (h : i < (pieces l).length) : bnd l i = ((pieces l)[i]).at_ := by unfold bnd; rw [dif_pos h]
theorem bnd_end (l : List UInt8) : bnd l (pieces l).length = l.length := by unfold bnd; rw [dif_neg (by omega)]
theorem bnd_next {l : List UInt8} {i : Nat} (h : i < (pieces l).length) : bnd l (i + 1) = bnd l i + ((pieces l)[i]).w := by
  rw [bnd_at h]
  by_cases h1 : i + 1 < (pieces l).length
  · rw [bnd_at h1, piece_next h1]
  · have h2 : i + 1 = (pieces l).length := by omega
    rw [h2, bnd_end, piece_end h2]
theorem bnd_le (l : List UInt8) (i : Nat) : bnd l i ≤ l.length := by
  unfold bnd
  split
  · rename_i h
    have := (reach_of_mem (List.getElem_mem h)).2.1
    omega
  · exact Nat.le_refl _
theorem piece_facts {l : List UInt8} {i : Nat} (h : i < (pieces l).length) : Reach l (bnd l i) ∧ bnd l i < l.length ∧ (pieces l)[i] = readP l (bnd l i) := by
  rw [bnd_at h]
  exact reach_of_mem (List.getElem_mem h)
def chk (l : List UInt8) (i : Nat) : Bool := decide (lastR l i = 10 ∨ (lastR l i = 13 ∧ behR l i ≠ 10))
theorem beh_byte {l : List UInt8} {i : Nat} (hi : i ≤ (pieces l).length) : (behR l i = 10 ↔ gb l (bnd l i) = 10) := by
  unfold behR
  by_cases h : i < (pieces l).length
  · obtain ⟨h1, h2, h3⟩ := piece_facts h
    rw [List.getElem?_eq_getElem h, h3]
    obtain ⟨a1, a2⟩ := read_ascii (l := l) (k := bnd l i)
    simp only [Option.map_some, Option.getD_some]
    rcases Nat.lt_or_ge (gb l (bnd l i)) 128 with hb | hb
    · rw [(a1 hb).1]
    · have := a2 hb; omega
  · obtain rfl : i = (pieces l).length := by omega
    rw [List.getElem?_eq_none (Nat.le_refl _), bnd_end, gb_out (Nat.le_refl _)]
    simp
theorem lastR_next {l : List UInt8} {i : Nat} (h : i < (pieces l).length) : lastR l (i + 1) = ((pieces l)[i]).r := by
  show (((pieces l)[i]?).map Pc.r).getD 0 = _
  rw [List.getElem?_eq_getElem h]
  rfl
theorem last_byte {l : List UInt8} {i : Nat} (hi : i < (pieces l).length) : 0 < bnd l (i + 1) ∧ (lastR l (i + 1) = 10 ↔ gb l (bnd l (i + 1) - 1) = 10) ∧ (lastR l (i + 1) = 13 ↔ gb l (bnd l (i + 1) - 1) = 13) := by
  obtain ⟨h1, h2, h3⟩ := piece_facts hi
  have hw := readP_w h2
  rw [lastR_next hi, bnd_next hi, h3]
  obtain ⟨a1, a2⟩ := read_ascii (l := l) (k := bnd l i)
  refine ⟨by omega, ?_⟩
  rcases Nat.lt_or_ge (gb l (bnd l i)) 128 with hb | hb
  · rw [(a1 hb).1, (a1 hb).2, Nat.add_sub_cancel]
    exact ⟨Iff.rfl, Iff.rfl⟩
  · have h4 := a2 hb
    have h5 : 128 ≤ gb l (bnd l i + (readP l (bnd l i)).w - 1) := by
      by_cases hw1 : (readP l (bnd l i)).w = 1
      · rw [hw1, Nat.add_sub_cancel]; exact hb
      · exact inside_high h2 h1 (by omega) (by omega)
    exact ⟨by omega, by omega⟩
theorem ends_at {l : List UInt8} {i : Nat} (hi : i ≤ (pieces l).length) : (chk l i = true ∧ 0 < bnd l i ∧ eFrom l (bnd l i - 1) = bnd l i :: eFrom l (bnd l i)) ∨ (chk l i = false ∧ eFrom l (bnd l i - 1) = eFrom l (bnd l i)) := by
  cases i with
  | zero => exact .inr ⟨by simp [chk, lastR], by rw [bnd_zero]⟩
  | succ i =>
    have hi' : i < (pieces l).length := by omega
    obtain ⟨h0, h1, h2⟩ := last_byte hi'
    have h3 := beh_byte hi
    have hle := bnd_le l (i + 1)
    have he := eFrom_step (l := l) (k := bnd l (i + 1) - 1) (by omega)
    rw [show bnd l (i + 1) - 1 + 1 = bnd l (i + 1) by omega] at he
    have hc : isE l (bnd l (i + 1) - 1) = chk l (i + 1) := by
      unfold isE chk
      rw [show bnd l (i + 1) - 1 + 1 = bnd l (i + 1) by omega]
      exact decide_eq_decide.2 (by rw [h1, h2]; simp only [ne_eq]; rw [h3])
    rw [hc] at he
    cases hh : chk l (i + 1) with
    | true => rw [hh, if_pos rfl] at he; exact .inl ⟨rfl, h0, he⟩
    | false => rw [hh, if_neg (by decide)] at he; exact .inr ⟨rfl, he⟩
theorem ends_on {l : List UInt8} {i : Nat} (hi : i < (pieces l).length) : eFrom l (bnd l (i + 1) - 1) = eFrom l (bnd l i) := by
  obtain ⟨h1, h2, h3⟩ := piece_facts hi
  have hw := readP_w h2
  rw [bnd_next hi, h3, show bnd l i + (readP l (bnd l i)).w - 1 = bnd l i + ((readP l (bnd l i)).w - 1) by omega]
  refine (eFrom_skip _ fun j h4 h5 => isE_high ?_).symm
  obtain ⟨a1, a2⟩ := read_ascii (l := l) (k := bnd l i)
  rcases Nat.lt_or_ge (gb l (bnd l i)) 128 with hb | hb
  · have := (a1 hb).2; omega
  · by_cases h : j = bnd l i
    · rw [h]; exact hb
    · exact inside_high h2 h1 (by omega) (by omega)
/-- the place ahead of a piece, its line's end not told yet -/
def stAt (l : List UInt8) : Nat → PlS
  | 0 => PlS.zero
  | i + 1 => match (pieces l)[i]? with
    | some p => ((stAt l i).next (lastR l i) p.r).add p
    | none => stAt l i
def placeAt (l : List UInt8) (i : Nat) : PlS := (stAt l i).next (lastR l i) (behR l i)
theorem stAt_next {l : List UInt8} {i : Nat} (h : i < (pieces l).length) : stAt l (i + 1) = (placeAt l i).add (pieces l)[i] := by
  unfold placeAt behR
  rw [stAt, List.getElem?_eq_getElem h]
  rfl
theorem stAt_small {l : List UInt8} : ∀ i, i ≤ (pieces l).length → (stAt l i).small i ∧ (stAt l i).byte = bnd l i
  | 0, _ => ⟨(by decide : PlS.zero.byte ≤ 4 * 0 ∧ PlS.zero.rune ≤ 0 ∧ PlS.zero.unit ≤ 2 * 0 ∧ PlS.zero.line ≤ 2 * 0 ∧ PlS.zero.col ≤ 0), by rw [bnd_zero]; rfl⟩
  | i + 1, h => by
    obtain ⟨h1, h2⟩ := stAt_small (l := l) i (by omega)
    have hi : i < (pieces l).length := by omega
    have hw := mem_w (List.getElem_mem hi)
    refine ⟨?_, ?_⟩
    · rw [stAt_next hi]; exact PlS.add_small h1 hw.2.2.1
    · rw [stAt_next hi, bnd_next hi, ← h2]
      show (placeAt l i).byte + _ = _
      unfold placeAt
      rw [(PlS.next_small h1).1]
theorem PlS.next_rune (S : PlS) (a b : Nat) : (S.next a b).rune = S.rune := by unfold PlS.next; split <;> rfl
theorem stAt_rune {l : List UInt8} : ∀ i, i ≤ (pieces l).length → (stAt l i).rune = i
  | 0, _ => rfl
  | i + 1, h => by
    rw [stAt_next (by omega)]
    show (placeAt l i).rune + 1 = i + 1
    unfold placeAt
    rw [PlS.next_rune, stAt_rune i (by omega)]
def unitsN (r : Nat) : Nat := 1 + (if 65536 ≤ r then 1 else 0)
theorem unitsN_le (r : Nat) : 1 ≤ unitsN r ∧ unitsN r ≤ 2 := by unfold unitsN; split <;> omega
theorem placeAt_byte {l : List UInt8} {i : Nat} (h : i ≤ (pieces l).length) : (placeAt l i).byte = bnd l i := by
  obtain ⟨h1, h2⟩ := stAt_small i h
  unfold placeAt
  rw [(PlS.next_small h1).1, h2]
theorem placeGo_at {l : List UInt8} {k : Int} {j : Nat} (hj : j ≤ (pieces l).length) (hk : j < (pieces l).length → k < (bnd l (j + 1) : Int)) : ∀ d i, i + d = j → (∀ t, i ≤ t → t < j → (bnd l (t + 1) : Int) ≤ k) → placeGo k ((pieces l).drop i) (stAt l i) (lastR l i) = placeAt l j
  | 0, i, hd, hb => by
    obtain rfl : i = j := by omega
    unfold placeAt behR
    by_cases h : i < (pieces l).length
    · have h3 := hk h
      rw [bnd_next h, bnd_at h] at h3
      rw [List.drop_eq_getElem_cons h, placeGo, if_pos h3, List.getElem?_eq_getElem h]
      rfl
    · rw [List.drop_of_length_le (by omega), placeGo, List.getElem?_eq_none (by omega)]
      rfl
  | d + 1, i, hd, hb => by
    have h : i < (pieces l).length := by omega
    have h3 := hb i (Nat.le_refl _) (by omega)
    rw [bnd_next h, bnd_at h] at h3
    have ih := placeGo_at hj hk d (i + 1) (by omega) fun t h1 h2 => hb t (by omega) h2
    rw [List.drop_eq_getElem_cons h, placeGo, if_neg (by omega), ← ih, stAt_next h, lastR_next h]
    unfold placeAt behR
    rw [List.getElem?_eq_getElem h]
    rfl
theorem bnd_mono {l : List UInt8} {i : Nat} : ∀ d, i + d ≤ (pieces l).length → bnd l i ≤ bnd l (i + d)
  | 0, _ => Nat.le_refl _
  | d + 1, h => by
    have := bnd_mono (l := l) (i := i) d (by omega)
    rw [show i + (d + 1) = (i + d) + 1 by omega, bnd_next (by omega)]
    omega
theorem placeOf_at {l : List UInt8} {k : Int} {j : Nat} (hj : j ≤ (pieces l).length) (h1 : (bnd l j : Int) ≤ k) (hk : j < (pieces l).length → k < (bnd l (j + 1) : Int)) : placeOf l k = placeAt l j := by
  refine placeGo_at hj hk j 0 (by omega) fun t h2 h3 => ?_
  have := bnd_mono (l := l) (i := t + 1) (j - (t + 1)) (by omega)
  rw [show t + 1 + (j - (t + 1)) = j by omega] at this
  omega
end Go.Eng

/-
  The walks of the reference's Ends, Units, Places, Byte (canticleref02). No condition.
-/
namespace Go.Eng
open Go
def sp2 (p : Nat × Nat) : List Value := [.int .i64 (p.1 : Int), .int .i64 (p.2 : Int)]
theorem ends_nil {es : List (Nat × Nat)} {n : Nat} (h : (es.drop n).map Prod.snd = []) : es.length ≤ n := by
  have := congrArg List.length h
  simp at this; omega
theorem ends_cons {es : List (Nat × Nat)} {n x : Nat} {t : List Nat} (h : (es.drop n).map Prod.snd = x :: t) : n < es.length ∧ (∃ f : Nat, (es.map sp2)[n]? = some [.int .i64 (f : Int), .int .i64 (x : Int)]) ∧ (es.drop (n + 1)).map Prod.snd = t := by
  have hlt : n < es.length := by
    rcases Nat.lt_or_ge n es.length with h1 | h1
    · exact h1
    · rw [List.drop_of_length_le h1] at h; cases h
  rw [List.drop_eq_getElem_cons hlt, List.map_cons] at h
  obtain ⟨h1, h2⟩ := List.cons.inj h
  refine ⟨hlt, ⟨es[n].1, ?_⟩, h2⟩
  rw [List.getElem?_map, List.getElem?_eq_getElem hlt, ← h1]; rfl
end Go.Eng
namespace Go.Proofs.Ytljfncpecpkhhaa
open Go Go.Eng
set_option maxRecDepth 100000
set_option maxHeartbeats 4000000
set_option linter.all false
attribute [local irreducible] WL WC WQ QFun QLoop Does Q1 QRound QAssign Go.Addr.add
attribute [local irreducible] readP pieces dl from_ eFrom
theorem ends_any (l : List UInt8) (hl : l.length ≤ 17000000) (w0 : World) (m : Mem) (H : SHeap) :
    Does Try.prog 94 #[str l] w0 m H (fun v m' H' => m' = m ∧ ∃ (es : List (Nat × Nat)) (c : Option Addr) (cp : Nat), v = .slice c es.length cp ∧ es.map Prod.snd = eFrom l 0 ∧ H' = .row c cp 147 2 (es.map sp2) :: H) := by
  refine Does.of_body (args := [str l]) Try.func94 rfl Try.ntmps94 rfl ?_
  have hcnt := eFrom_len l 0
  (try (refine st ?_; intros))
  refine WC.newRow (T := 147) (sz := 2) ?_
  refine WC.loopH [(4, .int .i64 ((0) : Int)), (0, str l), (3, .slice (none) (0) (0))] ?_ ?_ (fun j r ds m' H' => ∃ (i : Nat) (a : Option Addr) (cap : Nat) (n : Nat) (E : List (List Value)) (es : List (Nat × Nat)), j = l.length + 2 - i ∧ r = [(4, .int .i64 (i : Int)), (0, str l), (3, .slice a n cap)] ∧ ds = [] ∧ m = m' ∧ H' = .row a cap 147 2 E :: H ∧ (es.map Prod.snd ++ eFrom l i = eFrom l 0) ∧ (E = es.map sp2) ∧ (es.length = n)) (l.length + 2 - (0)) ⟨0, none, 0, 0, ([] : List (List Value)), ([] : List (Nat × Nat)), rfl, rfl, rfl, rfl, rfl, rfl, rfl, rfl⟩ ?_
  · (repeat (first | exact Env.Sub.nil | refine Env.Sub.cons rfl ?_))
  · exact zpk
  rintro j r ds m' H' ⟨i, a, cap, n, E, es, rfl, rfl, rfl, rfl, rfl, hes, hE, hn⟩
  have hel : E.length = n := by rw [hE, List.length_map, hn]
  have hlen : n ≤ l.length := by have := congrArg List.length hes; simp at this; omega
  by_cases hk : i < l.length
  · have hst := eFrom_step hk
    by_cases h13 : gb l i = 13
    · by_cases h10 : gb l (i + 1) = 10
      · have hk1 : i + 1 < l.length := by
          rcases Nat.lt_or_ge (i + 1) l.length with h | h
          · exact h
          · rw [gb_out h] at h10; omega
        have hst1 := eFrom_step hk1
        have e1 : isE l i = false := by unfold isE; rw [decide_eq_false_iff_not]; omega
        have e2 : isE l (i + 1) = true := by unfold isE; rw [decide_eq_true_eq]; exact .inl h10
        rw [e1, if_neg (by decide)] at hst
        rw [e2, if_pos rfl] at hst1
        rw [hst, hst1] at hes
        (refine st ?_; intros; rename_i a2 cap2)
        rw [hel]
        refine WQ.next (l.length + 2 - (i + 2)) ⟨i + 2, a2, cap2, n + 1, E ++ [sp2 (i, i + 2)], es ++ [(i, i + 2)], rfl, rfl, rfl, rfl, rfl, ?_, ?_, ?_⟩ (by omega) zsb zpk
        · rw [← hes]; simp
        · rw [hE]; simp
        · simp [hn]
      · have e1 : isE l i = true := by unfold isE; rw [decide_eq_true_eq]; exact .inr ⟨h13, h10⟩
        rw [e1, if_pos rfl] at hst
        rw [hst] at hes
        by_cases hk1 : i + 1 < l.length
        · (refine st ?_; intros; rename_i a2 cap2)
          rw [hel]
          refine WQ.next (l.length + 2 - (i + 1)) ⟨i + 1, a2, cap2, n + 1, E ++ [sp2 (i, i + 1)], es ++ [(i, i + 1)], rfl, rfl, rfl, rfl, rfl, ?_, ?_, ?_⟩ (by omega) zsb zpk
          · rw [← hes]; simp
          · rw [hE]; simp
          · simp [hn]
        · (refine st ?_; intros; rename_i a2 cap2)
          rw [hel]
          refine WQ.next (l.length + 2 - (i + 1)) ⟨i + 1, a2, cap2, n + 1, E ++ [sp2 (i, i + 1)], es ++ [(i, i + 1)], rfl, rfl, rfl, rfl, rfl, ?_, ?_, ?_⟩ (by omega) zsb zpk
          · rw [← hes]; simp
          · rw [hE]; simp
          · simp [hn]
    · by_cases h10 : gb l i = 10
      · have e1 : isE l i = true := by unfold isE; rw [decide_eq_true_eq]; exact .inl h10
        rw [e1, if_pos rfl] at hst
        rw [hst] at hes
        (refine st ?_; intros; rename_i a2 cap2)
        rw [hel]
        refine WQ.next (l.length + 2 - (i + 1)) ⟨i + 1, a2, cap2, n + 1, E ++ [sp2 (i, i + 1)], es ++ [(i, i + 1)], rfl, rfl, rfl, rfl, rfl, ?_, ?_, ?_⟩ (by omega) zsb zpk
        · rw [← hes]; simp
        · rw [hE]; simp
        · simp [hn]
      · have e1 : isE l i = false := by unfold isE; rw [decide_eq_false_iff_not]; omega
        rw [e1, if_neg (by decide)] at hst
        rw [hst] at hes
        (try (refine st ?_; intros))
        refine WQ.next (l.length + 2 - (i + 1)) ⟨i + 1, a, cap, n, E, es, rfl, rfl, rfl, rfl, rfl, ?_, ?_, ?_⟩ (by omega) zsb zpk
        · exact hes
        · exact hE
        · exact hn
  · rw [eFrom_end (by omega), List.append_nil] at hes
    subst hE hn
    (try (refine st ?_; intros))
    exact q_fin0 (H0 := .row a cap 147 2 (es.map sp2) :: H) ⟨rfl, es, a, cap, rfl, hes, rfl⟩ (hd := zpk)
theorem units_any {a b : Int} {r : Nat} (w0 : World) (m : Mem) (H : SHeap) :
    Does Try.prog 95 #[.agg #[.int .i64 a, .int .i64 b, .int .i32 (r : Int)]] w0 m H (Gives (.int .i64 (unitsN r : Int)) m H) := by
  refine Does.of_body (args := [.agg #[.int .i64 a, .int .i64 b, .int .i32 (r : Int)]]) Try.func95 rfl Try.ntmps95 rfl ?_
  by_cases h : 65536 ≤ r
  · rw [show unitsN r = 2 by unfold unitsN; rw [if_pos h]]
    (refine st ?_; intros; rename_i bx)
    exact q_fin0 (H0 := H) (Gives.mk rfl) (hd := zpk)
  · rw [show unitsN r = 1 by unfold unitsN; rw [if_neg h]]
    (refine st ?_; intros; rename_i bx)
    exact q_fin0 (H0 := H) (Gives.mk rfl) (hd := zpk)
end Go.Proofs.Ytljfncpecpkhhaa

/-
  The walks of the reference's Places and Byte (canticleref02). No condition.
-/
namespace Go.Proofs.Ytljfncpecpkhhaa
open Go Go.Eng
set_option maxRecDepth 100000
set_option maxHeartbeats 4000000
set_option linter.all false
attribute [local irreducible] WL WC WQ QFun QLoop Does Q1 QRound QAssign Go.Addr.add
attribute [local irreducible] readP pieces dl from_ eFrom bnd stAt placeAt lastR behR chk
/-- a place's cells while the reference makes them: the line and the column are told later -/
def refSt (S : PlS) (last : Nat) (ln co : Nat) : Prop := (last = 10 → S.line = ln + 1 ∧ S.col = 0) ∧ (last ≠ 10 → S.line = ln ∧ S.col = co)
theorem ref_next {l : List UInt8} {i ln co : Nat} (h : refSt (stAt l i) (lastR l i) ln co) : (placeAt l i).line = ln + (if chk l i then 1 else 0) ∧ (placeAt l i).col = (if chk l i then 0 else co) ∧ (placeAt l i).rune = (stAt l i).rune ∧ (placeAt l i).unit = (stAt l i).unit := by
  obtain ⟨h1, h2⟩ := h
  unfold placeAt PlS.next chk
  generalize stAt l i = S at *
  generalize lastR l i = a at *
  generalize behR l i = b at *
  by_cases h10 : a = 10
  · obtain ⟨e1, e2⟩ := h1 h10
    subst h10
    simp [e1, e2]
  · obtain ⟨e1, e2⟩ := h2 h10
    by_cases h13 : a = 13 ∧ b ≠ 10
    · obtain ⟨rfl, h4⟩ := h13
      simp [e1, h4]
    · rw [if_neg h13]
      have : ¬ (a = 10 ∨ a = 13 ∧ b ≠ 10) := by omega
      simp [this, e1, e2]
theorem ref_step {l : List UInt8} {i ln co : Nat} (hi : i < (pieces l).length) (h1 : (placeAt l i).line = ln) (h2 : (placeAt l i).col = co) : refSt (stAt l (i + 1)) (lastR l (i + 1)) ln (co + 1) := by
  rw [stAt_next hi, lastR_next hi]
  unfold PlS.add
  refine ⟨fun h => ?_, fun h => ?_⟩
  · simp only [h, if_pos]; exact ⟨by omega, trivial⟩
  · simp only [h, if_neg, not_false_eq_true]; exact ⟨by simpa using h1, by simpa using h2⟩
theorem row_c3 {l : List UInt8} {i : Nat} (h : i < (pieces l).length) : ((pieces l).map Pc.c3)[i]? = some [.int .i64 (((pieces l)[i]).at_ : Int), .int .i64 (((pieces l)[i]).w : Int), .int .i32 (((pieces l)[i]).r : Int)] := by
  rw [List.getElem?_map, List.getElem?_eq_getElem h]; rfl
def plcs (l : List UInt8) (i : Nat) : List (List Value) := (List.range i).map fun j => (placeAt l j).cs
theorem plcs_next (l : List UInt8) (i : Nat) : plcs l (i + 1) = plcs l i ++ [(placeAt l i).cs] := by
  unfold plcs; rw [List.range_succ, List.map_append]; rfl
theorem plcs_len (l : List UInt8) (i : Nat) : (plcs l i).length = i := by unfold plcs; simp
theorem plcs_get {l : List UInt8} {n i : Nat} (h : i < n) : (plcs l n)[i]? = some (placeAt l i).cs := by
  unfold plcs; rw [List.getElem?_map, List.getElem?_range h]; rfl
attribute [local irreducible] plcs
theorem sq_O28_1 {G : Prop} (h : G := by (repeat (first | (refine sp ?_; (repeat intro zzc)) | (refine iF 95 rfl ?_; refine w_callG Try.func95 ?_ (hs := units_any _ _ _)))); exact WQ.q1 rfl) : G := h
theorem cm_O28_1 {G G' : Prop} (next : G') (h : Bx G' → G := by intro zzn; (try (refine wcal 0 ?_ (hwl := by intro zm zF zle; exact sq_O28_1))); (try (refine wcal 1 ?_ (hwl := by intro zm zF zle; exact sq_O28_1))); (try (refine wcal 2 ?_ (hwl := by intro zm zF zle; exact sq_O28_1))); (try (refine wcal 3 ?_ (hwl := by intro zm zF zle; exact sq_O28_1))); (try (refine wcal 4 ?_ (hwl := by intro zm zF zle; exact sq_O28_1))); (try (refine wcal 5 ?_ (hwl := by intro zm zF zle; exact sq_O28_1))); (try (refine wcal 6 ?_ (hwl := by intro zm zF zle; exact sq_O28_1))); (try (refine wcal 7 ?_ (hwl := by intro zm zF zle; exact sq_O28_1))); (try (refine wcal 8 ?_ (hwl := by intro zm zF zle; exact sq_O28_1))); (try (refine wcal 9 ?_ (hwl := by intro zm zF zle; exact sq_O28_1))); (try (refine wcal 10 ?_ (hwl := by intro zm zF zle; exact sq_O28_1))); (try (refine wcal 11 ?_ (hwl := by intro zm zF zle; exact sq_O28_1))); (try (refine wcal 12 ?_ (hwl := by intro zm zF zle; exact sq_O28_1))); (try (refine wcal 13 ?_ (hwl := by intro zm zF zle; exact sq_O28_1))); (try (refine wcal 14 ?_ (hwl := by intro zm zF zle; exact sq_O28_1))); (try (refine wcal 15 ?_ (hwl := by intro zm zF zle; exact sq_O28_1))); (try (refine wcal 16 ?_ (hwl := by intro zm zF zle; exact sq_O28_1))); (try (refine wcal 17 ?_ (hwl := by intro zm zF zle; exact sq_O28_1))); (try (refine wcal 18 ?_ (hwl := by intro zm zF zle; exact sq_O28_1))); (try (refine wcal 19 ?_ (hwl := by intro zm zF zle; exact sq_O28_1))); (try (refine wcal 20 ?_ (hwl := by intro zm zF zle; exact sq_O28_1))); (try (refine wcal 21 ?_ (hwl := by intro zm zF zle; exact sq_O28_1))); (try (refine wcal 22 ?_ (hwl := by intro zm zF zle; exact sq_O28_1))); (try (refine wcal 23 ?_ (hwl := by intro zm zF zle; exact sq_O28_1))); (try (refine wcal 24 ?_ (hwl := by intro zm zF zle; exact sq_O28_1))); (try (refine wcal 25 ?_ (hwl := by intro zm zF zle; exact sq_O28_1))); (try (refine wcal 26 ?_ (hwl := by intro zm zF zle; exact sq_O28_1))); (try (refine wcal 27 ?_ (hwl := by intro zm zF zle; exact sq_O28_1))); (try (refine wcal 28 ?_ (hwl := by intro zm zF zle; exact sq_O28_1))); (try (refine wcal 29 ?_ (hwl := by intro zm zF zle; exact sq_O28_1))); (try (refine wcal 30 ?_ (hwl := by intro zm zF zle; exact sq_O28_1))); (try (refine wcal 31 ?_ (hwl := by intro zm zF zle; exact sq_O28_1))); (try (refine wcal 32 ?_ (hwl := by intro zm zF zle; exact sq_O28_1))); (try (refine wcal 33 ?_ (hwl := by intro zm zF zle; exact sq_O28_1))); (try (refine wcal 34 ?_ (hwl := by intro zm zF zle; exact sq_O28_1))); (try (refine wcal 35 ?_ (hwl := by intro zm zF zle; exact sq_O28_1))); (try (refine wcal 36 ?_ (hwl := by intro zm zF zle; exact sq_O28_1))); (try (refine wcal 37 ?_ (hwl := by intro zm zF zle; exact sq_O28_1))); (try (refine wcal 38 ?_ (hwl := by intro zm zF zle; exact sq_O28_1))); (try (refine wcal 39 ?_ (hwl := by intro zm zF zle; exact sq_O28_1))); (try (refine wcal 40 ?_ (hwl := by intro zm zF zle; exact sq_O28_1))); (try (refine wcal 41 ?_ (hwl := by intro zm zF zle; exact sq_O28_1))); exact zzn.out) : G := h ⟨next⟩
theorem st_O28_1 {G G' : Prop} (next : G') (h : Bx G' → G := by intro zzn; (first | ((refine st ?_; (repeat intro zzc)); (try ((first | (refine iF 95 rfl ?_; refine w_callG Try.func95 ?_ (hs := units_any _ _ _)) | ((refine iDraw ?_; (first | refine WC.drawAll rfl (by decide +kernel) ?_ | refine WC.draw 1 rfl (by decide +kernel) ?_ | refine WC.draw 2 rfl (by decide +kernel) ?_ | refine WC.draw 3 rfl (by decide +kernel) ?_ | refine WC.draw 4 rfl (by decide +kernel) ?_ | refine WC.draw 5 rfl (by decide +kernel) ?_ | refine WC.draw 6 rfl (by decide +kernel) ?_ | refine WC.draw 7 rfl (by decide +kernel) ?_ | refine WC.draw 8 rfl (by decide +kernel) ?_ | refine WC.draw 9 rfl (by decide +kernel) ?_ | refine WC.draw 10 rfl (by decide +kernel) ?_ | refine WC.draw 11 rfl (by decide +kernel) ?_ | refine WC.draw 12 rfl (by decide +kernel) ?_ | refine WC.draw 13 rfl (by decide +kernel) ?_ | refine WC.draw 14 rfl (by decide +kernel) ?_ | refine WC.draw 15 rfl (by decide +kernel) ?_ | refine WC.draw 16 rfl (by decide +kernel) ?_ | refine WC.draw 17 rfl (by decide +kernel) ?_ | refine WC.draw 18 rfl (by decide +kernel) ?_ | refine WC.draw 19 rfl (by decide +kernel) ?_ | refine WC.draw 20 rfl (by decide +kernel) ?_ | refine WC.draw 21 rfl (by decide +kernel) ?_ | refine WC.draw 22 rfl (by decide +kernel) ?_ | refine WC.draw 23 rfl (by decide +kernel) ?_ | refine WC.draw 24 rfl (by decide +kernel) ?_)); (repeat (refine WD.cons rfl (fun c h => by cases h) sq_O28_1 ?_)); refine WD.nil ?_)); (try (refine st ?_; (repeat intro zzc)))))) | ((first | (refine iF 95 rfl ?_; refine w_callG Try.func95 ?_ (hs := units_any _ _ _)) | ((refine iDraw ?_; (first | refine WC.drawAll rfl (by decide +kernel) ?_ | refine WC.draw 1 rfl (by decide +kernel) ?_ | refine WC.draw 2 rfl (by decide +kernel) ?_ | refine WC.draw 3 rfl (by decide +kernel) ?_ | refine WC.draw 4 rfl (by decide +kernel) ?_ | refine WC.draw 5 rfl (by decide +kernel) ?_ | refine WC.draw 6 rfl (by decide +kernel) ?_ | refine WC.draw 7 rfl (by decide +kernel) ?_ | refine WC.draw 8 rfl (by decide +kernel) ?_ | refine WC.draw 9 rfl (by decide +kernel) ?_ | refine WC.draw 10 rfl (by decide +kernel) ?_ | refine WC.draw 11 rfl (by decide +kernel) ?_ | refine WC.draw 12 rfl (by decide +kernel) ?_ | refine WC.draw 13 rfl (by decide +kernel) ?_ | refine WC.draw 14 rfl (by decide +kernel) ?_ | refine WC.draw 15 rfl (by decide +kernel) ?_ | refine WC.draw 16 rfl (by decide +kernel) ?_ | refine WC.draw 17 rfl (by decide +kernel) ?_ | refine WC.draw 18 rfl (by decide +kernel) ?_ | refine WC.draw 19 rfl (by decide +kernel) ?_ | refine WC.draw 20 rfl (by decide +kernel) ?_ | refine WC.draw 21 rfl (by decide +kernel) ?_ | refine WC.draw 22 rfl (by decide +kernel) ?_ | refine WC.draw 23 rfl (by decide +kernel) ?_ | refine WC.draw 24 rfl (by decide +kernel) ?_)); (repeat (refine WD.cons rfl (fun c h => by cases h) sq_O28_1 ?_)); refine WD.nil ?_)); (try (refine st ?_; (repeat intro zzc))))); (repeat ((first | (refine iF 95 rfl ?_; refine w_callG Try.func95 ?_ (hs := units_any _ _ _)) | ((refine iDraw ?_; (first | refine WC.drawAll rfl (by decide +kernel) ?_ | refine WC.draw 1 rfl (by decide +kernel) ?_ | refine WC.draw 2 rfl (by decide +kernel) ?_ | refine WC.draw 3 rfl (by decide +kernel) ?_ | refine WC.draw 4 rfl (by decide +kernel) ?_ | refine WC.draw 5 rfl (by decide +kernel) ?_ | refine WC.draw 6 rfl (by decide +kernel) ?_ | refine WC.draw 7 rfl (by decide +kernel) ?_ | refine WC.draw 8 rfl (by decide +kernel) ?_ | refine WC.draw 9 rfl (by decide +kernel) ?_ | refine WC.draw 10 rfl (by decide +kernel) ?_ | refine WC.draw 11 rfl (by decide +kernel) ?_ | refine WC.draw 12 rfl (by decide +kernel) ?_ | refine WC.draw 13 rfl (by decide +kernel) ?_ | refine WC.draw 14 rfl (by decide +kernel) ?_ | refine WC.draw 15 rfl (by decide +kernel) ?_ | refine WC.draw 16 rfl (by decide +kernel) ?_ | refine WC.draw 17 rfl (by decide +kernel) ?_ | refine WC.draw 18 rfl (by decide +kernel) ?_ | refine WC.draw 19 rfl (by decide +kernel) ?_ | refine WC.draw 20 rfl (by decide +kernel) ?_ | refine WC.draw 21 rfl (by decide +kernel) ?_ | refine WC.draw 22 rfl (by decide +kernel) ?_ | refine WC.draw 23 rfl (by decide +kernel) ?_ | refine WC.draw 24 rfl (by decide +kernel) ?_)); (repeat (refine WD.cons rfl (fun c h => by cases h) sq_O28_1 ?_)); refine WD.nil ?_)); (try (refine st ?_; (repeat intro zzc))))); (repeat revert zzc); exact zzn.out) : G := h ⟨next⟩
theorem places_any (l : List UInt8) (hl : l.length ≤ 17000000) (w0 : World) (m : Mem) (H : SHeap) :
    Does Try.prog 85 #[str l] w0 m H (fun v m' H' => m' = m ∧ ∃ (c : Option Addr) (cp : Nat), v = .slice c ((pieces l).length + 1) cp ∧ H' = .row c cp 59 5 (plcs l ((pieces l).length + 1)) :: H) := by
  refine Does.of_body (args := [str l]) Try.func85 rfl Try.ntmps85 rfl ?_
  have hcnt := pieces_length l
  (try (refine st_O28_1 ?_; intros))
  refine w_callF Try.func84 ?_ (hs := p2_any l hl _ _ _)
  rintro v m H1 ⟨rfl, c, cp, rfl, rfl⟩
  (try (refine st_O28_1 ?_; intros))
  refine w_callF Try.func94 ?_ (hs := ends_any l hl _ _ _)
  rintro v m H1 ⟨rfl, es, e0, ecp, rfl, hes, rfl⟩
  have hb0 := bnd_zero l
  have hel : es.length ≤ l.length := by have := congrArg List.length hes; rw [List.length_map] at this; rw [this]; exact eFrom_len l 0
  (refine st_O28_1 ?_; intros; rename_i b6)
  refine WC.newRow (T := 59) (sz := 5) ?_
  refine WC.loopH [(8, .int .i64 ((0) : Int)), (7, .int .i64 ((0) : Int)), (0, str l), (3, .slice c (pieces l).length cp), (4, .slice e0 es.length ecp), (5, .slice (none) (0) (0)), (6, .pointer (some ⟨b6, 0, none⟩))] ?_ ?_ (fun j r ds m' H' => ∃ (i : Nat) (a : Option Addr) (cap : Nat) (R : List (List Value)) (n : Nat) (by_ : Nat) (rn : Nat) (un : Nat) (ln : Nat) (co : Nat), j = (pieces l).length + 2 - i ∧ r = [(8, .int .i64 (i : Int)), (7, .int .i64 (n : Int)), (0, str l), (3, .slice c (pieces l).length cp), (4, .slice e0 es.length ecp), (5, .slice a i cap), (6, .pointer (some ⟨b6, 0, none⟩))] ∧ ds = [] ∧ m = m' ∧ H' = .row a cap 59 5 R :: .blk b6 (.cells [.int .i64 (by_ : Int), .int .i64 (rn : Int), .int .i64 (un : Int), .int .i64 (ln : Int), .int .i64 (co : Int)].toArray 59 (0, 0)) :: .row e0 ecp 147 2 (es.map sp2) :: .row c cp 135 3 ((pieces l).map Pc.c3) :: H ∧ (i ≤ (pieces l).length + 1) ∧ (R = plcs l i) ∧ (i ≤ (pieces l).length → rn = i) ∧ (n ≤ es.length) ∧ (co ≤ i ∧ ln ≤ i) ∧ (i ≤ (pieces l).length → (es.drop n).map Prod.snd = eFrom l (bnd l i - 1) ∧ refSt (stAt l i) (lastR l i) ln co ∧ (stAt l i).unit = un)) ((pieces l).length + 2 - (0)) ⟨0, none, 0, ([] : List (List Value)), 0, 0, 0, 0, 0, 0, rfl, rfl, rfl, rfl, rfl, Nat.zero_le _, by unfold plcs; rfl, fun _ => rfl, Nat.zero_le _, ⟨Nat.le_refl _, Nat.le_refl _⟩, fun _ => ⟨by rw [hb0]; exact hes, ⟨fun h => absurd (show (0 : Nat) = 10 from by unfold lastR at h; exact h) (by decide), fun _ => by unfold stAt; exact ⟨rfl, rfl⟩⟩, by unfold stAt; rfl⟩⟩ ?_
  · (repeat (first | exact Env.Sub.nil | refine Env.Sub.cons rfl ?_))
  · exact zpk
  rintro j r ds m' H' ⟨i, a, cap, R, n, by_, rn, un, ln, co, rfl, rfl, rfl, rfl, rfl, hi, hR, hrn, hnb, hcol, hn⟩
  have hpll : R.length = i := by rw [hR, plcs_len]
  have hplx := plcs_next l i
  rw [← hR] at hplx
  by_cases hle : i ≤ (pieces l).length
  · obtain ⟨hn1, hst, hun⟩ := hn hle
    rw [hrn hle]
    obtain ⟨r1, r2, r3, r4⟩ := ref_next hst
    obtain ⟨s1, s2⟩ := stAt_small i hle
    have hbyte := placeAt_byte hle
    have hbl := bnd_le l i
    have hrune := stAt_rune i hle
    obtain ⟨q1, q2, q3, q4, q5⟩ := s1
    have hunl : un ≤ 2 * i := by omega
    have hlen2 : ((pieces l).map Pc.c3).length = (pieces l).length := by simp
    have hlen3 : (es.map sp2).length = es.length := by simp
    have hcs : (placeAt l i).cs = [.int .i64 (bnd l i : Int), .int .i64 (i : Int), .int .i64 (un : Int), .int .i64 ((ln + (if chk l i then 1 else 0) : Nat) : Int), .int .i64 ((if chk l i then 0 else co : Nat) : Int)] := by
      unfold PlS.cs; rw [hbyte, r1, r2, r3, r4, hrune, hun]
    by_cases hlt : i < (pieces l).length
    · have hgetp := row_c3 hlt
      have hba := bnd_at hlt
      obtain ⟨r, hpr⟩ : ∃ r, ((pieces l)[i]).r = r := ⟨_, rfl⟩
      have hru := unitsN_le r
      rw [hpr, ← hba] at hgetp
      obtain ⟨wd_, hpw⟩ : ∃ wd_, ((pieces l)[i]).w = wd_ := ⟨_, rfl⟩
      rw [hpw] at hgetp
      generalize hEp : (pieces l).map Pc.c3 = EP at *
      refine WC.rowSome (a := c) (es := EP) zhs (by omega) ?_
      rintro c0 rfl
      rcases ends_at hle with ⟨hc, hpos, he⟩ | ⟨hc, he⟩
      · rw [he] at hn1
        obtain ⟨hnl, ⟨f, hget⟩, hn2⟩ := ends_cons hn1
        rw [hc, if_pos rfl] at r1 r2
        rw [hc, if_pos rfl, if_pos rfl] at hcs
        generalize hEs : es.map sp2 = ES at *
        refine WC.rowSome (a := e0) (es := ES) zhs (by omega) ?_
        rintro a0 rfl
        (refine st_O28_1 ?_; intros; rename_i bx a2 cap2)
        have ec : [Value.int .i64 (bnd l i : Int), .int .i64 (i : Int), .int .i64 (un : Int), .int .i64 ((ln : Int) + 1), .int .i64 0] = (placeAt l i).cs := by rw [hcs]; rfl
        rw [ec, ← hplx, hpll]
        refine WQ.next ((pieces l).length + 2 - (i + 1)) ⟨i + 1, a2, cap2, plcs l (i + 1), n + 1, bnd l i, i + 1, un + unitsN r, (ln + 1), 0 + 1, rfl, rfl, rfl, rfl, rfl, ?_, ?_, ?_, ?_, ?_, ?_⟩ (by omega) zsb zpk
        · omega
        · rfl
        · intro _; rfl
        · omega
        · omega
        · intro _
          rw [ends_on hlt]
          refine ⟨hn2, ref_step hlt r1 r2, ?_⟩
          rw [stAt_next hlt]
          show (placeAt l i).unit + 1 + _ = _
          rw [r4, hun, hpr]; unfold unitsN; omega
      · rw [he] at hn1
        rw [hc, if_neg (by decide)] at r1 r2
        rw [hc, if_neg (by decide), if_neg (by decide)] at hcs
        obtain ⟨X, hX⟩ : ∃ X, eFrom l (bnd l i) = X := ⟨_, rfl⟩
        rcases X with _ | ⟨x, t⟩
        · have hn2 := hn1
          rw [hX] at hn1
          have hnl := ends_nil hn1
          generalize hEs : es.map sp2 = ES at *
          (refine st_O28_1 ?_; intros; rename_i bx a2 cap2)
          have ec : [Value.int .i64 (bnd l i : Int), .int .i64 (i : Int), .int .i64 (un : Int), .int .i64 ((ln : Int)), .int .i64 (co : Int)] = (placeAt l i).cs := by rw [hcs]; rfl
          rw [ec, ← hplx, hpll]
          refine WQ.next ((pieces l).length + 2 - (i + 1)) ⟨i + 1, a2, cap2, plcs l (i + 1), n, bnd l i, i + 1, un + unitsN r, ln, co + 1, rfl, rfl, rfl, rfl, rfl, ?_, ?_, ?_, ?_, ?_, ?_⟩ (by omega) zsb zpk
          · omega
          · rfl
          · intro _; rfl
          · omega
          · omega
          · intro _
            rw [ends_on hlt]
            refine ⟨hn2, ref_step hlt r1 r2, ?_⟩
            rw [stAt_next hlt]
            show (placeAt l i).unit + 1 + _ = _
            rw [r4, hun, hpr]; unfold unitsN; omega
        · have hn2 := hn1
          rw [hX] at hn1
          obtain ⟨hnl, ⟨f, hget⟩, _⟩ := ends_cons hn1
          have hx := (eFrom_ge (l := l) (k := bnd l i) (x := x) (by rw [hX]; exact List.mem_cons_self ..)).1
          generalize hEs : es.map sp2 = ES at *
          refine WC.rowSome (a := e0) (es := ES) zhs (by omega) ?_
          rintro a0 rfl
          (refine st_O28_1 ?_; intros; rename_i bx a2 cap2)
          have ec : [Value.int .i64 (bnd l i : Int), .int .i64 (i : Int), .int .i64 (un : Int), .int .i64 ((ln : Int)), .int .i64 (co : Int)] = (placeAt l i).cs := by rw [hcs]; rfl
          rw [ec, ← hplx, hpll]
          refine WQ.next ((pieces l).length + 2 - (i + 1)) ⟨i + 1, a2, cap2, plcs l (i + 1), n, bnd l i, i + 1, un + unitsN r, ln, co + 1, rfl, rfl, rfl, rfl, rfl, ?_, ?_, ?_, ?_, ?_, ?_⟩ (by omega) zsb zpk
          · omega
          · rfl
          · intro _; rfl
          · omega
          · omega
          · intro _
            rw [ends_on hlt]
            refine ⟨hn2, ref_step hlt r1 r2, ?_⟩
            rw [stAt_next hlt]
            show (placeAt l i).unit + 1 + _ = _
            rw [r4, hun, hpr]; unfold unitsN; omega
    · obtain rfl : i = (pieces l).length := by omega
      have hbe := bnd_end l
      rw [hbe] at hcs hbl
      rcases ends_at hle with ⟨hc, hpos, he⟩ | ⟨hc, he⟩
      · rw [he] at hn1
        obtain ⟨hnl, ⟨f, hget⟩, hn2⟩ := ends_cons hn1
        rw [hc, if_pos rfl] at r1 r2
        rw [hc, if_pos rfl, if_pos rfl] at hcs
        generalize hEs : es.map sp2 = ES at *
        refine WC.rowSome (a := e0) (es := ES) zhs (by omega) ?_
        rintro a0 rfl
        (refine st_O28_1 ?_; intros; rename_i bx a2 cap2)
        have ec : [Value.int .i64 (l.length : Int), .int .i64 ((pieces l).length : Int), .int .i64 (un : Int), .int .i64 ((ln : Int) + 1), .int .i64 0] = (placeAt l (pieces l).length).cs := by rw [hcs]; rfl
        rw [ec, ← hplx, hpll, ← ec]
        refine WQ.next ((pieces l).length + 2 - ((pieces l).length + 1)) ⟨(pieces l).length + 1, a2, cap2, plcs l ((pieces l).length + 1), n + 1, l.length, (pieces l).length, un, (ln + 1), 0, rfl, rfl, rfl, rfl, rfl, ?_, ?_, ?_, ?_, ?_, ?_⟩ (by omega) zsb zpk
        · omega
        · rfl
        · intro h; omega
        · omega
        · omega
        · intro h; omega
      · rw [he] at hn1
        rw [hc, if_neg (by decide)] at r1 r2
        rw [hc, if_neg (by decide), if_neg (by decide)] at hcs
        obtain ⟨X, hX⟩ : ∃ X, eFrom l (bnd l (pieces l).length) = X := ⟨_, rfl⟩
        rcases X with _ | ⟨x, t⟩
        · have hn2 := hn1
          rw [hX] at hn1
          have hnl := ends_nil hn1
          generalize hEs : es.map sp2 = ES at *
          (refine st_O28_1 ?_; intros; rename_i bx a2 cap2)
          have ec : [Value.int .i64 (l.length : Int), .int .i64 ((pieces l).length : Int), .int .i64 (un : Int), .int .i64 ((ln : Int)), .int .i64 (co : Int)] = (placeAt l (pieces l).length).cs := by rw [hcs]; rfl
          rw [ec, ← hplx, hpll, ← ec]
          refine WQ.next ((pieces l).length + 2 - ((pieces l).length + 1)) ⟨(pieces l).length + 1, a2, cap2, plcs l ((pieces l).length + 1), n, l.length, (pieces l).length, un, ln, co, rfl, rfl, rfl, rfl, rfl, ?_, ?_, ?_, ?_, ?_, ?_⟩ (by omega) zsb zpk
          · omega
          · rfl
          · intro h; omega
          · omega
          · omega
          · intro h; omega
        · have hn2 := hn1
          rw [hX] at hn1
          obtain ⟨hnl, ⟨f, hget⟩, _⟩ := ends_cons hn1
          have hx := (eFrom_ge (l := l) (k := bnd l (pieces l).length) (x := x) (by rw [hX]; exact List.mem_cons_self ..)).1
          generalize hEs : es.map sp2 = ES at *
          refine WC.rowSome (a := e0) (es := ES) zhs (by omega) ?_
          rintro a0 rfl
          (refine st_O28_1 ?_; intros; rename_i bx a2 cap2)
          have ec : [Value.int .i64 (l.length : Int), .int .i64 ((pieces l).length : Int), .int .i64 (un : Int), .int .i64 ((ln : Int)), .int .i64 (co : Int)] = (placeAt l (pieces l).length).cs := by rw [hcs]; rfl
          rw [ec, ← hplx, hpll, ← ec]
          refine WQ.next ((pieces l).length + 2 - ((pieces l).length + 1)) ⟨(pieces l).length + 1, a2, cap2, plcs l ((pieces l).length + 1), n, l.length, (pieces l).length, un, ln, co, rfl, rfl, rfl, rfl, rfl, ?_, ?_, ?_, ?_, ?_, ?_⟩ (by omega) zsb zpk
          · omega
          · rfl
          · intro h; omega
          · omega
          · omega
          · intro h; omega
  · obtain rfl : i = (pieces l).length + 1 := by omega
    (try (refine st_O28_1 ?_; intros))
    subst hR
    exact q_fin0 (H0 := .row a cap 59 5 (plcs l ((pieces l).length + 1)) :: H) ⟨rfl, a, cap, rfl, rfl⟩ (hd := zpk)
theorem refByte_any {l : List UInt8} {k : Int} (hl : l.length ≤ 17000000) (w0 : World) (m : Mem) (H : SHeap) :
    Does Try.prog 67 #[str l, .int .i64 k] w0 m H (Gives (if k < 0 ∨ (l.length : Int) < k then .tuple #[.agg PlS.zero.cs.toArray, .int .i64 0, .bool false] else .tuple #[.agg (placeOf l k).cs.toArray, .int .i64 (k - ((placeOf l k).byte : Int)), .bool true]) m H) := by
  refine Does.of_body (args := [str l, .int .i64 k]) Try.func67 rfl Try.ntmps67 rfl ?_
  have hcnt := pieces_length l
  by_cases h1 : k < 0
  · rw [if_pos (.inl h1)]
    (refine st_O28_1 ?_; intros; rename_i b4)
    exact q_fin0 (H0 := H) (Gives.mk rfl) (hd := zpk)
  by_cases h2 : (l.length : Int) < k
  · rw [if_pos (.inr h2)]
    (refine st_O28_1 ?_; intros; rename_i b4)
    exact q_fin0 (H0 := H) (Gives.mk rfl) (hd := zpk)
  rw [if_neg (by omega)]
  (refine st_O28_1 ?_; intros; rename_i b4)
  refine w_callF Try.func85 ?_ (hs := places_any l hl _ _ _)
  rintro v m H1 ⟨rfl, c, cp, rfl, rfl⟩
  (try (refine st_O28_1 ?_; intros))
  have e0 : (((pieces l).length + 1 : Nat) : Int) - 1 = ((pieces l).length : Int) := by omega
  rw [e0]
  refine WC.loopH [(8, .int .i64 (((pieces l).length) : Int)), (7, .slice c ((pieces l).length + 1) cp), (1, .int .i64 k), (4, .pointer (some ⟨b4, 0, none⟩))] ?_ ?_ (fun j r ds m' H' => ∃ (i : Nat), j = 2 * i ∧ r = [(8, .int .i64 (i : Int)), (7, .slice c ((pieces l).length + 1) cp), (1, .int .i64 k), (4, .pointer (some ⟨b4, 0, none⟩))] ∧ ds = [] ∧ m = m' ∧ H' = .row c cp 59 5 (plcs l ((pieces l).length + 1)) :: .blk b4 (.cells [.int .i64 0, .int .i64 0, .int .i64 0, .int .i64 0, .int .i64 0].toArray 59 (0, 0)) :: H ∧ (i ≤ (pieces l).length) ∧ (i < (pieces l).length → k < (bnd l (i + 1) : Int))) (2 * ((pieces l).length)) ⟨(pieces l).length, rfl, rfl, rfl, rfl, rfl, Nat.le_refl _, fun h => by omega⟩ ?_
  · (repeat (first | exact Env.Sub.nil | refine Env.Sub.cons rfl ?_))
  · exact zpk
  rintro j r ds m' H' ⟨i, rfl, rfl, rfl, rfl, rfl, hi, hbe⟩
  have hel2 := plcs_len l ((pieces l).length + 1)
  have hget := plcs_get (l := l) (n := (pieces l).length + 1) (i := i) (by omega)
  have hby := placeAt_byte (l := l) (i := i) hi
  have hbl := bnd_le l i
  have hb0 := bnd_zero l
  have hpa := placeOf_at (l := l) (k := k) hi
  have hcs : (placeAt l i).cs = [.int .i64 (bnd l i : Int), .int .i64 ((placeAt l i).rune : Int), .int .i64 ((placeAt l i).unit : Int), .int .i64 ((placeAt l i).line : Int), .int .i64 ((placeAt l i).col : Int)] := by unfold PlS.cs; rw [hby]
  rw [hcs] at hget
  generalize hE : plcs l ((pieces l).length + 1) = E at *
  refine WC.rowSome (a := c) (es := E) zhs (by omega) ?_
  rintro c0 rfl
  by_cases hgt : k < (bnd l i : Int)
  · have hi0 : 0 < i := by
      by_cases h : 0 < i
      · exact h
      · obtain rfl : i = 0 := by omega
        omega
    (try (refine st_O28_1 ?_; intros))
    rw [show (i : Int) - 1 = ((i - 1 : Nat) : Int) by omega]
    refine WQ.next (2 * (i - 1)) ⟨i - 1, rfl, rfl, rfl, rfl, rfl, ?_, ?_⟩ (by omega) zsb zpk
    · omega
    · intro _
      rw [show i - 1 + 1 = i by omega]
      exact hgt
  · have hpo := hpa (by omega) hbe
    rw [hpo, hcs, hby]
    obtain ⟨ru, hru⟩ : ∃ ru, (placeAt l i).rune = ru := ⟨_, rfl⟩
    obtain ⟨un, hun⟩ : ∃ un, (placeAt l i).unit = un := ⟨_, rfl⟩
    obtain ⟨ln, hln⟩ : ∃ ln, (placeAt l i).line = ln := ⟨_, rfl⟩
    obtain ⟨co, hco⟩ : ∃ co, (placeAt l i).col = co := ⟨_, rfl⟩
    rw [hru, hun, hln, hco] at hget ⊢
    (try (refine st_O28_1 ?_; intros))
    refine WC.drawE 12 ([.row (some c0) cp 59 5 E]) (.blk b4 (.cells [.int .i64 0, .int .i64 0, .int .i64 0, .int .i64 0, .int .i64 0].toArray 59 (0, 0)) :: H) rfl (by decide +kernel) zpk ?_
    (refine cm_O28_1 ?_)
    refine WE.act0 11 (by decide +kernel) rfl rfl (fun c h => by cases h) ?_
    (try (refine st_O28_1 ?_; intros))
    refine WQ.stored (B := []) (U := .blk b4 (.cells [.int .i64 (bnd l i : Int), .int .i64 (ru : Int), .int .i64 (un : Int), .int .i64 (ln : Int), .int .i64 (co : Int)].toArray 59 (0, 0)) :: H) (Mem.le.refl _) zpk ?_
    refine WE.done (by decide +kernel) ?_
    (try (refine st_O28_1 ?_; intros))
    exact q_fin0 (H0 := H) (Gives.mk rfl) (hd := zpk)
end Go.Proofs.Ytljfncpecpkhhaa

/-
  The walk of the law RopeKnown. No condition.
-/
namespace Go.Eng
end Go.Eng
namespace Go.Proofs.Ytljfncpecpkhhaa
open Go Go.Eng
set_option maxRecDepth 100000
set_option maxHeartbeats 4000000
set_option linter.all false
attribute [local irreducible] WL WC WQ QFun QLoop Does Q1 QRound QAssign Go.Addr.add
theorem eq_pieceO (a b c a' b' c' : Int) (d d' : Bool) : eqB Try.prog 8 40 (.agg #[.int .i64 a, .int .i64 b, .int .i32 c, .bool d]) (.agg #[.int .i64 a', .int .i64 b', .int .i32 c', .bool d']) = some (dcd (a = a' ∧ b = b' ∧ c = c' ∧ d = d')) := eq_piece a b c a' b' c' d d'
theorem eq_place (a b c d e a' b' c' d' e' : Int) : eqB Try.prog 8 59 (.agg #[.int .i64 a, .int .i64 b, .int .i64 c, .int .i64 d, .int .i64 e]) (.agg #[.int .i64 a', .int .i64 b', .int .i64 c', .int .i64 d', .int .i64 e']) = some (dcd (a = a' ∧ b = b' ∧ c = c' ∧ d = d' ∧ e = e')) := by
  have h : eqB Try.prog 8 59 (.agg #[.int .i64 a, .int .i64 b, .int .i64 c, .int .i64 d, .int .i64 e]) (.agg #[.int .i64 a', .int .i64 b', .int .i64 c', .int .i64 d', .int .i64 e']) = some (a == a' && (b == b' && (c == c' && (d == d' && (e == e' && true))))) := by kernel_rfl
  rw [h]
  by_cases hp : a = a' ∧ b = b' ∧ c = c' ∧ d = d' ∧ e = e'
  · rw [dcd_true hp]; obtain ⟨rfl, rfl, rfl, rfl, rfl⟩ := hp; simp
  · rw [dcd_false hp]
    simp only [Bool.and_true, Option.some.injEq, Bool.and_eq_false_iff, beq_eq_false_iff_ne]
    by_cases h1 : a = a' <;> by_cases h2 : b = b' <;> by_cases h3 : c = c' <;> by_cases h4 : d = d' <;> by_cases h5 : e = e' <;> simp_all
end Go.Proofs.Ytljfncpecpkhhaa

/-
  The walk of the laws' tells: a rope tells what its text tells. No condition.
-/
namespace Go.Proofs.Ytljfncpecpkhhaa
open Go Go.Eng
set_option maxRecDepth 100000
set_option maxHeartbeats 4000000
set_option linter.all false
attribute [local irreducible] WL WC WQ QFun QLoop Does Q1 QRound QAssign Go.Addr.add
attribute [local irreducible] readP pieces dl from_ nBrk runeR placeOf
/-- a rope's depth -/
def DeepAt (m : Mem) (p : Value) (k : Nat) : Prop := ∃ b v o, p = .pointer (some ⟨b, 0, none⟩) ∧ m b = some (.cells [v].toArray 82 (0, 0)) ∧ RAt m o v ∧ k = (match o with | none => 0 | some T => T.deep)
theorem RopeAt.deep {m : Mem} {p : Value} {s : List UInt8} (h : RopeAt m p s) : ∃ k, k ≤ 2 * bitsN s.length ∧ DeepAt m p k := by
  obtain ⟨b, v, o, h1, h2, h3, h4, h5, h6, h7⟩ := h
  cases o with
  | none => exact ⟨0, Nat.zero_le _, b, v, none, h1, h2, h3, rfl⟩
  | some T => exact ⟨T.deep, h7 T rfl, b, v, some T, h1, h2, h3, rfl⟩
theorem DeepAt.le {m m' : Mem} {p : Value} {k : Nat} (h : DeepAt m p k) (hm : m.le m') : DeepAt m' p k := by
  obtain ⟨b, v, o, h1, h2, h3, h4⟩ := h
  exact ⟨b, v, o, h1, hm _ _ h2, h3.le hm, h4⟩
theorem sq_O29_1 {G : Prop} (h : G := by (repeat (first | (refine sp ?_; (repeat intro zzc)) | (refine iInv rfl ?_; first | refine w_size rfl (by assumption) rfl ?_ | refine w_depth rfl (by assumption) rfl ?_) | (refine iB_eql rfl ?_; refine WL.eqlNilI rfl (by first | exact .inr ⟨_, _, rfl, rfl⟩ | exact .inl ⟨rfl, rfl⟩) rfl rfl ?_))); exact WQ.q1 rfl) : G := h
theorem st_O29_1 {G G' : Prop} (next : G') (h : Bx G' → G := by intro zzn; (first | ((refine st ?_; (repeat intro zzc)); (try ((first | (refine iInv rfl ?_; first | refine w_size rfl (by assumption) rfl ?_ | refine w_depth rfl (by assumption) rfl ?_) | (refine iB_eql rfl ?_; refine WL.eqlNilI rfl (by first | exact .inr ⟨_, _, rfl, rfl⟩ | exact .inl ⟨rfl, rfl⟩) rfl rfl ?_) | ((refine iDraw ?_; (first | refine WC.drawAll rfl (by decide +kernel) ?_ | refine WC.draw 1 rfl (by decide +kernel) ?_ | refine WC.draw 2 rfl (by decide +kernel) ?_ | refine WC.draw 3 rfl (by decide +kernel) ?_ | refine WC.draw 4 rfl (by decide +kernel) ?_ | refine WC.draw 5 rfl (by decide +kernel) ?_ | refine WC.draw 6 rfl (by decide +kernel) ?_ | refine WC.draw 7 rfl (by decide +kernel) ?_ | refine WC.draw 8 rfl (by decide +kernel) ?_ | refine WC.draw 9 rfl (by decide +kernel) ?_ | refine WC.draw 10 rfl (by decide +kernel) ?_ | refine WC.draw 11 rfl (by decide +kernel) ?_ | refine WC.draw 12 rfl (by decide +kernel) ?_ | refine WC.draw 13 rfl (by decide +kernel) ?_ | refine WC.draw 14 rfl (by decide +kernel) ?_ | refine WC.draw 15 rfl (by decide +kernel) ?_ | refine WC.draw 16 rfl (by decide +kernel) ?_ | refine WC.draw 17 rfl (by decide +kernel) ?_ | refine WC.draw 18 rfl (by decide +kernel) ?_ | refine WC.draw 19 rfl (by decide +kernel) ?_ | refine WC.draw 20 rfl (by decide +kernel) ?_ | refine WC.draw 21 rfl (by decide +kernel) ?_ | refine WC.draw 22 rfl (by decide +kernel) ?_ | refine WC.draw 23 rfl (by decide +kernel) ?_ | refine WC.draw 24 rfl (by decide +kernel) ?_)); (repeat (refine WD.cons rfl (fun c h => by cases h) sq_O29_1 ?_)); refine WD.nil ?_)); (try (refine st ?_; (repeat intro zzc)))))) | ((first | (refine iInv rfl ?_; first | refine w_size rfl (by assumption) rfl ?_ | refine w_depth rfl (by assumption) rfl ?_) | (refine iB_eql rfl ?_; refine WL.eqlNilI rfl (by first | exact .inr ⟨_, _, rfl, rfl⟩ | exact .inl ⟨rfl, rfl⟩) rfl rfl ?_) | ((refine iDraw ?_; (first | refine WC.drawAll rfl (by decide +kernel) ?_ | refine WC.draw 1 rfl (by decide +kernel) ?_ | refine WC.draw 2 rfl (by decide +kernel) ?_ | refine WC.draw 3 rfl (by decide +kernel) ?_ | refine WC.draw 4 rfl (by decide +kernel) ?_ | refine WC.draw 5 rfl (by decide +kernel) ?_ | refine WC.draw 6 rfl (by decide +kernel) ?_ | refine WC.draw 7 rfl (by decide +kernel) ?_ | refine WC.draw 8 rfl (by decide +kernel) ?_ | refine WC.draw 9 rfl (by decide +kernel) ?_ | refine WC.draw 10 rfl (by decide +kernel) ?_ | refine WC.draw 11 rfl (by decide +kernel) ?_ | refine WC.draw 12 rfl (by decide +kernel) ?_ | refine WC.draw 13 rfl (by decide +kernel) ?_ | refine WC.draw 14 rfl (by decide +kernel) ?_ | refine WC.draw 15 rfl (by decide +kernel) ?_ | refine WC.draw 16 rfl (by decide +kernel) ?_ | refine WC.draw 17 rfl (by decide +kernel) ?_ | refine WC.draw 18 rfl (by decide +kernel) ?_ | refine WC.draw 19 rfl (by decide +kernel) ?_ | refine WC.draw 20 rfl (by decide +kernel) ?_ | refine WC.draw 21 rfl (by decide +kernel) ?_ | refine WC.draw 22 rfl (by decide +kernel) ?_ | refine WC.draw 23 rfl (by decide +kernel) ?_ | refine WC.draw 24 rfl (by decide +kernel) ?_)); (repeat (refine WD.cons rfl (fun c h => by cases h) sq_O29_1 ?_)); refine WD.nil ?_)); (try (refine st ?_; (repeat intro zzc))))); (repeat ((first | (refine iInv rfl ?_; first | refine w_size rfl (by assumption) rfl ?_ | refine w_depth rfl (by assumption) rfl ?_) | (refine iB_eql rfl ?_; refine WL.eqlNilI rfl (by first | exact .inr ⟨_, _, rfl, rfl⟩ | exact .inl ⟨rfl, rfl⟩) rfl rfl ?_) | ((refine iDraw ?_; (first | refine WC.drawAll rfl (by decide +kernel) ?_ | refine WC.draw 1 rfl (by decide +kernel) ?_ | refine WC.draw 2 rfl (by decide +kernel) ?_ | refine WC.draw 3 rfl (by decide +kernel) ?_ | refine WC.draw 4 rfl (by decide +kernel) ?_ | refine WC.draw 5 rfl (by decide +kernel) ?_ | refine WC.draw 6 rfl (by decide +kernel) ?_ | refine WC.draw 7 rfl (by decide +kernel) ?_ | refine WC.draw 8 rfl (by decide +kernel) ?_ | refine WC.draw 9 rfl (by decide +kernel) ?_ | refine WC.draw 10 rfl (by decide +kernel) ?_ | refine WC.draw 11 rfl (by decide +kernel) ?_ | refine WC.draw 12 rfl (by decide +kernel) ?_ | refine WC.draw 13 rfl (by decide +kernel) ?_ | refine WC.draw 14 rfl (by decide +kernel) ?_ | refine WC.draw 15 rfl (by decide +kernel) ?_ | refine WC.draw 16 rfl (by decide +kernel) ?_ | refine WC.draw 17 rfl (by decide +kernel) ?_ | refine WC.draw 18 rfl (by decide +kernel) ?_ | refine WC.draw 19 rfl (by decide +kernel) ?_ | refine WC.draw 20 rfl (by decide +kernel) ?_ | refine WC.draw 21 rfl (by decide +kernel) ?_ | refine WC.draw 22 rfl (by decide +kernel) ?_ | refine WC.draw 23 rfl (by decide +kernel) ?_ | refine WC.draw 24 rfl (by decide +kernel) ?_)); (repeat (refine WD.cons rfl (fun c h => by cases h) sq_O29_1 ?_)); refine WD.nil ?_)); (try (refine st ?_; (repeat intro zzc))))); (repeat revert zzc); exact zzn.out) : G := h ⟨next⟩
theorem deep_any {p : Value} {k : Nat} (w0 : World) (m : Mem) (H : SHeap) (hp : DeepAt m p k) : Does Try.prog 20 #[p] w0 m H (Gives (.int .i64 (k : Int)) m H) := by
  obtain ⟨b, v, o, rfl, hb, hv, rfl⟩ := hp
  refine Does.of_body (args := [.pointer (some ⟨b, 0, none⟩)]) Try.func20 rfl Try.ntmps20 rfl ?_
  cases o with
  | none =>
    cases hv
    (try (refine st_O29_1 ?_; intros))
    exact q_fin0 (H0 := H) (Gives.mk rfl) (hd := zpk)
  | some T =>
    have hT : NAt m T v := hv
    obtain ⟨t, x, rfl⟩ := hT.iface
    (try (refine st_O29_1 ?_; intros))
    exact q_fin0 (H0 := H) (Gives.mk rfl) (hd := zpk)
theorem piece_same (s : List UInt8) (k : Int) (hs : s.length ≤ 16777216) : ∃ (q : Pc) (e : Int), (∀ (p : Value) (w0 : World) (m : Mem) (H : SHeap), RopeAt m p s → Does Try.prog 22 #[p, .int .i64 k] w0 m H (fun v m' H' => m.le m' ∧ H' = H ∧ v = .tuple #[q.v, .int .i64 e])) ∧
    (∀ (w0 : World) (m : Mem) (H : SHeap), Does Try.prog 65 #[str s, .int .i64 k] w0 m H (Gives (.tuple #[q.v, .int .i64 e]) m H)) := by
  by_cases hk : k < 0 ∨ (s.length : Int) ≤ k
  · refine ⟨⟨0, 0, 0, false⟩, 5, fun p w0 m H hp => (pieceOut_any hk w0 m H hp).mono ?_, fun w0 m H => refPieceOut_any hk (by omega) w0 m H⟩
    rintro v m' H' ⟨rfl, rfl, rfl⟩
    exact ⟨Mem.le.refl _, rfl, rfl⟩
  · obtain ⟨n, rfl⟩ : ∃ n : Nat, k = (n : Int) := ⟨k.toNat, by omega⟩
    have hn : n < s.length := by omega
    obtain ⟨i, h1, h2, h3⟩ := exists_around hn n 0 (by omega) (by omega) (Reach.zero s)
    have hov : Over s n (readP s i) := ⟨reach_mem h1 (by omega), by rw [readP_at]; exact h2, by rw [readP_at]; exact h3⟩
    refine ⟨readP s i, 0, fun p w0 m H hp => (piece_any hn w0 m H hp).mono ?_, fun w0 m H => (refPiece_any hn (by omega) w0 m H).mono ?_⟩
    · rintro v m' H' ⟨h4, rfl, q, h5, rfl⟩
      rw [over_one h5 hov]
      exact ⟨h4, rfl, rfl⟩
    · rintro v m' H' ⟨rfl, rfl, q, h5, rfl⟩
      rw [over_one h5 hov]
      exact Gives.mk rfl
theorem place_same (s : List UInt8) (k : Int) (hs : s.length ≤ 16777216) : ∃ (P : PlS) (d f : Int) (b : Bool), (∀ (p : Value) (w0 : World) (m : Mem) (H : SHeap), RopeAt m p s → Does Try.prog 29 #[p, .int .i64 k] w0 m H (fun v m' H' => m.le m' ∧ H' = H ∧ v = .tuple #[.agg P.cs.toArray, .int .i64 d, .int .i64 f])) ∧
    (∀ (w0 : World) (m : Mem) (H : SHeap), Does Try.prog 67 #[str s, .int .i64 k] w0 m H (Gives (.tuple #[.agg P.cs.toArray, .int .i64 d, .bool b]) m H)) ∧ (f = 0 ∧ b = true ∨ f = 5 ∧ b = false) := by
  have h1 := fun (p : Value) (w0 : World) (m : Mem) (H : SHeap) (hp : RopeAt m p s) => place_any (k := k) w0 m H hp
  have h2 := fun (w0 : World) (m : Mem) (H : SHeap) => refByte_any (l := s) (k := k) (by omega) w0 m H
  by_cases hk : k < 0 ∨ (s.length : Int) < k
  · simp only [if_pos hk] at h1 h2
    exact ⟨PlS.zero, 0, 5, false, h1, h2, .inr ⟨rfl, rfl⟩⟩
  · simp only [if_neg hk] at h1 h2
    exact ⟨placeOf s k, _, 0, true, h1, h2, .inl ⟨rfl, rfl⟩⟩
theorem sq_O29_3 {G : Prop} (h : G := by (repeat (first | (refine sp ?_; (repeat intro zzc)) | (refine iB_eql rfl ?_; refine w_eqlV ?_ (he := eq_pieceO _ _ _ _ _ _ _ _)) | (refine iB_neq rfl ?_; refine w_neqV ?_ (he := eq_pieceO _ _ _ _ _ _ _ _)) | (refine iB_eql rfl ?_; refine w_eqlV ?_ (he := eq_place _ _ _ _ _ _ _ _ _ _)) | (refine iB_neq rfl ?_; refine w_neqV ?_ (he := eq_place _ _ _ _ _ _ _ _ _ _)) | (refine iF 15 rfl ?_; refine w_callG Try.func15 ?_ (hs := text_any _ _ _ (by assumption))) | (refine iF 19 rfl ?_; refine w_callG Try.func19 ?_ (hs := len_any _ _ _ (by assumption))) | (refine iF 20 rfl ?_; refine w_callG Try.func20 ?_ (hs := deep_any _ _ _ (by assumption))) | (refine iF 21 rfl ?_; refine w_callG Try.func21 ?_ (hs := most_any (by omega) _ _ _)) | (refine iF 56 rfl ?_; refine w_callG Try.func56 ?_ (hs := hasPrefix_any _ _ _)) | (refine iF 64 rfl ?_; refine w_callG Try.func64 ?_ (hs := refCount_any _ (by omega) _ _ _)) | (refine iF 66 rfl ?_; refine w_callG Try.func66 ?_ (hs := refRune_any (by omega) _ _ _)))); exact WQ.q1 rfl) : G := h
theorem st_O29_3 {G G' : Prop} (next : G') (h : Bx G' → G := by intro zzn; (first | ((refine st ?_; (repeat intro zzc)); (try ((first | (refine iB_eql rfl ?_; refine w_eqlV ?_ (he := eq_pieceO _ _ _ _ _ _ _ _)) | (refine iB_neq rfl ?_; refine w_neqV ?_ (he := eq_pieceO _ _ _ _ _ _ _ _)) | (refine iB_eql rfl ?_; refine w_eqlV ?_ (he := eq_place _ _ _ _ _ _ _ _ _ _)) | (refine iB_neq rfl ?_; refine w_neqV ?_ (he := eq_place _ _ _ _ _ _ _ _ _ _)) | (refine iF 15 rfl ?_; refine w_callG Try.func15 ?_ (hs := text_any _ _ _ (by assumption))) | (refine iF 19 rfl ?_; refine w_callG Try.func19 ?_ (hs := len_any _ _ _ (by assumption))) | (refine iF 20 rfl ?_; refine w_callG Try.func20 ?_ (hs := deep_any _ _ _ (by assumption))) | (refine iF 21 rfl ?_; refine w_callG Try.func21 ?_ (hs := most_any (by omega) _ _ _)) | (refine iF 56 rfl ?_; refine w_callG Try.func56 ?_ (hs := hasPrefix_any _ _ _)) | (refine iF 64 rfl ?_; refine w_callG Try.func64 ?_ (hs := refCount_any _ (by omega) _ _ _)) | (refine iF 66 rfl ?_; refine w_callG Try.func66 ?_ (hs := refRune_any (by omega) _ _ _)) | ((refine iDraw ?_; (first | refine WC.drawAll rfl (by decide +kernel) ?_ | refine WC.draw 1 rfl (by decide +kernel) ?_ | refine WC.draw 2 rfl (by decide +kernel) ?_ | refine WC.draw 3 rfl (by decide +kernel) ?_ | refine WC.draw 4 rfl (by decide +kernel) ?_ | refine WC.draw 5 rfl (by decide +kernel) ?_ | refine WC.draw 6 rfl (by decide +kernel) ?_ | refine WC.draw 7 rfl (by decide +kernel) ?_ | refine WC.draw 8 rfl (by decide +kernel) ?_ | refine WC.draw 9 rfl (by decide +kernel) ?_ | refine WC.draw 10 rfl (by decide +kernel) ?_ | refine WC.draw 11 rfl (by decide +kernel) ?_ | refine WC.draw 12 rfl (by decide +kernel) ?_ | refine WC.draw 13 rfl (by decide +kernel) ?_ | refine WC.draw 14 rfl (by decide +kernel) ?_ | refine WC.draw 15 rfl (by decide +kernel) ?_ | refine WC.draw 16 rfl (by decide +kernel) ?_ | refine WC.draw 17 rfl (by decide +kernel) ?_ | refine WC.draw 18 rfl (by decide +kernel) ?_ | refine WC.draw 19 rfl (by decide +kernel) ?_ | refine WC.draw 20 rfl (by decide +kernel) ?_ | refine WC.draw 21 rfl (by decide +kernel) ?_ | refine WC.draw 22 rfl (by decide +kernel) ?_ | refine WC.draw 23 rfl (by decide +kernel) ?_ | refine WC.draw 24 rfl (by decide +kernel) ?_)); (repeat (refine WD.cons rfl (fun c h => by cases h) sq_O29_3 ?_)); refine WD.nil ?_)); (try (refine st ?_; (repeat intro zzc)))))) | ((first | (refine iB_eql rfl ?_; refine w_eqlV ?_ (he := eq_pieceO _ _ _ _ _ _ _ _)) | (refine iB_neq rfl ?_; refine w_neqV ?_ (he := eq_pieceO _ _ _ _ _ _ _ _)) | (refine iB_eql rfl ?_; refine w_eqlV ?_ (he := eq_place _ _ _ _ _ _ _ _ _ _)) | (refine iB_neq rfl ?_; refine w_neqV ?_ (he := eq_place _ _ _ _ _ _ _ _ _ _)) | (refine iF 15 rfl ?_; refine w_callG Try.func15 ?_ (hs := text_any _ _ _ (by assumption))) | (refine iF 19 rfl ?_; refine w_callG Try.func19 ?_ (hs := len_any _ _ _ (by assumption))) | (refine iF 20 rfl ?_; refine w_callG Try.func20 ?_ (hs := deep_any _ _ _ (by assumption))) | (refine iF 21 rfl ?_; refine w_callG Try.func21 ?_ (hs := most_any (by omega) _ _ _)) | (refine iF 56 rfl ?_; refine w_callG Try.func56 ?_ (hs := hasPrefix_any _ _ _)) | (refine iF 64 rfl ?_; refine w_callG Try.func64 ?_ (hs := refCount_any _ (by omega) _ _ _)) | (refine iF 66 rfl ?_; refine w_callG Try.func66 ?_ (hs := refRune_any (by omega) _ _ _)) | ((refine iDraw ?_; (first | refine WC.drawAll rfl (by decide +kernel) ?_ | refine WC.draw 1 rfl (by decide +kernel) ?_ | refine WC.draw 2 rfl (by decide +kernel) ?_ | refine WC.draw 3 rfl (by decide +kernel) ?_ | refine WC.draw 4 rfl (by decide +kernel) ?_ | refine WC.draw 5 rfl (by decide +kernel) ?_ | refine WC.draw 6 rfl (by decide +kernel) ?_ | refine WC.draw 7 rfl (by decide +kernel) ?_ | refine WC.draw 8 rfl (by decide +kernel) ?_ | refine WC.draw 9 rfl (by decide +kernel) ?_ | refine WC.draw 10 rfl (by decide +kernel) ?_ | refine WC.draw 11 rfl (by decide +kernel) ?_ | refine WC.draw 12 rfl (by decide +kernel) ?_ | refine WC.draw 13 rfl (by decide +kernel) ?_ | refine WC.draw 14 rfl (by decide +kernel) ?_ | refine WC.draw 15 rfl (by decide +kernel) ?_ | refine WC.draw 16 rfl (by decide +kernel) ?_ | refine WC.draw 17 rfl (by decide +kernel) ?_ | refine WC.draw 18 rfl (by decide +kernel) ?_ | refine WC.draw 19 rfl (by decide +kernel) ?_ | refine WC.draw 20 rfl (by decide +kernel) ?_ | refine WC.draw 21 rfl (by decide +kernel) ?_ | refine WC.draw 22 rfl (by decide +kernel) ?_ | refine WC.draw 23 rfl (by decide +kernel) ?_ | refine WC.draw 24 rfl (by decide +kernel) ?_)); (repeat (refine WD.cons rfl (fun c h => by cases h) sq_O29_3 ?_)); refine WD.nil ?_)); (try (refine st ?_; (repeat intro zzc))))); (repeat ((first | (refine iB_eql rfl ?_; refine w_eqlV ?_ (he := eq_pieceO _ _ _ _ _ _ _ _)) | (refine iB_neq rfl ?_; refine w_neqV ?_ (he := eq_pieceO _ _ _ _ _ _ _ _)) | (refine iB_eql rfl ?_; refine w_eqlV ?_ (he := eq_place _ _ _ _ _ _ _ _ _ _)) | (refine iB_neq rfl ?_; refine w_neqV ?_ (he := eq_place _ _ _ _ _ _ _ _ _ _)) | (refine iF 15 rfl ?_; refine w_callG Try.func15 ?_ (hs := text_any _ _ _ (by assumption))) | (refine iF 19 rfl ?_; refine w_callG Try.func19 ?_ (hs := len_any _ _ _ (by assumption))) | (refine iF 20 rfl ?_; refine w_callG Try.func20 ?_ (hs := deep_any _ _ _ (by assumption))) | (refine iF 21 rfl ?_; refine w_callG Try.func21 ?_ (hs := most_any (by omega) _ _ _)) | (refine iF 56 rfl ?_; refine w_callG Try.func56 ?_ (hs := hasPrefix_any _ _ _)) | (refine iF 64 rfl ?_; refine w_callG Try.func64 ?_ (hs := refCount_any _ (by omega) _ _ _)) | (refine iF 66 rfl ?_; refine w_callG Try.func66 ?_ (hs := refRune_any (by omega) _ _ _)) | ((refine iDraw ?_; (first | refine WC.drawAll rfl (by decide +kernel) ?_ | refine WC.draw 1 rfl (by decide +kernel) ?_ | refine WC.draw 2 rfl (by decide +kernel) ?_ | refine WC.draw 3 rfl (by decide +kernel) ?_ | refine WC.draw 4 rfl (by decide +kernel) ?_ | refine WC.draw 5 rfl (by decide +kernel) ?_ | refine WC.draw 6 rfl (by decide +kernel) ?_ | refine WC.draw 7 rfl (by decide +kernel) ?_ | refine WC.draw 8 rfl (by decide +kernel) ?_ | refine WC.draw 9 rfl (by decide +kernel) ?_ | refine WC.draw 10 rfl (by decide +kernel) ?_ | refine WC.draw 11 rfl (by decide +kernel) ?_ | refine WC.draw 12 rfl (by decide +kernel) ?_ | refine WC.draw 13 rfl (by decide +kernel) ?_ | refine WC.draw 14 rfl (by decide +kernel) ?_ | refine WC.draw 15 rfl (by decide +kernel) ?_ | refine WC.draw 16 rfl (by decide +kernel) ?_ | refine WC.draw 17 rfl (by decide +kernel) ?_ | refine WC.draw 18 rfl (by decide +kernel) ?_ | refine WC.draw 19 rfl (by decide +kernel) ?_ | refine WC.draw 20 rfl (by decide +kernel) ?_ | refine WC.draw 21 rfl (by decide +kernel) ?_ | refine WC.draw 22 rfl (by decide +kernel) ?_ | refine WC.draw 23 rfl (by decide +kernel) ?_ | refine WC.draw 24 rfl (by decide +kernel) ?_)); (repeat (refine WD.cons rfl (fun c h => by cases h) sq_O29_3 ?_)); refine WD.nil ?_)); (try (refine st ?_; (repeat intro zzc))))); (repeat revert zzc); exact zzn.out) : G := h ⟨next⟩
theorem tells_any {p : Value} {s : List UInt8} {k : Int} (w0 : World) (m : Mem) (H : SHeap) (hp : RopeAt m p s) :
    Does Try.prog 37 #[p, str s, .int .i64 k] w0 m H (fun v m' H' => m.le m' ∧ H' = H ∧ v = .bool true) := by
  have hl := hp.len
  obtain ⟨pb, rfl⟩ := ropes_ptr hp
  have hnn : (some (⟨pb, 0, none⟩ : Addr)).isNone = false := rfl
  obtain ⟨dk, hdk, hdp⟩ := hp.deep
  refine Does.of_body (args := [.pointer (some ⟨pb, 0, none⟩), str s, .int .i64 k]) Try.func37 rfl Try.ntmps37 rfl ?_
  have hss : s = s := rfl
  have hbb := bitsN_le s.length
  have hpl := pieces_length s
  (refine st_O29_3 ?_; intros; rename_i b4 b6)
  refine w_callF Try.func63 ?_ (hs := p26_any s (by omega) _ _ _)
  rintro v m H1 ⟨rfl, c, cp, rfl, rfl⟩
  refine WL.persist (b := b4) (by (repeat (first | exact Out.here | apply Out.there))) ?_
  intro m1 hle1 hb4
  replace hp := hp.le hle1
  clear hdp
  have hle := hle1
  (refine st_O29_3 ?_; intros; rename_i b7)
  refine WL.persist (b := b7) (by (repeat (first | exact Out.here | apply Out.there))) ?_
  intro m2 hle2 hb7
  replace hp := hp.le hle2
  replace hb4 := hle2 _ _ hb4
  replace hle := hle.trans hle2
  (try (refine st_O29_3 ?_; intros))
  refine w_callF Try.func25 ?_ (hs := count_any _ _ _ hp)
  rintro v m3 H1 ⟨hle3, rfl, rfl⟩
  replace hp := hp.le hle3
  replace hb4 := hle3 _ _ hb4
  replace hb7 := hle3 _ _ hb7
  replace hle := hle.trans hle3
  (refine st_O29_3 ?_; intros; rename_i b12)
  refine w_callF Try.func23 ?_ (hs := piecesIt_any _ _ _)
  rintro v0 m3 H0 ⟨bi, rfl, rfl, rfl⟩
  refine WL.persist (b := bi) (by (repeat (first | exact Out.here | apply Out.there))) ?_
  intro m4 hle4 hbi
  replace hp := hp.le hle4
  replace hb4 := hle4 _ _ hb4
  replace hb7 := hle4 _ _ hb7
  replace hle := hle.trans hle4
  obtain ⟨o, hT, ho⟩ := hp.node
  have hseq := ropePieces_seq (b := bi) (p := .pointer (some ⟨pb, 0, none⟩)) (o := o)
  rw [ho] at hseq
  have hln : ((pieces s).map Pc.cs).length = (pieces s).length := by simp
  clear hle1 hle2 hle3 hle4
  (try (refine st_O29_3 ?_; intros))
  refine WC.rangeFuncM (Hc := H) (encs := fun p : Pc => [p.v]) (xs := pieces s) (Cap := RopeIn bi (.pointer (some ⟨pb, 0, none⟩)) o) (lb := [.pointer (some ⟨bi, 0, none⟩)]) (ps := [81])
    (J := fun pre _ Hl => Hl = [.blk b12 (.cells [.int .i64 (pre.length : Int)].toArray 3 (0, 0)), .row c cp 40 4 ((pieces s).map Pc.cs), .blk b6 (.cells [.bool false].toArray 4 (0, 0))]) (Jx := fun _ _ _ _ => False)
    rfl Try.func45 rfl rfl hseq ⟨hbi, hT⟩ (fun _ => rfl) rfl (fun _ _ _ _ h _ => h) (fun _ _ _ _ _ h _ => h) (.cons (.cons (.cons .nil))) rfl ?_ ?_ ?_
  · rintro lp pre x post hxs m5 Hl rfl hm5 Hfr hfr
    have hlen : (pieces s).length = pre.length + post.length + 1 := by rw [hxs]; simp; omega
    have hget : ((pieces s).map Pc.cs)[pre.length]? = some [.int .i64 (x.at_ : Int), .int .i64 (x.w : Int), .int .i32 (x.r : Int), .bool x.b] := by rw [hxs]; simp [Pc.cs]
    have hb45 := hm5 _ _ hb4
    have hb75 := hm5 _ _ hb7
    generalize hE : (pieces s).map Pc.cs = E at *
    simp only [List.cons_append, List.nil_append]
    (refine st_O29_3 ?_; intros; rename_i b13)
    refine WQ.assigned (.cons (.cons (.cons (.cons .nil)))) (Mem.le.refl _) ?_
    intro Hfr2
    simp only [List.cons_append, List.nil_append]
    refine WC.rowSome (a := c) zhs (by omega) ?_
    rintro c0 rfl
    (try (refine st_O29_3 ?_; intros))
    refine WQ.roundOn (Hl := [.blk b12 _, .row (some c0) cp 40 4 _, .blk b6 _]) zpk (Mem.le.refl _) ?_
    simp
  rotate_left
  · rintro D c pre m' Hl _ h _
    exact h.elim
  rintro D1 m5 Hl rfl hm5
  simp only [List.cons_append, List.nil_append]
  replace hp := hp.le hm5
  replace hb4 := hm5 _ _ hb4
  replace hb7 := hm5 _ _ hb7
  replace hle := hle.trans hm5
  clear hT hseq hbi hm5
  (try (refine st_O29_3 ?_; intros))
  refine w_callF Try.func26 ?_ (hs := backIt_any _ _ _)
  rintro v0 m5 H0 ⟨bi2, rfl, rfl, rfl⟩
  refine WL.persist (b := bi2) (by (repeat (first | exact Out.here | apply Out.there))) ?_
  intro m6 hle6 hbi
  replace hp := hp.le hle6
  replace hb4 := hle6 _ _ hb4
  replace hb7 := hle6 _ _ hb7
  replace hle := hle.trans hle6
  obtain ⟨o, hT, ho⟩ := hp.node
  have hseq := ropeBack_seq (b := bi2) (p := .pointer (some ⟨pb, 0, none⟩)) (o := o)
  rw [ho] at hseq
  clear hle6
  (try (refine st_O29_3 ?_; intros))
  refine WC.heap (H' := .blk b12 (.cells [.int .i64 ((pieces s).length : Int)].toArray 3 (0, 0)) :: .row c cp 40 4 ((pieces s).map Pc.cs) :: .blk b6 (.cells [.bool false].toArray 4 (0, 0)) :: .blk D1 (.deferred (some [])) :: H) zpk ?_
  refine WC.rangeFuncM (Hc := .blk D1 (.deferred (some [])) :: H) (encs := fun p : Pc => [p.v]) (xs := (pieces s).reverse) (Cap := RopeIn bi2 (.pointer (some ⟨pb, 0, none⟩)) o) (lb := [.pointer (some ⟨bi2, 0, none⟩)]) (ps := [102])
    (J := fun pre _ Hl => Hl = [.blk b12 (.cells [.int .i64 (((pieces s).length - pre.length : Nat) : Int)].toArray 3 (0, 0)), .row c cp 40 4 ((pieces s).map Pc.cs), .blk b6 (.cells [.bool false].toArray 4 (0, 0))]) (Jx := fun _ _ _ _ => False)
    rfl Try.func48 rfl rfl hseq ⟨hbi, hT⟩ (fun _ => rfl) rfl (fun _ _ _ _ h _ => h) (fun _ _ _ _ _ h _ => h) (.cons (.cons (.cons .nil))) rfl ?_ ?_ ?_
  · rintro lp pre x post hxs m7 Hl rfl hm7 Hfr hfr
    have hlen : (pieces s).length = pre.length + post.length + 1 := by have := congrArg List.length hxs; simp at this; omega
    have hxs2 : pieces s = post.reverse ++ x :: pre.reverse := by have := congrArg List.reverse hxs; simpa using this
    have hget : ((pieces s).map Pc.cs)[post.length]? = some [.int .i64 (x.at_ : Int), .int .i64 (x.w : Int), .int .i32 (x.r : Int), .bool x.b] := by
      rw [hxs2, List.map_append, List.getElem?_append_right (by simp)]
      simp [Pc.cs]
    have hb47 := hm7 _ _ hb4
    have hb77 := hm7 _ _ hb7
    have en1 : (((pieces s).length - pre.length : Nat) : Int) - 1 = (post.length : Int) := by omega
    have en2 : (pieces s).length - (pre ++ [x]).length = post.length := by rw [List.length_append]; simp only [List.length_singleton]; omega
    generalize hE : (pieces s).map Pc.cs = E at *
    simp only [List.cons_append, List.nil_append]
    (refine st_O29_3 ?_; intros; rename_i b14)
    refine WQ.assigned (.cons (.cons (.cons (.cons .nil)))) (Mem.le.refl _) ?_
    intro Hfr2
    simp only [List.cons_append, List.nil_append]
    refine WC.rowSome (a := c) zhs (by omega) ?_
    rintro c0 rfl
    (try (refine st_O29_3 ?_; intros))
    rw [en1]
    (try (refine st_O29_3 ?_; intros))
    refine WQ.roundOn (Hl := [.blk b12 _, .row (some c0) cp 40 4 _, .blk b6 _]) zpk (Mem.le.refl _) ?_
    rw [en2]
  rotate_left
  · rintro D c pre m' Hl _ h _
    exact h.elim
  rintro D2 m7 Hl rfl hm7
  rw [show (pieces s).length - (pieces s).reverse.length = 0 by rw [List.length_reverse, Nat.sub_self]]
  simp only [List.cons_append, List.nil_append]
  replace hp := hp.le hm7
  replace hb4 := hm7 _ _ hb4
  replace hb7 := hm7 _ _ hb7
  replace hle := hle.trans hm7
  clear hT hseq hbi hm7 ho
  clear o
  (refine st_O29_3 ?_; intros; rename_i b15)
  refine w_callF Try.func27 ?_ (hs := partsIt_any _ _ _)
  rintro v0 m7 H0 ⟨bi3, rfl, rfl, rfl⟩
  refine WL.persist (b := bi3) (by (repeat (first | exact Out.here | apply Out.there))) ?_
  intro m8 hle8 hbi
  replace hp := hp.le hle8
  replace hb4 := hle8 _ _ hb4
  replace hle := hle.trans hle8
  obtain ⟨o, hT, ho⟩ := hp.node
  have hseq := (parts_seq (b := bi3) (p := .pointer (some ⟨pb, 0, none⟩)) (o := o)).m
  have hfl := partsR_txt o
  rw [ho] at hfl
  have hok : ∀ x ∈ partsR o, 1 ≤ x.length ∧ x.length ≤ 1024 := by
    obtain ⟨_, _, _, _, _, hOk, _⟩ := hT
    cases o with
    | none => intro x hx; cases hx
    | some T => exact Nd.parts_ok hOk
  clear hle8 hb7
  (try (refine st_O29_3 ?_; intros))
  refine WC.heap (H' := .blk b15 (.cells [.int .i64 0].toArray 3 (0, 0)) :: .blk b12 (.cells [.int .i64 0].toArray 3 (0, 0)) :: .blk b6 (.cells [.bool false].toArray 4 (0, 0)) :: .blk D2 (.deferred (some [])) :: .blk D1 (.deferred (some [])) :: H) zpk ?_
  refine WC.rangeFuncM (Hc := .blk b12 (.cells [.int .i64 0].toArray 3 (0, 0)) :: .blk b6 (.cells [.bool false].toArray 4 (0, 0)) :: .blk D2 (.deferred (some [])) :: .blk D1 (.deferred (some [])) :: H) (encs := fun s : List UInt8 => [str s]) (xs := partsR o) (Cap := RopeIn bi3 (.pointer (some ⟨pb, 0, none⟩)) o) (lb := [.pointer (some ⟨bi3, 0, none⟩)]) (ps := [117])
    (J := fun pre _ Hl => Hl = [.blk b15 (.cells [.int .i64 ((pre.flatten).length : Int)].toArray 3 (0, 0))]) (Jx := fun _ _ _ _ => False)
    rfl Try.func53 rfl rfl hseq ⟨hbi, hT⟩ (fun _ => rfl) rfl (fun _ _ _ _ h _ => h) (fun _ _ _ _ _ h _ => h) (.cons .nil) rfl ?_ ?_ ?_
  · rintro lp pre x post hxs m9 Hl rfl hm9 Hfr hfr
    have hx := hok x (by rw [hxs]; simp)
    have hst : s = pre.flatten ++ (x ++ post.flatten) := by rw [← hfl, hxs]; simp
    have hlen : pre.flatten.length + x.length ≤ s.length := by rw [hst]; simp
    have hdr : s.drop pre.flatten.length = x ++ post.flatten := by rw [hst]; simp
    have hpx : Lib.hasPrefix (s.drop pre.flatten.length) x = true := by rw [hdr]; unfold Lib.hasPrefix; rw [List.isPrefixOf_iff_prefix]; exact List.prefix_append _ _
    have hpn : (!Lib.hasPrefix (s.drop pre.flatten.length) x) = false := by rw [hpx]; rfl
    have hfn : (pre ++ [x]).flatten.length = pre.flatten.length + x.length := by simp
    have hb49 := hm9 _ _ hb4
    obtain ⟨pf, hpf⟩ : ∃ pf, pre.flatten.length = pf := ⟨_, rfl⟩
    rw [hpf] at hlen hpx hpn hfn hdr
    simp only [List.cons_append, List.nil_append]
    rw [hpf]
    (try (refine st_O29_3 ?_; intros))
    refine WQ.assigned (.cons .nil) (Mem.le.refl _) ?_
    intro Hfr2
    simp only [List.cons_append, List.nil_append]
    (try (refine st_O29_3 ?_; intros))
    refine WQ.roundOn (Hl := [.blk b15 _]) zpk (Mem.le.refl _) ?_
    rw [hfn]; rfl
  rotate_left
  · rintro D c pre m' Hl _ h _
    exact h.elim
  rintro D3 m9 Hl rfl hm9
  rw [hfl]
  simp only [List.cons_append, List.nil_append]
  replace hp := hp.le hm9
  replace hb4 := hm9 _ _ hb4
  replace hle := hle.trans hm9
  clear hT hseq hbi hm9 ho hfl hok
  clear o
  clear hpl hbb hdk
  obtain ⟨q, e, hP1, hP2⟩ := piece_same s k hl
  obtain ⟨qa, hqa⟩ : ∃ z : Int, (q.at_ : Int) = z := ⟨_, rfl⟩
  obtain ⟨qw, hqw⟩ : ∃ z : Int, (q.w : Int) = z := ⟨_, rfl⟩
  obtain ⟨qr, hqr⟩ : ∃ z : Int, (q.r : Int) = z := ⟨_, rfl⟩
  have hqv : q.v = .agg #[.int .i64 qa, .int .i64 qw, .int .i32 qr, .bool q.b] := by rw [← hqa, ← hqw, ← hqr]; rfl
  rw [hqv] at hP1 hP2
  obtain ⟨P, d, f, bo, hQ1, hQ2, hfb⟩ := place_same s k hl
  obtain ⟨p1, hp1⟩ : ∃ z : Int, (P.byte : Int) = z := ⟨_, rfl⟩
  obtain ⟨p2, hp2⟩ : ∃ z : Int, (P.rune : Int) = z := ⟨_, rfl⟩
  obtain ⟨p3, hp3⟩ : ∃ z : Int, (P.unit : Int) = z := ⟨_, rfl⟩
  obtain ⟨p4, hp4⟩ : ∃ z : Int, (P.line : Int) = z := ⟨_, rfl⟩
  obtain ⟨p5, hp5⟩ : ∃ z : Int, (P.col : Int) = z := ⟨_, rfl⟩
  have hPc : P.cs.toArray = #[.int .i64 p1, .int .i64 p2, .int .i64 p3, .int .i64 p4, .int .i64 p5] := by rw [← hp1, ← hp2, ← hp3, ← hp4, ← hp5]; rfl
  rw [hPc] at hQ1 hQ2
  (try (refine st_O29_3 ?_; intros))
  refine w_callF Try.func22 ?_ (hs := hP1 _ _ _ _ hp)
  rintro v m10 H1 ⟨hle10, rfl, rfl⟩
  replace hp := hp.le hle10
  replace hb4 := hle10 _ _ hb4
  replace hle := hle.trans hle10
  (refine st_O29_3 ?_; intros; rename_i b17)
  refine w_callF Try.func65 ?_ (hs := hP2 _ _ _)
  rintro v m10 H1 ⟨rfl, rfl, rfl⟩
  (refine st_O29_3 ?_; intros; rename_i b19)
  refine w_callF Try.func24 ?_ (hs := rune_any _ _ _ hp)
  rintro v m11 H1 ⟨hle11, rfl, rfl⟩
  replace hp := hp.le hle11
  replace hb4 := hle11 _ _ hb4
  replace hle := hle.trans hle11
  (try (refine st_O29_3 ?_; intros))
  refine w_callF Try.func29 ?_ (hs := hQ1 _ _ _ _ hp)
  rintro v m12 H1 ⟨hle12, rfl, rfl⟩
  replace hb4 := hle12 _ _ hb4
  replace hle := hle.trans hle12
  (refine st_O29_3 ?_; intros; rename_i b25)
  refine w_callF Try.func67 ?_ (hs := hQ2 _ _ _)
  rintro v m12 H1 ⟨rfl, rfl, rfl⟩
  rcases hfb with ⟨rfl, rfl⟩ | ⟨rfl, rfl⟩
  · have hbo : (true == dcd ((0 : Int) = 0)) = true := by rw [dcd_true (p := (0 : Int) = 0) rfl]; rfl
    (refine st_O29_3 ?_; intros; rename_i b28)
    refine WQ.heapX (H' := .blk D3 (.deferred (some [])) :: .blk D2 (.deferred (some [])) :: .blk D1 (.deferred (some [])) :: .blk b6 (.cells [.bool true].toArray 4 (0, 0)) :: H) zpk ?_
    refine WQ.marks (ds := [D3, D2, D1]) (H1 := .blk b6 (.cells [.bool true].toArray 4 (0, 0)) :: H) (List.Perm.refl _) ?_
    exact q_fin0 (H0 := H) ⟨hle, rfl, rfl⟩ (hd := zpk)
  · have hbo : (false == dcd ((5 : Int) = 0)) = true := by rw [dcd_false (p := (5 : Int) = 0) (by decide)]; rfl
    (refine st_O29_3 ?_; intros; rename_i b28)
    rw [dcd_true (p := (5 : Int) = 5) rfl]
    refine WQ.heapX (H' := .blk D3 (.deferred (some [])) :: .blk D2 (.deferred (some [])) :: .blk D1 (.deferred (some [])) :: .blk b6 (.cells [.bool true].toArray 4 (0, 0)) :: H) zpk ?_
    refine WQ.marks (ds := [D3, D2, D1]) (H1 := .blk b6 (.cells [.bool true].toArray 4 (0, 0)) :: H) (List.Perm.refl _) ?_
    exact q_fin0 (H0 := H) ⟨hle, rfl, rfl⟩ (hd := zpk)
end Go.Proofs.Ytljfncpecpkhhaa

/-
  The walk of the law RopePlays: what it adds. No condition.
-/
namespace Go.Proofs.Ytljfncpecpkhhaa
open Go Go.Eng
set_option maxRecDepth 100000
set_option maxHeartbeats 4000000
set_option linter.all false
attribute [local irreducible] WL WC WQ QFun QLoop Does Q1 QRound QAssign Go.Addr.add
def ptrV (b : Nat) : List Value := [.pointer (some ⟨b, 0, none⟩)]
def txtV (s : List UInt8) : List Value := [str s]
theorem addNo_any {b3 b4 : Nat} {e : Int} (he : e ≠ 0) (w0 : World) (m : Mem) (H : SHeap) :
    Does Try.prog 31 #[.pointer none, .int .i64 e, str [], .int .i64 e, .pointer (some ⟨b3, 0, none⟩), .pointer (some ⟨b4, 0, none⟩)] w0 m H (Gives (.bool true) m H) := by
  refine Does.of_body (args := [.pointer none, .int .i64 e, str [], .int .i64 e, .pointer (some ⟨b3, 0, none⟩), .pointer (some ⟨b4, 0, none⟩)]) Try.func31 rfl Try.ntmps31 rfl ?_
  have hnn := isN
  have hee : dcd (e = e) = true := dcd_true rfl
  (try (refine st ?_; intros))
  rw [hee]
  exact q_fin0 (H0 := H) (Gives.mk rfl) (hd := zpk)
theorem addYes_any {b3 b4 pb n : Nat} {s : List UInt8} {a ta : Option Addr} {cap tcap : Nat} {R : List Nat} {T : List (List UInt8)} (hR : R.length = n) (hT : T.length = n) (hn : n ≤ 1000000000) (w0 : World) (m : Mem) (H : SHeap) :
    Does Try.prog 31 #[.pointer (some ⟨pb, 0, none⟩), .int .i64 0, str s, .int .i64 0, .pointer (some ⟨b3, 0, none⟩), .pointer (some ⟨b4, 0, none⟩)] w0 m (.blk b3 (.cells [.slice a n cap].toArray 65 (0, 0)) :: .blk b4 (.cells [.slice ta n tcap].toArray 35 (0, 0)) :: .row a cap 23 1 (R.map ptrV) :: .row ta tcap 9 1 (T.map txtV) :: H)
      (fun v m' H' => m' = m ∧ v = .bool true ∧ ∃ a2 cap2 ta2 tcap2, H' = .blk b3 (.cells [.slice a2 (n + 1) cap2].toArray 65 (0, 0)) :: .blk b4 (.cells [.slice ta2 (n + 1) tcap2].toArray 35 (0, 0)) :: .row a2 cap2 23 1 ((R ++ [pb]).map ptrV) :: .row ta2 tcap2 9 1 ((T ++ [s]).map txtV) :: H) := by
  refine Does.of_body (args := [.pointer (some ⟨pb, 0, none⟩), .int .i64 0, str s, .int .i64 0, .pointer (some ⟨b3, 0, none⟩), .pointer (some ⟨b4, 0, none⟩)]) Try.func31 rfl Try.ntmps31 rfl ?_
  have hnn : (some (⟨pb, 0, none⟩ : Addr)).isNone = false := rfl
  have hl1 : (R.map ptrV).length = n := by simp [hR]
  have hl2 : (T.map txtV).length = n := by simp [hT]
  have e1 : (R ++ [pb]).map ptrV = R.map ptrV ++ [[.pointer (some ⟨pb, 0, none⟩)]] := by rw [List.map_append]; rfl
  have e2 : (T ++ [s]).map txtV = T.map txtV ++ [[str s]] := by rw [List.map_append]; rfl
  rw [e1, e2]
  generalize R.map ptrV = RR at *
  generalize T.map txtV = TT at *
  (try (refine st ?_; intros))
  refine WC.drawE 8 ([.blk b3 (.cells [.slice a n cap].toArray 65 (0, 0)), .blk b4 (.cells [.slice ta n tcap].toArray 35 (0, 0))]) (.row a cap 23 1 RR :: .row ta tcap 9 1 TT :: H) rfl (by decide +kernel) zpk ?_
  (refine cm0 ?_)
  refine WE.act2 2 6 (by decide +kernel) rfl rfl (fun c h => by cases h) rfl rfl (fun c h => by cases h) ?_ ?_
  · (refine st ?_; intros; rename_i z1)
    refine WQ.acted (B := [.blk z1 (.cells [.pointer (some ⟨pb, 0, none⟩)].toArray 23 (0, 0))]) (U := .row a cap 23 1 RR :: .row ta tcap 9 1 TT :: H) rfl (Mem.le.refl _) zpk ?_
    refine WE.act2 3 6 (by decide +kernel) rfl rfl (fun c h => by cases h) rfl rfl (fun c h => by cases h) ?_ ?_
    · (refine st ?_; intros; rename_i a2 cap2)
      refine WQ.acted (B := []) (U := .row a2 cap2 23 1 (RR ++ [[.pointer (some ⟨pb, 0, none⟩)]]) :: .row ta tcap 9 1 TT :: H) rfl (Mem.le.refl _) zpk ?_
      refine WE.act1 6 (by decide +kernel) rfl rfl (fun c h => by cases h) ?_
      (refine st ?_; intros; rename_i z2)
      refine WQ.acted (B := [.blk z2 (.cells [str s].toArray 9 (0, 0))]) (U := .row a2 cap2 23 1 (RR ++ [[.pointer (some ⟨pb, 0, none⟩)]]) :: .row ta tcap 9 1 TT :: H) rfl (Mem.le.refl _) zpk ?_
      refine WE.act1 7 (by decide +kernel) rfl rfl (fun c h => by cases h) ?_
      (refine st ?_; intros; rename_i ta2 tcap2)
      refine WQ.acted (B := []) (U := .row a2 cap2 23 1 (RR ++ [[.pointer (some ⟨pb, 0, none⟩)]]) :: .row ta2 tcap2 9 1 (TT ++ [[str s]]) :: H) rfl (Mem.le.refl _) zpk ?_
      refine WE.done (by decide +kernel) ?_
      (try (refine st ?_; intros))
      rw [hl1, hl2]
      exact q_fin0 (H0 := .blk b3 (.cells [.slice a2 (n + 1) cap2].toArray 65 (0, 0)) :: .blk b4 (.cells [.slice ta2 (n + 1) tcap2].toArray 35 (0, 0)) :: .row a2 cap2 23 1 (RR ++ [[.pointer (some ⟨pb, 0, none⟩)]]) :: .row ta2 tcap2 9 1 (TT ++ [[str s]]) :: H) ⟨rfl, rfl, a2, cap2, ta2, tcap2, rfl⟩ (hd := zpk)
    · (refine st ?_; intros; rename_i z2)
      refine WQ.acted (B := [.blk z2 (.cells [str s].toArray 9 (0, 0))]) (U := .row a cap 23 1 RR :: .row ta tcap 9 1 TT :: H) rfl (Mem.le.refl _) zpk ?_
      refine WE.act1 3 (by decide +kernel) rfl rfl (fun c h => by cases h) ?_
      (refine st ?_; intros; rename_i a2 cap2)
      refine WQ.acted (B := []) (U := .row a2 cap2 23 1 (RR ++ [[.pointer (some ⟨pb, 0, none⟩)]]) :: .row ta tcap 9 1 TT :: H) rfl (Mem.le.refl _) zpk ?_
      refine WE.act1 7 (by decide +kernel) rfl rfl (fun c h => by cases h) ?_
      (refine st ?_; intros; rename_i ta2 tcap2)
      refine WQ.acted (B := []) (U := .row a2 cap2 23 1 (RR ++ [[.pointer (some ⟨pb, 0, none⟩)]]) :: .row ta2 tcap2 9 1 (TT ++ [[str s]]) :: H) rfl (Mem.le.refl _) zpk ?_
      refine WE.done (by decide +kernel) ?_
      (try (refine st ?_; intros))
      rw [hl1, hl2]
      exact q_fin0 (H0 := .blk b3 (.cells [.slice a2 (n + 1) cap2].toArray 65 (0, 0)) :: .blk b4 (.cells [.slice ta2 (n + 1) tcap2].toArray 35 (0, 0)) :: .row a2 cap2 23 1 (RR ++ [[.pointer (some ⟨pb, 0, none⟩)]]) :: .row ta2 tcap2 9 1 (TT ++ [[str s]]) :: H) ⟨rfl, rfl, a2, cap2, ta2, tcap2, rfl⟩ (hd := zpk)
  · (refine st ?_; intros; rename_i z2)
    refine WQ.acted (B := [.blk z2 (.cells [str s].toArray 9 (0, 0))]) (U := .row a cap 23 1 RR :: .row ta tcap 9 1 TT :: H) rfl (Mem.le.refl _) zpk ?_
    refine WE.act1 2 (by decide +kernel) rfl rfl (fun c h => by cases h) ?_
    (refine st ?_; intros; rename_i z1)
    refine WQ.acted (B := [.blk z1 (.cells [.pointer (some ⟨pb, 0, none⟩)].toArray 23 (0, 0))]) (U := .row a cap 23 1 RR :: .row ta tcap 9 1 TT :: H) rfl (Mem.le.refl _) zpk ?_
    refine WE.act1 3 (by decide +kernel) rfl rfl (fun c h => by cases h) ?_
    (refine st ?_; intros; rename_i a2 cap2)
    refine WQ.acted (B := []) (U := .row a2 cap2 23 1 (RR ++ [[.pointer (some ⟨pb, 0, none⟩)]]) :: .row ta tcap 9 1 TT :: H) rfl (Mem.le.refl _) zpk ?_
    refine WE.act1 7 (by decide +kernel) rfl rfl (fun c h => by cases h) ?_
    (refine st ?_; intros; rename_i ta2 tcap2)
    refine WQ.acted (B := []) (U := .row a2 cap2 23 1 (RR ++ [[.pointer (some ⟨pb, 0, none⟩)]]) :: .row ta2 tcap2 9 1 (TT ++ [[str s]]) :: H) rfl (Mem.le.refl _) zpk ?_
    refine WE.done (by decide +kernel) ?_
    (try (refine st ?_; intros))
    rw [hl1, hl2]
    exact q_fin0 (H0 := .blk b3 (.cells [.slice a2 (n + 1) cap2].toArray 65 (0, 0)) :: .blk b4 (.cells [.slice ta2 (n + 1) tcap2].toArray 35 (0, 0)) :: .row a2 cap2 23 1 (RR ++ [[.pointer (some ⟨pb, 0, none⟩)]]) :: .row ta2 tcap2 9 1 (TT ++ [[str s]]) :: H) ⟨rfl, rfl, a2, cap2, ta2, tcap2, rfl⟩ (hd := zpk)
end Go.Proofs.Ytljfncpecpkhhaa

