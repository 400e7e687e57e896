/-
  Parts of a walk, joined. No condition.
-/
import Derived.Test.YtgckeelnhafgaaaGreatDoorP7
import Derived.Lib.Split
import Derived.Lib.AtoiAll
set_option linter.all false
set_option maxRecDepth 100000
set_option maxHeartbeats 4000000
open Go.Proofs Go.Proofs.YtgckeelnhafgaaaGreatDoor
open Tryz
open Go Go.Eng
variable {P : Program} {ro : Option Nat} {n : Nat} {w0 : World} {Q : Exit → Act → World → Prop} {r : Env} {ds : List Dfr} {m : Mem} {H : SHeap} {ops : Array Oper} {l : List Oper} {d : Nat} {ty : TypeId} {pos : String} {after : Array Edge}
namespace Go.Eng
open Go Go.RowKit
def GV (P : Program) (name : String) (cs : Array Value) (m : Mem) : Prop := ∃ g T fz, P.globalNamed name = some g ∧ m g = some (.cells cs T fz)
theorem GV.le {P : Program} {name : String} {cs : Array Value} {m m' : Mem} (h : GV P name cs m) (hm : m.le m') : GV P name cs m' := by
 obtain ⟨g, T, fz, h1, h2⟩ := h
 exact ⟨g, T, fz, h1, hm _ _ h2⟩
theorem GV.var {P : Program} {name : String} {cs : Array Value} {m : Mem} {w0 w : World} {H : SHeap} (h : GV P name cs m) (hs : Sat w0 m H w) : w.var? P name = some cs := by
 obtain ⟨g, T, fz, h1, h2⟩ := h
 simp [World.var?, h1, hs.pers _ _ h2]
theorem GV.of {P : Program} {name : String} {cs : Array Value} {w : World} (h : w.var? P name = some cs) : GV P name cs (memOf w) := by
 unfold World.var? at h
 cases hg : P.globalNamed name with
 | none => rw [hg] at h; cases h
 | some g =>
  rw [hg] at h
  simp only [Option.bind_some] at h
  cases ho : w.heap[g]? with
  | none => rw [ho] at h; cases h
  | some o =>
   rw [ho] at h
   cases o <;> simp at h
   case cells cs' T fz => subst h; exact ⟨g, T, fz, hg, ho⟩
structure GTabs (P : Program) (m : Mem) : Prop where
 pow : GV P "internal/strconv.uint64pow10" (Lib.pow10Tab.map fun z => Value.int .u64 z).toArray m
 brj : GV P "math/bits.deBruijn64tab" (([0, 1, 56, 2, 57, 49, 28, 3, 61, 58, 42, 50, 38, 29, 17, 4, 62, 47, 59, 36, 45, 43, 51, 22, 53, 39, 33, 30, 24, 18, 12, 5, 63, 55, 48, 27, 60, 41, 37, 16, 46, 35, 44, 21, 52, 32, 23, 11, 54, 26, 40, 15, 34, 20, 31, 10, 25, 14, 19, 9, 13, 8, 7, 6] : List Int).map fun z => Value.int .u8 z).toArray m
theorem GTabs.le {P : Program} {m m' : Mem} (h : GTabs P m) (hm : m.le m') : GTabs P m' :=
 ⟨h.pow.le hm, h.brj.le hm⟩
structure GTabsR (P : Program) (m : Mem) : Prop extends GTabs P m where
 rng : ∃ tp p, GV P "strconv.ErrRange" #[.iface tp p] m
theorem GTabsR.le {P : Program} {m m' : Mem} (h : GTabsR P m) (hm : m.le m') : GTabsR P m' :=
 ⟨h.toGTabs.le hm, by obtain ⟨tp, p, h1⟩ := h.rng; exact ⟨tp, p, h1.le hm⟩⟩
theorem zAJ (n : Nat) : Lib.decDigits n = decL n := by
 rw [Lib.decDigits, decL]
 by_cases h : n < 10
 ·rw [dif_pos h, if_pos h]; rfl
 ·rw [dif_neg h, if_neg h, zAJ (n / 10)]; rfl
termination_by n
theorem zMi : ∀ (l : List UInt8) (acc : Nat), (∀ c ∈ l, 48 ≤ c.toNat ∧ c.toNat ≤ 57) → (Lib.parseUint10 acc l = .ok (l.foldl (fun n c => 10 * n + (c.toNat - 48)) acc)) ∨ (Lib.parseUint10 acc l = .range ∧ 18446744073709551616 ≤ l.foldl (fun n c => 10 * n + (c.toNat - 48)) acc)
 | [], acc, _ => .inl rfl
 | c :: r, acc, h => by
  have mono : ∀ (l : List UInt8) (a b : Nat), a ≤ b → a ≤ l.foldl (fun n c => 10 * n + (c.toNat - 48)) b := by
   intro l
   induction l with
   | nil => intro a b h; exact h
   | cons c l ih => intro a b h; exact ih a _ (by show a ≤ 10 * b + (c.toNat - 48); omega)
  rw [Lib.parseUint10, if_pos (h c List.mem_cons_self), List.foldl_cons]
  by_cases h1 : 1844674407370955162 ≤ acc
  ·rw [if_pos h1]
   exact .inr ⟨rfl, mono r _ _ (by omega)⟩
  ·rw [if_neg h1]
   by_cases h2 : 18446744073709551616 ≤ acc * 10 + (c.toNat - 48)
   ·rw [if_pos h2]
    exact .inr ⟨rfl, mono r _ _ (by omega)⟩
   ·rw [if_neg h2, Nat.mul_comm acc 10]
    exact zMi r _ fun q hq => h q (List.mem_cons_of_mem _ hq)
theorem zLv {l : List UInt8} (hl : l ≠ []) (h : ∀ c ∈ l, 48 ≤ c.toNat ∧ c.toNat ≤ 57) : (Lib.atoiAll l = .ok (decV l : Int) ∧ decV l < 9223372036854775808) ∨ (Lib.atoiAll l = .range ∧ 9223372036854775808 ≤ decV l) := by
 cases l with
 | nil => exact absurd rfl hl
 | cons c r =>
  have hc := h c List.mem_cons_self
  have hn : ¬ (c.toNat = 43 ∨ c.toNat = 45) := by omega
  have hn2 : ¬ c.toNat = 45 := by omega
  unfold Lib.atoiAll
  simp only [if_neg hn]
  unfold Lib.parseMag
  rw [if_neg (by simp)]
  have e : (c :: r).foldl (fun n c => 10 * n + (c.toNat - 48)) 0 = decV (c :: r) := rfl
  rcases zMi (c :: r) 0 h with h1 | ⟨h1, h2⟩
  ·rw [h1, e]
   simp only [hn2, not_false_eq_true, true_and, false_and, if_false]
   by_cases h3 : 9223372036854775808 ≤ decV (c :: r)
   ·rw [if_pos h3]; exact .inr ⟨rfl, h3⟩
   ·rw [if_neg h3]; exact .inl ⟨rfl, by omega⟩
  ·rw [h1]
   rw [e] at h2
   exact .inr ⟨rfl, by omega⟩
theorem zLI : ∀ k < 256, Lib.indexByte hexs (UInt8.ofNat k) = hexV (UInt8.ofNat k) := by decide +kernel
theorem zE5 (w : World) (q : Nat) (os : Array Obj) : RowKit.Below w.heap.size w (Sort.grow (w.drewN q) os) :=
 ⟨rfl, rfl, rfl, by first | (simp [Sort.grow]; done) | (simp [Sort.grow]; omega), fun i hi => by
  show ((w.drewN q).heap ++ os)[i]? = _
  rw [Array.getElem?_append_left (by show i < w.heap.size; omega)]
  rfl⟩
theorem zJp (xs : List (List UInt8)) : (xs.map fun x => [str x]).flatten = xs.map str := by
 induction xs with
 | nil => rfl
 | cons z zs ih => rw [List.map_cons, List.flatten_cons, ih]; rfl
end Go.Eng
namespace ZP
open Go Go.Eng
theorem zDu {n : Int} (h : 0 ≤ n ∧ n ≤ 9223372036854775807) {w0 : World} {m : Mem} {H : SHeap} (hg : GTabs Tryz.prog m) : Does Tryz.prog 49 #[.int .i64 n] w0 m H (Gives (str (decL n.toNat)) m H) := by
 refine Does.ofBelow fun w hw => ?_
 refine (zBv n (by omega) h.2 w (hg.pow.var hw)).mono ?_
 rintro e w' ⟨rfl, k, os, rfl⟩
 have e1 : Lib.itoa n = decL n.toNat := by unfold Lib.itoa; rw [if_neg (by omega), zAJ]
 rw [e1]
 exact ⟨rfl, zE5 _ _ _⟩
theorem zNE {t : List UInt8} (hl : t ≠ []) (h : ∀ c ∈ t, 48 ≤ c.toNat ∧ c.toNat ≤ 57) (hs : t.length ≤ 281474976710656) {w0 : World} {m : Mem} {H : SHeap} (hg : GTabsR Tryz.prog m) :
  Does Tryz.prog 129 #[str t] w0 m H (fun v m' H' => m' = m ∧ H' = H ∧ ((decV t < 9223372036854775808 ∧ v = .tuple #[.int .i64 (decV t : Int), .nilIface]) ∨ (9223372036854775808 ≤ decV t ∧ ∃ z T p, v = .tuple #[.int .i64 z, .iface T p]))) := by
 rcases zLv hl h with ⟨h1, h2⟩ | ⟨h1, h2⟩
 ·refine Does.mono (Does.ofBelow (v := .tuple #[.int .i64 (decV t : Int), .nilIface]) fun w hw => ?_) ?_
  ·refine (u5 ⟨t.toArray⟩ (by simp [ByteArray.size]; omega) (decV t : Int) (by simpa using h1) w).mono ?_
   rintro e w' ⟨rfl, (rfl | ⟨x, rfl⟩)⟩
   ·exact ⟨rfl, RowKit.Below.refl _ _⟩
   ·exact ⟨rfl, Lib.bytesWorld_below _ _ _⟩
  ·rintro v m' H' ⟨rfl, rfl, rfl⟩
   exact ⟨rfl, rfl, .inl ⟨h2, rfl⟩⟩
 ·intro w hs'
  obtain ⟨tp, p, hr⟩ := hg.rng
  refine (callsIn_wide.2 (u2 ⟨t.toArray⟩ (by simpa [ByteArray.size] using hs) (by simpa using h1) tp p w (hr.var hs'))).mono ?_
  rintro e w' ⟨N, he, _, _, hb⟩
  exact ⟨_, m, H, he, ⟨rfl, rfl, .inr ⟨h2, _, _, _, rfl⟩⟩, hs'.below_keep hb⟩
theorem zL1 {c : Nat} (hc : c < 256) {w0 : World} {m : Mem} {H : SHeap} : Does Tryz.prog 244 #[str hexs, .int .u8 (c : Int)] w0 m H (Gives (.int .i64 (hexV (UInt8.ofNat c))) m H) := by
 refine Does.ofSame fun w _ => ?_
 have := zK9 ⟨hexs.toArray⟩ (c : Int) w
 rw [← zLI c hc]
 exact this
theorem zDb {s t : List UInt8} (w0 : World) (m : Mem) (H : SHeap) : Does Tryz.prog 61 #[str s, str t] w0 m H (Gives (.bool (Lib.hasPrefix s t)) m H) :=
 Does.ofSame fun w _ => kD ⟨s.toArray⟩ ⟨t.toArray⟩ w
theorem zDE {a : Option Addr} {c : Nat} {t : List UInt8} (w0 : World) (m : Mem) (H : SHeap) : Does Tryz.prog 69 #[.slice a 0 c, str t] w0 m H (Gives (str []) m H) :=
 Does.ofSame fun w _ => vX a c ⟨t.toArray⟩ w
theorem zIN {a : Addr} {c : Nat} {T : TypeId} {xs : List (List UInt8)} {t : List UInt8} {w0 : World} {m : Mem} {H : SHeap} (hm : Item.row (some a) c T 1 (xs.map fun x => [str x]) ∈ H) (hn : xs.length ≤ 140737488355328) (hl : (Lib.join xs t).length ≤ 140737488355328) :
  Does Tryz.prog 69 #[.slice (some a) xs.length c, str t] w0 m H (Gives (str (Lib.join xs t)) m H) := by
 refine Does.ofBelow fun w hw => ?_
 have hr := (RowR.row (w0 := w0) (m := m) hm w hw).2
 have hi := hw.own _ hm
 obtain ⟨arr, fz, h1, h2, h3, h4, _⟩ := hi
 have hx : (xs.map fun x => (⟨x.toArray⟩ : ByteArray)).map (·.data.toList) = xs := by rw [List.map_map]; simp [Function.comp_def]
 have key := jI a.block a.off c (xs.map fun x => ⟨x.toArray⟩) ⟨t.toArray⟩ w (by
  intro j x hj
  rw [List.getElem?_map] at hj
  cases hq : xs[j]? with
  | none => rw [hq] at hj; cases hj
  | some y =>
   rw [hq] at hj
   simp only [Option.map_some, Option.some.injEq] at hj
   subst hj
   have e1 : (xs.map fun x => [str x]).flatten[j]? = some (str y) := by
    rw [zJp, List.getElem?_map, hq]; rfl
   have := hr j _ e1
   rw [w9 (by rw [h1])] at this
   exact this) (Array.getElem?_eq_some_iff.1 h2).1 (by rw [List.length_map]; exact hn) (by rw [List.length_map]; simpa using h4) (by rw [hx]; exact hl)
 rw [hx, List.length_map] at key
 have ea : (⟨a.block, a.off, none⟩ : Addr) = a := by rw [h1]
 rw [ea] at key
 exact key
end ZP
namespace ZP
open Go Go.Eng
attribute [local irreducible] WL WC WQ QFun zJ Does Q1 zD zB Go.Addr.add
theorem zIL (w0 : World) (m : Mem) (H : SHeap) : Does Tryz.prog 202 #[.int .i64 16] w0 m H (Gives (.bool true) m H) := by
 refine Does.of_body func202 rfl ntmps202 rfl ?_
 try (refine st ?_; intros)
 refine WL.and64i rfl rfl rfl (by omega) (by omega) ?_
 try (refine st ?_; intros)
 exact q_fz (Gives.mk (show Value.bool (dcd ((((16 : Int).toNat &&& (16 - 1 : Int).toNat : Nat) : Int) = 0)) = .bool true by rw [zE (by decide)]))
theorem zKz {w0 : World} {m : Mem} {H : SHeap} (hg : GTabs Tryz.prog m) : Does Tryz.prog 225 #[.int .u64 16] w0 m H (Gives (.int .i64 4) m H) := by
 refine Does.of_body func225 rfl ntmps225 rfl ?_
 have h0 : ¬ (16 : Int) = 0 := by decide
 obtain ⟨g, T, fz, h1, h2⟩ := hg.brj
 have hg5 : g = 7 := Option.some.inj (h1.symm.trans (by kernel_rfl))
 subst hg5
 try (refine st ?_; intros)
 refine WL.neg rfl rfl ?_
 rw [show IntKind.u64.wrap (-16) = 18446744073709551600 by decide]
 refine WL.and64u rfl rfl rfl (by omega) (by omega) ?_
 rw [show (((16 : Int).toNat &&& (18446744073709551600 : Int).toNat : Nat) : Int) = 16 by decide]
 refine WL.mul rfl rfl rfl ?_
 rw [show IntKind.u64.wrap (16 * 285870213051353865) = 4573923408821661840 by decide]
 try (refine st ?_; intros)
 refine WL.indexAddrA (i := 15) rfl rfl (by decide) rfl rfl (by omega) rfl rfl ?_
 try (refine st ?_; intros)
 exact q_fz zgm
namespace ZEQFa
theorem zal {G G' : Prop} (next : G') (h : Bx G' → G := by intro zzn; (first | (refine iF 225 rfl ?_; refine zU func225 ?_ (hs := zKz (by assumption)))); (repeat revert zzf); exact zzn.out) : G := h ⟨next⟩
end ZEQFa
open ZEQFa in
theorem zHa {w0 : World} {m : Mem} {H : SHeap} (hg : GTabs Tryz.prog m) : Does Tryz.prog 203 #[.int .u64 16] w0 m H (Gives (.int .i64 4) m H) := by
 refine Does.of_body func203 rfl ntmps203 rfl ?_
 try (refine stg ?_; intros)
 exact q_fz zgm
namespace ZEQFb
theorem zal {G G' : Prop} (next : G') (h : Bx G' → G := by intro zzn; (first | (refine ZEQFa.zal ?_; (repeat intro zzf)) | (refine iF 203 rfl ?_; refine zU func203 ?_ (hs := zHa (by assumption))) | (refine iF 202 rfl ?_; refine zU func202 ?_ (hs := zIL _ _ _))); (repeat revert zzf); exact zzn.out) : G := h ⟨next⟩
end ZEQFb
def digs36 : List UInt8 := [48, 49, 50, 51, 52, 53, 54, 55, 56, 57, 97, 98, 99, 100, 101, 102, 103, 104, 105, 106, 107, 108, 109, 110, 111, 112, 113, 114, 115, 116, 117, 118, 119, 120, 121, 122]
open ZEQFb in
theorem zCy {k : Nat} (h : k < 16) : gb digs36 k = (hexB k).toNat := by
 have all : ∀ i : Fin 16, gb digs36 i.1 = (hexB i.1).toNat := by decide
 exact all ⟨k, h⟩
open ZEQFb in
theorem zJs {L : List Value} {j : Nat} {v : Value} {M : List Value} (h : j < L.length) (hM : L.drop (j + 1) = M) : (L.set j v).drop j = v :: M := by
 rw [List.drop_eq_getElem_cons (by rw [List.length_set]; exact h), List.getElem_set_self, List.drop_set_of_lt (Nat.lt_succ_self j), hM]
open ZEQFb in
theorem zBX (u0 : Nat) (hu : u0 ≤ 1114111) {w0 : World} {m : Mem} {H : SHeap} (hg : GTabs Tryz.prog m) :
  Does Tryz.prog 161 #[.slice none 0 0, .int .u64 (u0 : Int), .int .i64 16, .bool false, .bool false] w0 m H (Gives (.tuple #[.slice none 0 0, str (hexL u0)]) m H) := by
 refine Does.of_body func161 rfl ntmps161 rfl ?_
 refine stg ?_; intros; rename_i bA
 refine WL.sub64u rfl rfl rfl (by omega) ?_
 try (refine stg ?_; intros)
 refine lpz (fun j r ds m' H' => ∃ (u : Nat) (i : Nat) (d : List UInt8) (L : List Value), j = 2 * u ∧ r = [(1, .int .u64 (u : Int)), (13, .int .i64 (i : Int)), (12, .pp bA), (14, .int .u64 4), (15, .int .u64 16), (16, .int .u64 15), (3, .bool false), (4, .bool false), (10, .slice none 0 0)] ∧ ds = [] ∧ m = m' ∧ H' = .blk bA (.cells L.toArray 299 (0, 0)) :: H ∧ (u ≤ 1114111) ∧ (hexL u ++ d = hexL u0) ∧ (i + d.length = 65) ∧ (L.length = 65) ∧ (L.drop i = d.map (fun b => Value.int .u8 (b.toNat : Int)))) (2 * (u0)) ⟨u0, 65, [], List.replicate 65 (Value.int .u8 0), rfl, rfl, rfl, rfl, rfl, hu, List.append_nil _, rfl, rfl, rfl⟩ ?_
 rintro j r ds m' H' ⟨u, i, d, L, rfl, rfl, rfl, rfl, rfl, hu1, hd, hid, hL, hLd⟩
 have hln := congrArg List.length hd
 rw [List.length_append] at hln
 have h6 := uM 5 u0 (by omega)
 have hge := (zE4 u).2.2
 obtain ⟨j, rfl⟩ : ∃ j, i = j + 1 := ⟨i - 1, by omega⟩
 have ei : ((j + 1 : Nat) : Int) - 1 = (j : Int) := by omega
 have hset : ∀ (c : UInt8), (L.set j (.int .u8 (c.toNat : Int))).drop j = (c :: d).map (fun b => Value.int .u8 (b.toNat : Int)) := fun c => by
  rw [List.map_cons]; exact zJs (by omega) hLd
 have hl36 : digs36.length = 36 := rfl
 by_cases h16 : 16 ≤ u
 ·have hx : hexL u = hexL (u / 16) ++ [hexB (u % 16)] := by rw [hexL, if_neg (by omega)]
  have e1 : (u : Int) / 2 ^ 4 = ((u / 16 : Nat) : Int) := by omega
  try (refine stg ?_; intros)
  refine WL.and64u rfl rfl rfl (by omega) (by omega) ?_
  rw [Int.toNat_natCast, show (15 : Int).toNat = 15 from rfl, and15, ei]
  try (refine stg ?_; intros)
  refine WL.indexS (s := digs36) (k := u % 16) rfl rfl rfl rfl rfl (by omega) ?_
  rw [zCy (show u % 16 < 16 by omega)]
  refine WL.indexAddrA (i := j) (q := j) rfl rfl rfl rfl rfl (by omega) rfl (by rw [kF]; congr 1; omega) ?_
  refine WL.store1 rfl rfl rfl rfl (by (repeat (first | exact Repl.here | apply Repl.there))) (by omega) rfl ?_
  try (refine stg ?_; intros)
  rw [e1]
  refine nxz (2 * (u / 16)) ⟨u / 16, j, hexB (u % 16) :: d, L.set j (.int .u8 ((hexB (u % 16)).toNat : Int)), rfl, rfl, rfl, rfl, rfl, ?_, ?_, ?_, ?_, ?_⟩
  ·omega
  ·rw [← hd, hx, List.append_assoc]; rfl
  ·rw [List.length_cons]; omega
  ·rw [List.length_set]; exact hL
  ·exact hset _
 ·have hx : hexL u = [hexB u] := by rw [hexL, if_pos (by omega)]
  rw [hx] at hd
  try (refine stg ?_; intros)
  rw [ei]
  try (refine stg ?_; intros)
  refine WL.indexS (s := digs36) (k := u) rfl rfl rfl rfl rfl (by omega) ?_
  rw [zCy (show u < 16 by omega)]
  refine WL.indexAddrA (i := j) (q := j) rfl rfl rfl rfl rfl (by omega) rfl (by rw [kF]; congr 1; omega) ?_
  refine WL.store1 rfl rfl rfl rfl (by (repeat (first | exact Repl.here | apply Repl.there))) (by omega) rfl ?_
  try (refine stg ?_; intros)
  refine WL.slArrL (q := j) rfl rfl rfl rfl rfl rfl (by omega) ?_
  refine WL.bytesBlkO (s := hexL u0) rfl zhs (by rw [hset, ← hd, List.take_of_length_le (by simp; omega)]; rfl) (by rw [← hd]; simp; omega) rfl rfl rfl rfl rfl ?_
  try (refine stg ?_; intros)
  exact q_fz zgm
namespace ZEQFc
theorem zal {G G' : Prop} (next : G') (h : Bx G' → G := by intro zzn; (first | (refine ZEQFb.zal ?_; (repeat intro zzf)) | (refine iF 161 rfl ?_; refine zU func161 ?_ (hs := zBX _ (by assumption) (by assumption)))); (repeat revert zzf); exact zzn.out) : G := h ⟨next⟩
end ZEQFc
open ZEQFc in
theorem zBU (u0 : Nat) (hu : u0 ≤ 1114111) {w0 : World} {m : Mem} {H : SHeap} (hg : GTabs Tryz.prog m) :
  Does Tryz.prog 115 #[.int .i64 (u0 : Int), .int .i64 16] w0 m H (Gives (str (hexL u0)) m H) := by
 refine Does.of_body func115 rfl ntmps115 rfl ?_
 have e0 : dcd ((u0 : Int) < 0) = false := zH (by omega)
 try (refine stg ?_; intros)
 rw [e0]
 try (refine stg ?_; intros)
 exact q_fz zgm
namespace ZEQFd
theorem zal {G G' : Prop} (next : G') (h : Bx G' → G := by intro zzn; (first | (refine ZEQFc.zal ?_; (repeat intro zzf)) | (refine iF 115 rfl ?_; refine zU func115 ?_ (hs := zBU _ (by assumption) (by assumption)))); (repeat revert zzf); exact zzn.out) : G := h ⟨next⟩
end ZEQFd
open ZEQFd in
theorem zC1 (u0 : Nat) (hu : u0 ≤ 1114111) {w0 : World} {m : Mem} {H : SHeap} (hg : GTabs Tryz.prog m) :
  Does Tryz.prog 165 #[.int .i64 (u0 : Int), .int .i64 16] w0 m H (Gives (str (hexL u0)) m H) := by
 refine Does.of_body func165 rfl ntmps165 rfl ?_
 try (refine stg ?_; intros)
 exact q_fz zgm
end ZP
namespace ZP
open Go Go.Eng
attribute [local irreducible] WL WC WQ QFun zJ Does Q1 zD zB Go.Addr.add
namespace ZEQBa
theorem zal {G G' : Prop} (next : G') (h : Bx G' → G := by intro zzn; (first | (refine iSD rfl ?_; refine WL.sliceData rfl (by assumption) rfl ?_)); (repeat revert zzf); exact zzn.out) : G := h ⟨next⟩
end ZEQBa
open ZEQBa in
theorem zFf {b cap : Nat} {ao a : Option Addr} {t : List UInt8} (hc : a = none ∨ 0 < cap) (hl : t.length ≤ 140737488355328) (w0 : World) (m : Mem) (H : SHeap) :
  Does Tryz.prog 51 #[.pp b] w0 m (.bl b [.pointer ao, .slice a t.length cap] 111 :: .row a cap 5 1 (bCs t) :: H) (Gives (str t) m H) := by
 refine Does.of_body func51 rfl ntmps51 rfl ?_
 have hbl := zS t
 try (refine stg ?_; intros)
 refine wdw 11 ([.bl b [.pointer ao, .slice a t.length cap] 111]) ?_
 refine cmg ?_
 refine wa1 10 ?_
 refine WL.strRow (s := t) rfl rfl (by (repeat (first | exact Out.here | apply Out.there))) rfl (by kernel_rfl) (by omega) rfl ?_
 try (refine stg ?_; intros)
 refine waz [] zml ?_
 refine wdz ?_
 try (refine stg ?_; intros)
 exact q_fz zgm
namespace ZEQBb
theorem zal {G G' : Prop} (next : G') (h : Bx G' → G := by intro zzn; (first | (refine ZEQBa.zal ?_; (repeat intro zzf)) | (refine iConv rfl ?_; refine WL.convu32 rfl rfl rfl rfl (by omega) ?_) | (refine WL.orAnd rfl rfl rfl (by omega) ?_) | (refine iConv rfl ?_; refine WL.convu32 rfl rfl rfl rfl (by omega) ?_) | (refine WL.orAnd rfl rfl rfl (by omega) ?_)); (repeat revert zzf); exact zzn.out) : G := h ⟨next⟩
end ZEQBb
open ZEQBb in
theorem zCO (s t : List UInt8) : bCs s ++ bCs t = bCs (s ++ t) := by simp [bCs]
open ZEQBb in
theorem zHn (s : List UInt8) : ∀ q ∈ bCs s, q.all okCell = true := fun q hq => by
 obtain ⟨c, _, rfl⟩ := List.mem_map.1 hq; rfl
open ZEQBb in
theorem zAG (s : List UInt8) : ∀ q ∈ bCs s, q.length = 1 := fun q hq => by
 obtain ⟨c, _, rfl⟩ := List.mem_map.1 hq; rfl
open ZEQBb in
theorem zCC {a : Option Addr} {cap : Nat} {t : List UInt8} (c : Nat) (hc : okr c) (h128 : 128 ≤ c) (hl : t.length ≤ 16777216) (w0 : World) (m : Mem) (H : SHeap) :
  Does Tryz.prog 228 #[.slice a t.length cap, .int .i32 (c : Int)] w0 m (.row a cap 5 1 (bCs t) :: H) (fun v m' H' => m' = m ∧ ∃ a2 cap2, v = .slice a2 (t ++ fmb c).length cap2 ∧ H' = .row a2 cap2 5 1 (bCs (t ++ fmb c)) :: H) := by
 refine Does.of_body func228 rfl ntmps228 rfl ?_
 have hbl := zS t
 have hbf := zS (fmb c)
 have hfl := xS c
 have hwd := zBB c
 have hc1 := qZ hc
 have hc2 : c < 55296 ∨ 57343 < c := by unfold okr at hc; omega
 by_cases h1 : c ≤ 2047
 ·have hr := rune2 h128 h1
  have hw : wd c = 2 := by unfold wd; rw [if_neg (by omega), if_pos (by omega)]
  refine stg ?_; intros; rename_i b
  refine WL.appendR (es := bCs t) (es' := bCs (fmb c)) (by' := 1) rfl rfl rfl rfl (by (repeat (first | exact Out.here | apply Out.there))) (yZ (T := 5) (fz := (0, 0)) (L := [.int .u8 ((Int.toNat 192 ||| ((c : Int) / 2 ^ 6 % 256).toNat : Nat) : Int), .int .u8 (128 + (c : Int) % 256 % 64)]) zhs (by rw [← hr]; rfl) (zAG _)) (zHn _) (zAG _) rfl rfl rfl rfl hbl.symm (by rw [hbf, hfl, hw]) (by rw [hbl, hbf]; omega) (by omega) rfl ?_
  intro a2 cap2
  rw [zCO, hbl, hbf, ← List.length_append]
  try (refine stg ?_; intros)
  exact q_fz ⟨rfl, a2, cap2, rfl, rfl⟩
 by_cases h2 : c ≤ 65535
 ·have hr := rune3 (c := c) (by omega) h2
  have hw : wd c = 3 := by unfold wd; rw [if_neg (by omega), if_neg (by omega), if_pos (by omega)]
  rcases hc2 with h3 | h3
  all_goals
   refine stg ?_; intros; rename_i b
   refine WL.appendR (es := bCs t) (es' := bCs (fmb c)) (by' := 1) rfl rfl rfl rfl (by (repeat (first | exact Out.here | apply Out.there))) (yZ (T := 5) (fz := (0, 0)) (L := [.int .u8 ((Int.toNat 224 ||| ((c : Int) / 2 ^ 12 % 256).toNat : Nat) : Int), .int .u8 (128 + (c : Int) / 2 ^ 6 % 256 % 64), .int .u8 (128 + (c : Int) % 256 % 64)]) zhs (by rw [← hr]; rfl) (zAG _)) (zHn _) (zAG _) rfl rfl rfl rfl hbl.symm (by rw [hbf, hfl, hw]) (by rw [hbl, hbf]; omega) (by omega) rfl ?_
   intro a2 cap2
   rw [zCO, hbl, hbf, ← List.length_append]
   try (refine stg ?_; intros)
   exact q_fz ⟨rfl, a2, cap2, rfl, rfl⟩
 ·have hr := rune4 (c := c) (by omega) hc1
  have hw : wd c = 4 := by unfold wd; rw [if_neg (by omega), if_neg (by omega), if_neg (by omega)]
  rcases hc2 with h3 | h3
  ·exfalso; omega
  ·refine stg ?_; intros; rename_i b
   refine WL.appendR (es := bCs t) (es' := bCs (fmb c)) (by' := 1) rfl rfl rfl rfl (by (repeat (first | exact Out.here | apply Out.there))) (yZ (T := 5) (fz := (0, 0)) (L := [.int .u8 ((Int.toNat 240 ||| ((c : Int) / 2 ^ 18 % 256).toNat : Nat) : Int), .int .u8 (128 + (c : Int) / 2 ^ 12 % 256 % 64), .int .u8 (128 + (c : Int) / 2 ^ 6 % 256 % 64), .int .u8 (128 + (c : Int) % 256 % 64)]) zhs (by rw [← hr]; rfl) (zAG _)) (zHn _) (zAG _) rfl rfl rfl rfl hbl.symm (by rw [hbf, hfl, hw]) (by rw [hbl, hbf]; omega) (by omega) rfl ?_
   intro a2 cap2
   rw [zCO, hbl, hbf, ← List.length_append]
   try (refine stg ?_; intros)
   exact q_fz ⟨rfl, a2, cap2, rfl, rfl⟩
open ZEQBb in
theorem zBZ {a : Option Addr} {cap : Nat} {t : List UInt8} (c : Nat) (hc : okr c) (hl : t.length ≤ 16777216) (w0 : World) (m : Mem) (H : SHeap) :
  Does Tryz.prog 206 #[.slice a t.length cap, .int .i32 (c : Int)] w0 m (.row a cap 5 1 (bCs t) :: H) (fun v m' H' => m' = m ∧ ∃ a2 cap2, v = .slice a2 (t ++ fmb c).length cap2 ∧ H' = .row a2 cap2 5 1 (bCs (t ++ fmb c)) :: H) := by
 refine Does.of_body func206 rfl ntmps206 rfl ?_
 have hbl := zS t
 have hbf := zS (fmb c)
 have hfl := xS c
 have hc1 := qZ hc
 by_cases h1 : c ≤ 127
 ·have hr := rune1 h1
  have hw : wd c = 1 := by unfold wd; rw [if_pos (by omega)]
  refine stg ?_; intros; rename_i b a2 cap2
  rw [hr, zCO, hbl, show t.length + 1 = (t ++ fmb c).length by rw [List.length_append, hfl, hw]]
  exact q_fz ⟨rfl, a2, cap2, rfl, rfl⟩
 ·try (refine stg ?_; intros)
  refine zA func228 ?_ (hs := zCC c hc (by omega) hl _ _ _)
  rintro v m H1 ⟨rfl, a2, cap2, rfl, rfl⟩
  try (refine stg ?_; intros)
  exact q_fz ⟨rfl, a2, cap2, rfl, rfl⟩
open ZEQBb in
theorem zDc {b cap : Nat} {ao a : Option Addr} {t : List UInt8} (c : Nat) (hc : okr c) (hao : ao = none ∨ ao = some ⟨b, 0, none⟩) (hl : t.length ≤ 16777216) (w0 : World) (m : Mem) (H : SHeap) :
  Does Tryz.prog 164 #[.pp b, .int .i32 (c : Int)] w0 m (.bl b [.pointer ao, .slice a t.length cap] 111 :: .row a cap 5 1 (bCs t) :: H)
   (fun v m' H' => m' = m ∧ Bldr b (t ++ fmb c) H H') := by
 refine Does.of_body func164 rfl ntmps164 rfl ?_
 have hfl := xS c
 have hwd := zBB c
 try (refine stg ?_; intros)
 refine zA func79 ?_ (hs := qQ hao _ _ _)
 rintro v m H1 ⟨rfl, rfl⟩
 try (refine stg ?_; intros)
 refine zN func206 ?_ (hs := zBZ c hc hl _ _ _)
 rintro v m H1 ⟨rfl, a2, cap2, rfl, rfl⟩
 have hbl2 := zS (t ++ fmb c)
 have htl : (t ++ fmb c).length = t.length + wd c := by rw [List.length_append, hfl]
 refine WL.rowCap (a := a2) zhs fun hcap => ?_
 try (refine stg ?_; intros)
 exact q_fz ⟨rfl, some ⟨b, 0, none⟩, a2, cap2, .inr rfl, .inr (by omega), rfl⟩
theorem zAa {b cap : Nat} {ao a : Option Addr} {t : List UInt8} (c : UInt8) (hao : ao = none ∨ ao = some ⟨b, 0, none⟩) (hc : a = none ∨ 0 < cap) (hl : t.length ≤ 16777216) (w0 : World) (m : Mem) (H : SHeap) :
  Does Tryz.prog 163 #[.pp b, .int .u8 (c.toNat : Int)] w0 m (.bl b [.pointer ao, .slice a t.length cap] 111 :: .row a cap 5 1 (bCs t) :: H) (fun v m' H' => m' = m ∧ v = .nilIface ∧ Bldr b (t ++ [c]) H H') := by
 refine Does.of_body func163 rfl ntmps163 rfl ?_
 have hbl := zS t
 have hbl2 := zS (t ++ [c])
 have e : bCs t ++ [[Value.int .u8 (c.toNat : Int)]] = bCs (t ++ [c]) := by simp [bCs]
 have el : (bCs t).length + 1 = (t ++ [c]).length := by rw [hbl]; simp
 have hbl3 : (t ++ [c]).length = t.length + 1 := by simp
 try (refine st ?_; intros)
 refine zA func79 ?_ (hs := qQ hao _ _ _)
 rintro v m H1 ⟨rfl, rfl⟩
 refine st ?_; intros; rename_i q a2 cap2
 rw [e, el]
 refine WQ.rowCap (a := a2) zhs fun hcap => ?_
 exact q_fz ⟨rfl, rfl, some ⟨b, 0, none⟩, a2, cap2, .inr rfl, .inr (by omega), rfl⟩
end ZP
namespace Go.Eng
open Go
theorem zC4 {s : List UInt8} {k : Nat} (hk : k < s.length) : (zK s k).b = true ↔ (zK s k).r = 65533 ∧ Lib.hasPrefix (s.drop k) [239, 191, 189] = false := by
 have hp : Lib.hasPrefix (s.drop k) [239, 191, 189] = true ↔ begins (s.drop k) 65533 := by
  unfold Lib.hasPrefix
  rw [List.isPrefixOf_iff_prefix, List.prefix_iff_eq_take, qI _ _ (by decide)]
  rw [show wd 65533 = 3 by decide, show fmb 65533 = [239, 191, 189] by decide]
  exact eq_comm
 have hok : okr 65533 := by right; decide
 unfold zK
 split
 ·rename_i h
  simp only [true_and, true_iff]
  cases h2 : Lib.hasPrefix (s.drop k) [239, 191, 189] with
  | false => rfl
  | true =>
   have := uY hok (hp.1 h2)
   rw [this] at h
   exact absurd h (by decide)
 ·rename_i h
  constructor
  ·intro h2; cases h2
  ·rintro ⟨h1, h2⟩
   exfalso
   rcases vZ (s.drop k) (by simp; omega) with ⟨_, _, h3⟩ | ⟨h3, _⟩
   ·simp only at h1
    rw [h1] at h3
    rw [hp.2 h3] at h2
    cases h2
   ·exact h h3
theorem zFX {n : Nat} (h : n < 16) : (hexs.take (n + 1)).drop n = [hexB n] := by
 have all : ∀ i : Fin 16, (hexs.take (i.1 + 1)).drop i.1 = [hexB i.1] := by decide
 exact all ⟨n, h⟩
end Go.Eng
namespace ZP
open Go Go.Eng
attribute [local irreducible] WL WC WQ QFun zJ Does Q1 zD zB Go.Addr.add
attribute [local irreducible] zK zC dl xD zL xX Utf8.encode
namespace ZEQ2a
theorem zal {G G' : Prop} (next : G') (h : Bx G' → G := by intro zzn; (first | (refine iF 61 rfl ?_; refine zU func61 ?_ (hs := zDb _ _ _)) | (refine iF 165 rfl ?_; refine zU func165 ?_ (hs := zC1 _ (by assumption) (by assumption)))); (repeat revert zzf); exact zzn.out) : G := h ⟨next⟩
end ZEQ2a
open ZEQ2a in
theorem zEC (s : List UInt8) (hs : s.length ≤ 1048576) {w0 : World} {m : Mem} {H : SHeap} (hg : GTabs Tryz.prog m) :
  Does Tryz.prog 119 #[str s] w0 m H (Gives (str (yG s)) m H) := by
 refine Does.of_body func119 rfl ntmps119 rfl ?_
 refine WC.newRow (T := 5) (sz := 1) ?_
 have hp0 : zC s = xD s 0 := by unfold zC; rfl
 refine stg ?_; intros; rename_i bB
 refine zA func163 ?_ (hs := zAa (t := []) 34 (.inl rfl) (.inl rfl) (by simp) _ _ _)
 rintro v m H1 ⟨rfl, rfl, ao, a9, c9, hao, hc9, rfl⟩
 refine stg ?_; intros; rename_i bi
 refine lpz (fun j r ds m' H' => ∃ (k : Nat) (ao : Option Addr) (a9 : Option Addr) (c9 : Nat) (n9 : Nat) (O : List UInt8), j = s.length - k ∧ r = [(0, str s), (3, .pp bB), (9, .pp bi)] ∧ ds = [] ∧ m = m' ∧ H' = .blk bi (.stringIter ⟨s.toArray⟩ k) :: .bl bB [.pointer ao, .slice a9 n9 c9] 111 :: .row a9 c9 5 1 (bCs O) :: H ∧ (n9 = O.length) ∧ (ao = none ∨ ao = some ⟨bB, 0, none⟩) ∧ (a9 = none ∨ 0 < c9) ∧ (k ≤ s.length) ∧ (O.length ≤ 1 + 12 * k) ∧ ([34] ++ xX s (zC s) = O ++ xX s (xD s k))) (s.length - (0)) ⟨0, ao, a9, c9, 1, [34], rfl, rfl, rfl, rfl, rfl, rfl, hao, hc9, Nat.zero_le _, by simp, by rw [hp0]⟩ ?_
 rintro j r ds m' H' ⟨k, ao, a9, c9, n9, O, rfl, rfl, rfl, rfl, rfl, hn9, hao, hc9, hk, hOl, hO⟩
 subst hn9
 by_cases hlt : k < s.length
 ·have hw := wQ hlt
  have hok := jZ hlt
  have hrl := qZ hok
  have hat := vJ s k
  have hdl : (dl (s.drop k)).1 = (zK s k).r := (qD s k).symm
  have hdw : (dl (s.drop k)).2 = (zK s k).w := (qG s k).symm
  have hbp := zC4 hlt
  have hW := qJ s (zK s k) hrl
  have hnext : [34] ++ xX s (zC s) = (O ++ zL s (zK s k)) ++ xX s (xD s (k + (zK s k).w)) := by
   rw [hO, yQ hlt]; unfold xX; rw [List.flatMap_cons, List.append_assoc]
  have hnl : (O ++ zL s (zK s k)).length = O.length + (zL s (zK s k)).length := List.length_append
  generalize hP : zK s k = p at *
  cases hb : p.b with
  | true =>
   obtain ⟨hr, hpre⟩ := hbp.1 hb
   have hr2 : ((dl (s.drop k)).1 : Int) = 65533 := by rw [hdl, hr]; rfl
   have hw1 : zL s p = [92, 120, hexB (gb s k / 16), hexB (gb s k % 16)] := by unfold zL; rw [if_pos hb, hat]
   have hgl := zIz s k
   have hand : ((gb s k : Int).toNat &&& (15 : Int).toNat) = gb s k % 16 := and15 _
   have hsh : (gb s k : Int) / 2 ^ 4 = ((gb s k / 16 : Nat) : Int) := by omega
   have hl16 : ([48, 49, 50, 51, 52, 53, 54, 55, 56, 57, 97, 98, 99, 100, 101, 102] : List UInt8).length = 16 := rfl
   have hc1 : ([48, 49, 50, 51, 52, 53, 54, 55, 56, 57, 97, 98, 99, 100, 101, 102].take (gb s k / 16 + 1)).drop (gb s k / 16) = [hexB (gb s k / 16)] := zFX (by omega)
   have hc2 : ([48, 49, 50, 51, 52, 53, 54, 55, 56, 57, 97, 98, 99, 100, 101, 102].take (gb s k % 16 + 1)).drop (gb s k % 16) = [hexB (gb s k % 16)] := zFX (by omega)
   have hl2 : ([92, 120] : List UInt8).length = 2 := rfl
   have hl3 : ([92, 120] ++ [hexB (gb s k / 16)] : List UInt8).length = 3 := rfl
   have hl4 : [hexB (gb s k / 16)].length = 1 := rfl
   have hl5 : [hexB (gb s k % 16)].length = 1 := rfl
   have hpre2 : (!Lib.hasPrefix (s.drop k) [239, 191, 189]) = true := by rw [hpre]; rfl
   try (refine stg ?_; intros)
   refine wdw 15 ([.blk bi (.stringIter ⟨s.toArray⟩ (k + (dl (List.drop k s)).2))]) ?_
   refine cmg ?_
   rw [hsh, hand]
   refine cmg ?_
   rw [hc1, hc2]
   refine cmg ?_
   refine cmg ?_
   refine wa1 14 ?_
   try (refine stg ?_; intros)
   rw [show [92, 120] ++ [hexB (gb s k / 16)] ++ [hexB (gb s k % 16)] = zL s p by rw [hw1]; rfl]
   refine WL.heap (H' := .bl bB [.pointer ao, .slice a9 O.length c9] 111 :: .row a9 c9 5 1 (bCs O) :: .blk bi (.stringIter ⟨s.toArray⟩ (k + (dl (List.drop k s)).2)) :: H) zpk ?_
   refine zA func48 ?_ (hs := zM (t := O) (s := zL s p) hao hc9 (by unfold FitsB; omega) _ _ _)
   rintro v m H1 ⟨rfl, rfl, ao, a8, c8, hao, hc8, rfl⟩
   try (refine stg ?_; intros)
   refine waz [] zml ?_
   refine wdz ?_
   try (refine stg ?_; intros)
   rw [hdw]
   refine nxz (s.length - (k + p.w)) ⟨k + p.w, ao, a8, c8, (O ++ zL s p).length, O ++ zL s p, rfl, rfl, rfl, rfl, rfl, ?_, ?_, ?_, ?_, ?_, ?_⟩
   ·rfl
   ·exact hao
   ·exact hc8
   ·omega
   ·omega
   ·exact hnext
  | false =>
   have hpre : ¬ (p.r = 65533 ∧ Lib.hasPrefix (s.drop k) [239, 191, 189] = false) := fun h => by rw [hbp.2 h] at hb; cases hb
   by_cases h34 : p.r = 34 ∨ p.r = 92
   ·have hw1 : zL s p = [92, UInt8.ofNat p.r] := by unfold zL; rw [if_neg (by rw [hb]; decide), if_pos h34]
    have hef : fmb p.r = [UInt8.ofNat p.r] := by unfold fmb fm; rw [if_pos (by omega)]; rfl
    have hen : (Utf8.encode ((dl (List.drop k s)).1 : Int)).data.toList = [UInt8.ofNat p.r] := by rw [hdl, zAb, zHQ hok, hef]
    have hl2 : ([92] : List UInt8).length = 1 := rfl
    have hl1 : ([UInt8.ofNat p.r] : List UInt8).length = 1 := rfl
    rcases h34 with h34 | h34
    all_goals
     have hr2 : ((dl (List.drop k s)).1 : Int) = p.r := by rw [hdl]
     have hel : (Utf8.encode ((dl (List.drop k s)).1 : Int)).data.toList.length = 1 := by rw [hen]; rfl
     try (refine stg ?_; intros)
     rw [hen, show [92] ++ [UInt8.ofNat p.r] = zL s p by rw [hw1]; rfl]
     refine WL.heap (H' := .bl bB [.pointer ao, .slice a9 O.length c9] 111 :: .row a9 c9 5 1 (bCs O) :: .blk bi (.stringIter ⟨s.toArray⟩ (k + (dl (List.drop k s)).2)) :: H) zpk ?_
     refine zA func48 ?_ (hs := zM (t := O) (s := zL s p) hao hc9 (by unfold FitsB; omega) _ _ _)
     rintro v m H1 ⟨rfl, rfl, ao, a8, c8, hao, hc8, rfl⟩
     try (refine stg ?_; intros)
     rw [hdw]
     refine nxz (s.length - (k + p.w)) ⟨k + p.w, ao, a8, c8, (O ++ zL s p).length, O ++ zL s p, rfl, rfl, rfl, rfl, rfl, ?_, ?_, ?_, ?_, ?_, ?_⟩
     ·rfl
     ·exact hao
     ·exact hc8
     ·omega
     ·omega
     ·exact hnext
   ·have hr34 : ¬ ((dl (List.drop k s)).1 : Int) = 34 := by omega
    have hr92 : ¬ ((dl (List.drop k s)).1 : Int) = 92 := by omega
    by_cases h32 : 32 ≤ p.r ∧ p.r ≤ 126
    ·have hw1 : zL s p = [UInt8.ofNat p.r] := by unfold zL; rw [if_neg (by rw [hb]; decide), if_neg h34, if_pos h32]
     have hef : zL s p = fmb (dl (List.drop k s)).1 := by rw [hw1, hdl]; unfold fmb fm; rw [if_pos (by omega)]; rfl
     have hok2 : okr (dl (List.drop k s)).1 := by rw [hdl]; exact hok
     have g1 : (32 : Int) ≤ ((dl (List.drop k s)).1 : Int) := by omega
     have g2 : ((dl (List.drop k s)).1 : Int) ≤ 126 := by omega
     try (refine stg ?_; intros)
     refine WL.heap (H' := .bl bB [.pointer ao, .slice a9 O.length c9] 111 :: .row a9 c9 5 1 (bCs O) :: .blk bi (.stringIter ⟨s.toArray⟩ (k + (dl (List.drop k s)).2)) :: H) zpk ?_
     refine zA func164 ?_ (hs := zDc (t := O) (dl (List.drop k s)).1 hok2 hao (by omega) _ _ _)
     rintro v m H1 ⟨rfl, ao, a8, c8, hao, hc8, rfl⟩
     rw [← hef]
     try (refine stg ?_; intros)
     rw [hdw]
     refine nxz (s.length - (k + p.w)) ⟨k + p.w, ao, a8, c8, (O ++ zL s p).length, O ++ zL s p, rfl, rfl, rfl, rfl, rfl, ?_, ?_, ?_, ?_, ?_, ?_⟩
     ·rfl
     ·exact hao
     ·exact hc8
     ·omega
     ·omega
     ·exact hnext
    ·have hw1 : zL s p = [92, 123] ++ hexL p.r ++ [125] := by unfold zL; rw [if_neg (by rw [hb]; decide), if_neg h34, if_neg h32]
     have hu : (dl (List.drop k s)).1 ≤ 1114111 := by omega
     have hx5 := uM 5 (dl (List.drop k s)).1 (by omega)
     have l2 : ([92, 123] : List UInt8).length = 2 := rfl
     have l3 : ([92, 123] ++ hexL (dl (List.drop k s)).1).length = 2 + (hexL (dl (List.drop k s)).1).length := by rw [List.length_append]; rfl
     have l1 : ([125] : List UInt8).length = 1 := rfl
     have ex : [92, 123] ++ hexL (dl (List.drop k s)).1 ++ [125] = zL s p := by rw [hw1, hdl]
     have hpf : p.r = 65533 → (!Lib.hasPrefix (s.drop k) [239, 191, 189]) = false := fun h => by
      cases h2 : Lib.hasPrefix (s.drop k) [239, 191, 189] with
      | true => rfl
      | false => exact absurd ⟨h, h2⟩ hpre
     rcases (show p.r < 32 ∨ (126 < p.r ∧ p.r ≠ 65533) ∨ p.r = 65533 by omega) with g1 | g1 | g1
     ·have g2 : ¬ (32 : Int) ≤ ((dl (List.drop k s)).1 : Int) := by omega
      have g3 : ¬ ((dl (List.drop k s)).1 : Int) = 65533 := by omega
      try (refine stg ?_; intros)
      rw [ex]
      refine WL.heap (H' := .bl bB [.pointer ao, .slice a9 O.length c9] 111 :: .row a9 c9 5 1 (bCs O) :: .blk bi (.stringIter ⟨s.toArray⟩ (k + (dl (List.drop k s)).2)) :: H) zpk ?_
      refine zA func48 ?_ (hs := zM (t := O) (s := zL s p) hao hc9 (by unfold FitsB; omega) _ _ _)
      rintro v m H1 ⟨rfl, rfl, ao, a8, c8, hao, hc8, rfl⟩
      try (refine stg ?_; intros)
      rw [hdw]
      refine nxz (s.length - (k + p.w)) ⟨k + p.w, ao, a8, c8, (O ++ zL s p).length, O ++ zL s p, rfl, rfl, rfl, rfl, rfl, ?_, ?_, ?_, ?_, ?_, ?_⟩
      ·rfl
      ·exact hao
      ·exact hc8
      ·omega
      ·omega
      ·exact hnext
     ·have g2 : ¬ ((dl (List.drop k s)).1 : Int) ≤ 126 := by omega
      have g3 : ¬ ((dl (List.drop k s)).1 : Int) = 65533 := by omega
      try (refine stg ?_; intros)
      rw [ex]
      refine WL.heap (H' := .bl bB [.pointer ao, .slice a9 O.length c9] 111 :: .row a9 c9 5 1 (bCs O) :: .blk bi (.stringIter ⟨s.toArray⟩ (k + (dl (List.drop k s)).2)) :: H) zpk ?_
      refine zA func48 ?_ (hs := zM (t := O) (s := zL s p) hao hc9 (by unfold FitsB; omega) _ _ _)
      rintro v m H1 ⟨rfl, rfl, ao, a8, c8, hao, hc8, rfl⟩
      try (refine stg ?_; intros)
      rw [hdw]
      refine nxz (s.length - (k + p.w)) ⟨k + p.w, ao, a8, c8, (O ++ zL s p).length, O ++ zL s p, rfl, rfl, rfl, rfl, rfl, ?_, ?_, ?_, ?_, ?_, ?_⟩
      ·rfl
      ·exact hao
      ·exact hc8
      ·omega
      ·omega
      ·exact hnext
     ·have g2 : ¬ ((dl (List.drop k s)).1 : Int) ≤ 126 := by omega
      have g3 : ((dl (List.drop k s)).1 : Int) = 65533 := by omega
      have g4 := hpf g1
      try (refine stg ?_; intros)
      rw [ex]
      refine WL.heap (H' := .bl bB [.pointer ao, .slice a9 O.length c9] 111 :: .row a9 c9 5 1 (bCs O) :: .blk bi (.stringIter ⟨s.toArray⟩ (k + (dl (List.drop k s)).2)) :: H) zpk ?_
      refine zA func48 ?_ (hs := zM (t := O) (s := zL s p) hao hc9 (by unfold FitsB; omega) _ _ _)
      rintro v m H1 ⟨rfl, rfl, ao, a8, c8, hao, hc8, rfl⟩
      try (refine stg ?_; intros)
      rw [hdw]
      refine nxz (s.length - (k + p.w)) ⟨k + p.w, ao, a8, c8, (O ++ zL s p).length, O ++ zL s p, rfl, rfl, rfl, rfl, rfl, ?_, ?_, ?_, ?_, ?_, ?_⟩
      ·rfl
      ·exact hao
      ·exact hc8
      ·omega
      ·omega
      ·exact hnext
 ·have ek : k = s.length := by omega
  rw [xZ hlt] at hO
  have hq : O ++ [34] = yG s := by unfold yG; rw [hO]; unfold xX; simp
  try (refine stg ?_; intros)
  refine zA func163 ?_ (hs := zAa (t := O) 34 hao hc9 (by omega) _ _ _)
  rintro v m H1 ⟨rfl, rfl, ao, a8, c8, hao, hc8, rfl⟩
  rw [hq]
  have hql := wS s
  try (refine stg ?_; intros)
  refine zA func51 ?_ (hs := zFf (t := yG s) hc8 (by omega) _ _ _)
  rintro v m H1 ⟨rfl, rfl, rfl⟩
  try (refine stg ?_; intros)
  exact q_fz zgm
end ZP
namespace ZP
open Go Go.Eng
attribute [local irreducible] WL WC WQ QFun zJ Does Q1 zD zB Go.Addr.add
attribute [local irreducible] xQ zT
theorem zBR {a : Option Addr} {cap : Nat} {l : List Stp} (hf : Fit l) (w0 : World) (m : Mem) (H : SHeap) (hr : RowR w0 m H 3 a (l.map Stp.cs)) :
  Does Tryz.prog 118 #[.slice a l.length cap] w0 m H (Gives (szP (zT l)) m H) := by
 refine Does.of_body func118 rfl ntmps118 rfl ?_
 have hln : (l.map Stp.cs).length = l.length := by simp
 have hlen := hf.len
 try (refine st ?_; intros)
 refine lpz (fun j r ds m' H' => ∃ (i : _) (f : Int) (t : Int), j = l.length - i ∧ r = [(12, .int .i64 (i : Int)), (11, .int .i64 (l.length : Int)), (10, .slice a l.length cap), (5, .int .i64 f), (6, .int .i64 t)] ∧ ds = [] ∧ m = m' ∧ H' = H ∧ (i ≤ l.length) ∧ (0 ≤ f ∧ f ≤ 65536 ∧ 0 ≤ t ∧ t ≤ 65536) ∧ (xQ (l.drop i) f t = zT l) ∧ (RowR w0 m H 3 a (l.map Stp.cs))) (l.length - (0)) ⟨0, 0, 0, rfl, rfl, rfl, rfl, rfl, by omega, by omega, by rw [zT]; rfl, hr⟩ ?_
 rintro j r ds m' H' ⟨i, f, t, rfl, rfl, rfl, rfl, rfl, hi, hn, hs, hr⟩
 generalize H' = H at *
 by_cases hlt : i < l.length
 ·obtain ⟨x, hx, hget, htk, hmem, hdr⟩ := zBj (f := Stp.cs) hlt
  have hk := hf.k x hmem
  have hd := hf.d x hmem
  have hp := hf.p x hmem
  rw [hdr] at hs
  refine WC.rSome hr (by omega) ?_
  rintro a0 rfl
  have hdl : x.d = [] → x.d.length = 0 := fun h => by rw [h]; rfl
  have hpl : x.p = [] → x.p.length = 0 := fun h => by rw [h]; rfl
  by_cases h1 : x.k = 0 <;> by_cases h2 : x.d = [] <;> by_cases h3 : x.p = []
  ·rw [zW (fun h => by simp [yL, h1, h2, h3] at h)] at hs
   try (refine st ?_; intros)
   exact q_fz (Gives.mk (by rw [← hs]; try rfl))
  ·have hok : yL x := .inr (.inr ⟨h1, h2, h3⟩)
   have h2' := hdl h2
   by_cases h4 : t + (x.k + (x.p.length : Int)) ≤ 65536
   ·rw [wI hok (by omega) (by omega) (by omega)] at hs
    try (refine st ?_; intros)
    refine nxz (l.length - (i + 1)) ⟨i + 1, _, _, rfl, rfl, rfl, rfl, rfl, ?_, ?_, ?_, ?_⟩
    ·omega
    ·omega
    ·rw [← hs]; congr 1 <;> omega
    ·assumption
   ·rw [zW (by omega)] at hs
    try (refine st ?_; intros)
    exact q_fz (Gives.mk (by rw [← hs]; try rfl))
  ·have hok : yL x := .inr (.inl ⟨h1, h2, h3⟩)
   have h3' := hpl h3
   by_cases h4 : f + (x.k + (x.d.length : Int)) ≤ 65536
   ·rw [wI hok (by omega) (by omega) (by omega)] at hs
    try (refine st ?_; intros)
    refine nxz (l.length - (i + 1)) ⟨i + 1, _, _, rfl, rfl, rfl, rfl, rfl, ?_, ?_, ?_, ?_⟩
    ·omega
    ·omega
    ·rw [← hs]; congr 1 <;> omega
    ·assumption
   ·rw [zW (by omega)] at hs
    try (refine st ?_; intros)
    exact q_fz (Gives.mk (by rw [← hs]; try rfl))
  ·rw [zW (fun h => by simp [yL, h1, h2, h3] at h)] at hs
   try (refine st ?_; intros)
   exact q_fz (Gives.mk (by rw [← hs]; try rfl))
  ·have h2' := hdl h2
   have h3' := hpl h3
   by_cases h5 : x.k < 0
   ·rw [zW (fun h => by rcases h.1 with g | g | g <;> omega)] at hs
    try (refine st ?_; intros)
    exact q_fz (Gives.mk (by rw [← hs]; try rfl))
   ·by_cases h6 : 65536 < x.k
    ·rw [zW (by omega)] at hs
     try (refine st ?_; intros)
     exact q_fz (Gives.mk (by rw [← hs]; try rfl))
    ·have hok : yL x := .inl ⟨by omega, h2, h3⟩
     by_cases h4 : f + (x.k + (x.d.length : Int)) ≤ 65536
     ·by_cases h7 : t + (x.k + (x.p.length : Int)) ≤ 65536
      ·rw [wI hok (by omega) (by omega) (by omega)] at hs
       try (refine st ?_; intros)
       refine nxz (l.length - (i + 1)) ⟨i + 1, _, _, rfl, rfl, rfl, rfl, rfl, ?_, ?_, ?_, ?_⟩
       ·omega
       ·omega
       ·rw [← hs]; congr 1 <;> omega
       ·assumption
      ·rw [zW (by omega)] at hs
       try (refine st ?_; intros)
       exact q_fz (Gives.mk (by rw [← hs]; try rfl))
     ·rw [zW (by omega)] at hs
      try (refine st ?_; intros)
      exact q_fz (Gives.mk (by rw [← hs]; try rfl))
  all_goals
   rw [zW (fun h => by simp [yL, h1, h2, h3] at h)] at hs
   try (refine st ?_; intros)
   exact q_fz (Gives.mk (by rw [← hs]; try rfl))
 ·obtain rfl : i = l.length := by omega
  rw [List.drop_length, xQ] at hs
  try (refine st ?_; intros)
  exact q_fz (Gives.mk (by rw [← hs]; try rfl))
end ZP
namespace ZP
open Go Go.Eng
attribute [local irreducible] WL WC WQ QFun zJ Does Q1 zD zB Go.Addr.add
theorem zDR {b : Nat} {c : Option Addr} {cp : Nat} (B : Bld) (hB : B.l.length ≤ 1000000000000) (w0 : World) (m : Mem) (H : SHeap) :
  Does Tryz.prog 227 #[.pp b] w0 m (.bl b [.slice c B.l.length cp, str B.p, str B.d] 301 :: .row c cp 153 3 (B.l.map Stp.cs) :: H)
   (fun v m' H' => v = .tuple #[] ∧ m' = m ∧ ∃ c' cp', H' = .bl b [.slice c' B.close.l.length cp', str [], str []] 301 :: .row c' cp' 153 3 (B.close.l.map Stp.cs) :: H) := by
 refine Does.of_body func227 rfl ntmps227 rfl ?_
 have hml : (B.l.map Stp.cs).length = B.l.length := by simp
 by_cases hp : B.p = [] <;> by_cases hd : B.d = []
 ·try (refine st ?_; intros)
  have e : B.close.l = B.l := by simp [Bld.close, hp, hd]
  rw [hp, hd]
  exact q_nz (H0 := .bl b [.slice c B.l.length cp, str [], str []] 301 :: .row c cp 153 3 (B.l.map Stp.cs) :: H) ⟨rfl, rfl, c, cp, by rw [e]⟩
 ·try (refine st ?_; intros)
  refine wdw 14 ([.bl b [.slice c B.l.length cp, str B.p, str B.d] 301]) ?_
  refine cm0 ?_
  refine wa1 10 ?_
  refine st ?_; intros; rename_i q0
  refine waz [] zml ?_
  refine wa1 11 ?_
  refine st ?_; intros; rename_i c2 cp2
  refine waz [] zml ?_
  refine cm0 ?_
  refine wdz ?_
  try (refine st ?_; intros)
  rw [hml, hp]
  have e : B.close.l = B.l ++ [⟨0, B.d, []⟩] := by simp [Bld.close, hp, hd]
  exact q_nz (H0 := .bl b [.slice c2 (B.l.length + 1) cp2, str [], str []] 301 :: .row c2 cp2 153 3 (B.l.map Stp.cs ++ [[.int .i64 0, str B.d, str []]]) :: H) ⟨rfl, rfl, c2, cp2, by rw [e]; simp [Stp.cs]⟩
 ·try (refine st ?_; intros)
  refine wdw 14 ([.bl b [.slice c B.l.length cp, str B.p, str B.d] 301]) ?_
  refine cm0 ?_
  refine wa1 10 ?_
  refine st ?_; intros; rename_i q0
  refine waz [] zml ?_
  refine wa1 11 ?_
  refine st ?_; intros; rename_i c2 cp2
  refine waz [] zml ?_
  refine cm0 ?_
  refine wdz ?_
  try (refine st ?_; intros)
  rw [hml, hd]
  have e : B.close.l = B.l ++ [⟨0, [], B.p⟩] := by simp [Bld.close, hp, hd]
  exact q_nz (H0 := .bl b [.slice c2 (B.l.length + 1) cp2, str [], str []] 301 :: .row c2 cp2 153 3 (B.l.map Stp.cs ++ [[.int .i64 0, str [], str B.p]]) :: H) ⟨rfl, rfl, c2, cp2, by rw [e]; simp [Stp.cs]⟩
 ·have hml1 : (B.l.map Stp.cs ++ [[.int .i64 0, str [], str B.p]]).length = B.l.length + 1 := by simp
  try (refine st ?_; intros)
  refine wdw 14 ([.bl b [.slice c B.l.length cp, str B.p, str B.d] 301]) ?_
  refine cm0 ?_
  refine wa1 10 ?_
  refine st ?_; intros; rename_i q0
  refine waz [] zml ?_
  refine wa1 11 ?_
  refine st ?_; intros; rename_i c2 cp2
  refine waz [] zml ?_
  refine cm0 ?_
  refine wdz ?_
  try (refine st ?_; intros)
  rw [hml]
  refine wdw 14 ([.bl b [.slice c2 (B.l.length + 1) cp2, str B.p, str B.d] 301]) ?_
  refine cm0 ?_
  refine wa1 10 ?_
  refine st ?_; intros; rename_i q0
  refine waz [] zml ?_
  refine wa1 11 ?_
  refine st ?_; intros; rename_i c3 cp3
  refine waz [] zml ?_
  refine cm0 ?_
  refine wdz ?_
  try (refine st ?_; intros)
  rw [hml1]
  have e : B.close.l = B.l ++ [⟨0, [], B.p⟩] ++ [⟨0, B.d, []⟩] := by simp [Bld.close, hp, hd]
  exact q_nz (H0 := .bl b [.slice c3 (B.l.length + 1 + 1) cp3, str [], str []] 301 :: .row c3 cp3 153 3 (B.l.map Stp.cs ++ [[.int .i64 0, str [], str B.p]] ++ [[.int .i64 0, str B.d, str []]]) :: H) ⟨rfl, rfl, c3, cp3, by rw [e]; simp [Stp.cs]⟩
end ZP
namespace ZP
open Go Go.Eng
attribute [local irreducible] WL WC WQ QFun zJ Does Q1 zD zB Go.Addr.add
theorem zIP {b : Nat} {c : Option Addr} {cp : Nat} (B : Bld) (n : Nat) (hn : n ≤ 100000000000) (hB : BFit 100000000000 B) (w0 : World) (m : Mem) (H : SHeap) :
  Does Tryz.prog 226 #[.pp b, .int .i64 (n : Int)] w0 m (.bl b [.slice c B.l.length cp, str B.p, str B.d] 301 :: .row c cp 153 3 (B.l.map Stp.cs) :: H)
   (fun v m' H' => v = .tuple #[] ∧ m' = m ∧ ∃ c' cp', H' = .bl b [.slice c' (B.keep n).l.length cp', str (B.keep n).p, str (B.keep n).d] 301 :: .row c' cp' 153 3 ((B.keep n).l.map Stp.cs) :: H) := by
 refine Does.of_body func226 rfl ntmps226 rfl ?_
 have hlen := hB.len
 by_cases h0 : n = 0
 ·subst h0
  try (refine st ?_; intros)
  exact q_fz ⟨rfl, rfl, c, cp, rfl⟩
 ·try (refine st ?_; intros)
  refine zA func227 ?_ (hs := zDR B (by omega) _ _ _)
  rintro v m1 H1 ⟨rfl, rfl, c1, cp1, rfl⟩
  have hkeep : B.keep n = ⟨yV B.close.l n, [], []⟩ := by unfold Bld.keep; rw [if_neg (by omega)]
  have hc := hB.close
  rw [hkeep]
  have hcl := hc.len
  have hck := hc.k
  generalize B.close.l = L at *
  have hml : (L.map Stp.cs).length = L.length := by simp
  rcases zCc L with hL | ⟨ys, s, hL⟩
  ·have hl0 : L.length = 0 := by rw [hL]; rfl
   refine st ?_; intros; rename_i x2 c2 cp2
   rw [hml]
   have e : yV L n = L ++ [⟨n, [], []⟩] := by rw [hL]; rfl
   exact q_nz (H0 := .bl b [.slice c2 (L.length + 1) cp2, str [], str []] 301 :: .row c2 cp2 153 3 (L.map Stp.cs ++ [[.int .i64 n, str [], str []]]) :: H) ⟨rfl, rfl, c2, cp2, by rw [e]; simp [Stp.cs]⟩
  ·have hl1 : L.length = ys.length + 1 := by rw [hL]; simp
   have hget : (L.map Stp.cs)[L.length - 1]? = some s.cs := by rw [hL]; simp
   have hsk := hck s (by rw [hL]; simp)
   refine WL.rowSome (a := c1) zhs (by omega) ?_
   rintro c0 rfl
   by_cases hs : 0 < s.k
   ·try (refine st ?_; intros)
    have e : (yV L n).length = L.length ∧ (yV L n).map Stp.cs = (L.map Stp.cs).set (L.length - 1) [.int .i64 (s.k + n), str s.d, str s.p] := by
     rw [hL]; constructor <;> simp [yV, hs, Stp.cs]
    exact q_fz (H0 := .bl b [.slice (some c0) L.length cp1, str [], str []] 301 :: .row (some c0) cp1 153 3 ((L.map Stp.cs).set (L.length - 1) [.int .i64 (s.k + n), str s.d, str s.p]) :: H) ⟨rfl, rfl, some c0, cp1, by rw [e.1, e.2]⟩
   ·refine st ?_; intros; rename_i x2 c2 cp2
    rw [hml]
    have e : yV L n = L ++ [⟨n, [], []⟩] := by rw [hL]; simp [yV, hs]
    exact q_nz (H0 := .bl b [.slice c2 (L.length + 1) cp2, str [], str []] 301 :: .row c2 cp2 153 3 (L.map Stp.cs ++ [[.int .i64 n, str [], str []]]) :: H) ⟨rfl, rfl, c2, cp2, by rw [e]; simp [Stp.cs]⟩
end ZP
namespace Go.Eng
def Stp.v (s : Stp) : Value := .agg #[.int .i64 s.k, str s.d, str s.p]
end Go.Eng
namespace ZP
open Go Go.Eng
attribute [local irreducible] WL WC WQ QFun zJ Does Q1 zD zB Go.Addr.add
theorem zJQ {b : Nat} {c : Option Addr} {cp : Nat} (B : Bld) (s : Stp) (hk : s.k ≤ 100000000000) (hd : s.d.length ≤ 100000000000) (hp : s.p.length ≤ 100000000000) (hB : BFit 100000000000 B) (w0 : World) (m : Mem) (H : SHeap) :
  Does Tryz.prog 204 #[.pp b, s.v] w0 m (.bl b [.slice c B.l.length cp, str B.p, str B.d] 301 :: .row c cp 153 3 (B.l.map Stp.cs) :: H)
   (fun v m' H' => v = .tuple #[] ∧ m' = m ∧ ∃ c' cp', H' = .bl b [.slice c' (B.step s).l.length cp', str (B.step s).p, str (B.step s).d] 301 :: .row c' cp' 153 3 ((B.step s).l.map Stp.cs) :: H) := by
 refine Does.of_body (args := [.pp b, .agg #[.int .i64 s.k, str s.d, str s.p]]) func204 rfl ntmps204 rfl ?_
 have h1 := hB.p
 have h2 := hB.d
 by_cases h0 : 0 < s.k
 ·obtain ⟨n, hn⟩ : ∃ n : Nat, s.k = (n : Int) := ⟨s.k.toNat, by omega⟩
  have e : B.step s = B.keep n := by unfold Bld.step; rw [if_pos h0, hn]
  rw [e, hn]
  have h0' : 0 < (n : Int) := by omega
  refine st ?_; intros; rename_i b3
  refine WL.heap (H' := .bl b [.slice c B.l.length cp, str B.p, str B.d] 301 :: .row c cp 153 3 (B.l.map Stp.cs) :: H) zpk ?_
  refine zA func226 ?_ (hs := zIP B n (by omega) hB _ _ _)
  rintro v m1 H1 ⟨rfl, rfl, c1, cp1, rfl⟩
  try (refine st ?_; intros)
  exact q_nz ⟨rfl, rfl, c1, cp1, rfl⟩
 ·by_cases h3 : s.d = []
  ·have e : B.step s = ⟨B.l, B.p ++ s.p, B.d⟩ := by unfold Bld.step; rw [if_neg h0, if_neg (fun h => h h3)]
   rw [e]
   try (refine st ?_; intros)
   exact q_nz ⟨rfl, rfl, c, cp, rfl⟩
  ·have e : B.step s = ⟨B.l, B.p, B.d ++ s.d⟩ := by unfold Bld.step; rw [if_neg h0, if_pos h3]
   rw [e]
   try (refine st ?_; intros)
   exact q_nz ⟨rfl, rfl, c, cp, rfl⟩
theorem zJM {b : Nat} {c : Option Addr} {cp : Nat} (B : Bld) (hB : B.l.length ≤ 1000000000000) (w0 : World) (m : Mem) (H : SHeap) :
  Does Tryz.prog 205 #[.pp b] w0 m (.bl b [.slice c B.l.length cp, str B.p, str B.d] 301 :: .row c cp 153 3 (B.l.map Stp.cs) :: H)
   (fun v m' H' => m' = m ∧ ∃ c' cp', v = .slice c' B.close.l.length cp' ∧ H' = .row c' cp' 153 3 (B.close.l.map Stp.cs) :: H) := by
 refine Does.of_body func205 rfl ntmps205 rfl ?_
 try (refine st ?_; intros)
 refine zA func227 ?_ (hs := zDR B hB _ _ _)
 rintro v m1 H1 ⟨rfl, rfl, c1, cp1, rfl⟩
 try (refine st ?_; intros)
 exact q_fz ⟨rfl, c1, cp1, rfl, rfl⟩
theorem zHR {a : Option Addr} {cap : Nat} {l : List Stp} (hok : ∀ s ∈ l, yL s) (hl : (zG l).length ≤ 1000000000) (w0 : World) (m : Mem) (H : SHeap) (hr : RowR w0 m H 3 a (l.map Stp.cs)) :
  Does Tryz.prog 162 #[.slice a l.length cap] w0 m H (fun v m' H' => m' = m ∧ ∃ c' cp', v = .slice c' (z7 l).length cp' ∧ H' = .row c' cp' 153 3 ((z7 l).map Stp.cs) :: H) := by
 refine Does.of_body func162 rfl ntmps162 rfl ?_
 have hln : (l.map Stp.cs).length = l.length := by simp
 have hlen := zA6 l hok
 refine st ?_; intros; rename_i b
 refine WC.newRow (T := 153) (sz := 3) ?_
 refine lpz (fun j r ds m' H' => ∃ i c cp B, j = l.length - i ∧ r = [(8, .int .i64 (i : Int)), (7, .int .i64 (l.length : Int)), (6, .slice a l.length cap), (3, .pp b)] ∧ ds = [] ∧ m = m' ∧ H' = .bl b [.slice c B.l.length cp, str B.p, str B.d] 301 :: .row c cp 153 3 (B.l.map Stp.cs) :: H ∧ (i ≤ l.length) ∧ (B = Bld.start.run (zG (l.take i)))) (l.length - (0)) ⟨0, none, 0, Bld.start, rfl, rfl, rfl, rfl, rfl, by omega, by simp [zG, Bld.run]⟩ ?_
 rintro j r ds m' H' ⟨i, c, cp, B, rfl, rfl, rfl, rfl, rfl, hi, hB⟩
 have htl : (zG (l.take i)).length ≤ (zG l).length := by
  have e : zG l = zG (l.take i) ++ zG (l.drop i) := by rw [← zV, List.take_append_drop]
  rw [e]; simp
 have hfit : BFit 10000000000 B := by rw [hB]; exact (BFit.runs _).mono (by omega)
 by_cases hlt : i < l.length
 ·obtain ⟨x, hx, hget, htk, hmem, hdr⟩ := zBj (f := Stp.cs) hlt
  have hr1 := (hr.more (i := .row c cp 153 3 (B.l.map Stp.cs))).more (i := .bl b [.slice c B.l.length cp, str B.p, str B.d] 301)
  have hxl : x.atoms.length ≤ (zG l).length := by
   have e : zG l = zG (l.take (i + 1)) ++ zG (l.drop (i + 1)) := by rw [← zV, List.take_append_drop]
   rw [e, htk, zV, jH]; simp only [List.length_append]; omega
  rw [zBH] at hxl
  refine WC.rSome hr1 (by omega) ?_
  rintro a0 rfl
  refine st ?_; intros; rename_i bx
  refine WL.heap (H' := .bl b [.slice c B.l.length cp, str B.p, str B.d] 301 :: .row c cp 153 3 (B.l.map Stp.cs) :: H) zpk ?_
  refine zA func204 ?_ (hs := zJQ B x (by omega) (by omega) (by omega) (hfit.mono (by omega)) _ _ _)
  rintro v m1 H1 ⟨rfl, rfl, c1, cp1, rfl⟩
  try (refine st ?_; intros)
  refine nxz (l.length - (i + 1)) ⟨i + 1, c1, cp1, B.step x, rfl, rfl, rfl, rfl, rfl, ?_, ?_⟩
  ·omega
  ·rw [htk, zV, vR, ← hB, jH, zFK _ _ (hok x hmem)]
 ·obtain rfl : i = l.length := by omega
  have hlen2 := hfit.len
  try (refine st ?_; intros)
  refine zA func205 ?_ (hs := zJM B (by omega) _ _ _)
  rintro v m1 H1 ⟨rfl, c1, cp1, rfl, rfl⟩
  try (refine st ?_; intros)
  have e : B.close.l = z7 l := by
   rw [hB, List.take_length, z7]
   have : ∀ (l : List Stp) (b : Bld), (∀ s ∈ l, yL s) → b.run (zG l) = l.foldl Bld.step b := by
    intro l
    induction l with
    | nil => intro b _; rfl
    | cons s l ih => intro b h; rw [w7, vR, zFK _ _ (h s List.mem_cons_self), ih _ (fun x hx => h x (List.mem_cons_of_mem _ hx)), List.foldl_cons]
   rw [this l _ hok]
  rw [e]
  exact q_fz ⟨rfl, c1, cp1, rfl, rfl⟩
end ZP
namespace Go.Eng
theorem sized {l : List Stp} {f t : Int} (h : zT l = some (f, t)) : (∀ s ∈ l, yL s) ∧ (zG l).length ≤ 131072 ∧ (zG (z7 l)).length ≤ 131072 ∧ f = (yO (zG l) : Int) ∧ t = (toA (zG l) : Int) ∧ 0 ≤ f ∧ f ≤ 65536 ∧ 0 ≤ t ∧ t ≤ 65536 := by
 obtain ⟨h1, h2, h3, h4, h5⟩ := uR h
 have hok : ∀ s ∈ l, yL s := fun s hs => (h1 s hs).1
 have a1 := qW (zG l)
 have a2 := qW (zG (z7 l))
 obtain ⟨n1, n2⟩ := kY l hok
 rw [uL, n1, n2] at a2
 unfold maxT at h4 h5
 rw [uL]
 exact ⟨hok, by omega, by omega, h2, h3, by omega, by omega, by omega, by omega⟩
end Go.Eng
namespace ZP
open Go Go.Eng
attribute [local irreducible] WL WC WQ QFun zJ Does Q1 zD zB Go.Addr.add
end ZP
namespace Go.Eng
open Go
theorem zB3 : ∀ l : List Stp, Lib.join (l.map stpW) [32] = yM l
 | [] => rfl
 | [x] => by simp [Lib.join, yM, List.intercalate]
 | x :: y :: l => by
  have := zB3 (y :: l)
  unfold Lib.join at this ⊢
  rw [yM, ← this]
  simp [List.intercalate, List.intersperse]
theorem zKh {x : Stp} (h : yL x) (hk : x.k ≤ 65536) : (stpW x).length ≤ 12 * (x.d.length + x.p.length) + 10 := by
 have h1 := yN 4 x.k.toNat (by omega)
 have h2 := wS x.d
 have h3 := wS x.p
 unfold stpW
 split
 ·simp only [List.length_cons]; omega
 ·split
  ·simp only [List.length_cons]; omega
  ·simp only [List.length_cons]; omega
theorem zHb : ∀ {l : List Stp} {x : Stp}, x ∈ l → (stpW x).length ≤ (yM l).length
 | [y], x, h => by
  rw [List.mem_singleton] at h; subst h; exact Nat.le_refl _
 | y :: z :: l, x, h => by
  rw [yM, List.length_append, List.length_append]
  rcases List.mem_cons.1 h with rfl | h
  ·omega
  ·have := zHb h; omega
end Go.Eng
namespace ZP
open Go Go.Eng
attribute [local irreducible] WL WC WQ QFun zJ Does Q1 zD zB Go.Addr.add
attribute [local irreducible] zT xQ stpW yG yM
namespace ZEQ8a
theorem zal {G G' : Prop} (next : G') (h : Bx G' → G := by intro zzn; (first | (refine iF 118 rfl ?_; refine zU func118 ?_ (hs := zBR (by assumption) _ _ _ (by assumption))) | (refine iF 49 rfl ?_; refine zU func49 ?_ (hs := zDu (by omega) (by assumption))) | (refine iF 119 rfl ?_; refine zU func119 ?_ (hs := zEC _ (by omega) (by assumption)))); (repeat revert zzf); exact zzn.out) : G := h ⟨next⟩
end ZEQ8a
open ZEQ8a in
theorem zCe {a : Option Addr} {cap : Nat} {l : List Stp} (hf : Fit l) (hd6 : ∀ x ∈ l, x.d.length ≤ 65536 ∧ x.p.length ≤ 65536) (hw : (yM l).length ≤ 4194304) {w0 : World} {m : Mem} {H : SHeap} (hr : RowR w0 m H 3 a (l.map Stp.cs)) (hg : GTabs Tryz.prog m) :
  Does Tryz.prog 82 #[.slice a l.length cap] w0 m H (Gives (match zT l with | none => .tuple #[str [], .int .i64 2] | some _ => .tuple #[str (yM l), .int .i64 0]) m H) := by
 refine Does.of_body func82 rfl ntmps82 rfl ?_
 have hln : (l.map Stp.cs).length = l.length := by simp
 have hfl := hf.len
 try (refine stg ?_; intros)
 cases hs : zT l with
 | none =>
  rw [show szP none = .tuple #[.int .i64 0, .int .i64 0, .int .i64 2] from rfl]
  try (refine stg ?_; intros)
  exact q_fz zgm
 | some ft =>
  obtain ⟨f, t⟩ := ft
  obtain ⟨h1, _, _, _, _⟩ := uR hs
  rw [show szP (some (f, t)) = .tuple #[.int .i64 f, .int .i64 t, .int .i64 0] from rfl]
  refine WL.newRow (T := 9) (sz := 1) ?_
  try (refine stg ?_; intros)
  refine lpz (fun j r ds m' H' => ∃ (i : Nat) (a9 : Option Addr) (c9 : Nat) (n9 : Nat), j = l.length - i ∧ r = [(21, .int .i64 (i : Int)), (20, .int .i64 (l.length : Int)), (19, .slice a l.length cap), (7, .slice a9 n9 c9)] ∧ ds = [] ∧ m = m' ∧ H' = .row a9 c9 9 1 (((l.take i).map stpW).map fun x => [str x]) :: H ∧ (i ≤ l.length) ∧ (n9 = i)) (l.length - (0)) ⟨0, none, 0, 0, rfl, rfl, rfl, rfl, rfl, Nat.zero_le _, rfl⟩ ?_
  rintro j r ds m' H' ⟨i, a9, c9, n9, rfl, rfl, rfl, rfl, rfl, hi, hn9⟩
  subst hn9
  by_cases hlt : n9 < l.length
  ·obtain ⟨x, hx, hget, htk, hmem, hdr⟩ := zBj (f := Stp.cs) hlt
   have hr1 := hr.more (i := .row a9 c9 9 1 (((l.take n9).map stpW).map fun x => [str x]))
   refine WC.rSome hr1 (by omega) ?_
   rintro a0 rfl
   obtain ⟨hxok, hk1⟩ := h1 x hmem
   have hx6 := hd6 x hmem
   have hmt : (maxT : Int) = 65536 := rfl
   have hin := zHb hmem
   have htl : (((l.take n9).map stpW).map fun x => [str x]).length + 1 = n9 + 1 := by rw [List.length_map, List.length_map, List.length_take]; omega
   have htl2 : (((l.take n9).map stpW).map fun x => [str x]).length = n9 := by rw [List.length_map, List.length_map, List.length_take]; omega
   have e0 : (x.cs)[0]? = some (.int .i64 x.k) := rfl
   have e1 : (x.cs)[1]? = some (str x.d) := rfl
   have e2 : (x.cs)[2]? = some (str x.p) := rfl
   rcases hxok with ⟨g1, g2, g3⟩ | ⟨g1, g2, g3⟩ | ⟨g1, g2, g3⟩
   ·have hkp : 0 < x.k := g1
    have hs1 : stpW x = 61 :: decL x.k.toNat := by unfold stpW; rw [if_pos g1]
    have hdl := yN 4 x.k.toNat (by omega)
    have es : ([61] : List UInt8) ++ decL x.k.toNat = stpW x := by rw [hs1]; rfl
    have el1 : ([61] : List UInt8).length = 1 := rfl
    have em : ((l.take n9).map stpW).map (fun x => [str x]) ++ [[str (stpW x)]] = ((l.take (n9 + 1)).map stpW).map fun x => [str x] := by rw [htk]; simp
    refine stg ?_; intros; rename_i bx q a8 c8
    rw [es, em, htl]
    refine nxz (l.length - (n9 + 1)) ⟨n9 + 1, a8, c8, n9 + 1, rfl, rfl, rfl, rfl, rfl, ?_, ?_⟩
    ·omega
    ·rfl
   ·have hkp : ¬ 0 < x.k := by omega
    have hs1 : stpW x = 45 :: yG x.d := by unfold stpW; rw [if_neg (by omega), if_pos g2]
    have hql := zBb x.d
    have hql2 : (stpW x).length = (yG x.d).length + 1 := by rw [hs1]; rfl
    have es : ([45] : List UInt8) ++ yG x.d = stpW x := by rw [hs1]; rfl
    have el1 : ([45] : List UInt8).length = 1 := rfl
    have em : ((l.take n9).map stpW).map (fun x => [str x]) ++ [[str (stpW x)]] = ((l.take (n9 + 1)).map stpW).map fun x => [str x] := by rw [htk]; simp
    refine stg ?_; intros; rename_i bx q a8 c8
    rw [es, em, htl]
    refine nxz (l.length - (n9 + 1)) ⟨n9 + 1, a8, c8, n9 + 1, rfl, rfl, rfl, rfl, rfl, ?_, ?_⟩
    ·omega
    ·rfl
   ·have hkp : ¬ 0 < x.k := by omega
    have hs1 : stpW x = 43 :: yG x.p := by unfold stpW; rw [if_neg (by omega), if_neg (by rw [g2]; exact fun h => h rfl)]
    have hql := zBb x.p
    have hql2 : (stpW x).length = (yG x.p).length + 1 := by rw [hs1]; rfl
    have es : ([43] : List UInt8) ++ yG x.p = stpW x := by rw [hs1]; rfl
    have el1 : ([43] : List UInt8).length = 1 := rfl
    have em : ((l.take n9).map stpW).map (fun x => [str x]) ++ [[str (stpW x)]] = ((l.take (n9 + 1)).map stpW).map fun x => [str x] := by rw [htk]; simp
    refine stg ?_; intros; rename_i bx q a8 c8
    rw [es, em, htl]
    refine nxz (l.length - (n9 + 1)) ⟨n9 + 1, a8, c8, n9 + 1, rfl, rfl, rfl, rfl, rfl, ?_, ?_⟩
    ·omega
    ·rfl
  ·obtain rfl : n9 = l.length := by omega
   rw [List.take_length]
   have hj := zB3 l
   have hml : (l.map stpW).length = l.length := List.length_map _
   by_cases h0 : l.length = 0
   ·have hl0 : l = [] := List.eq_nil_of_length_eq_zero h0
    have hp0 : yM l = [] := by rw [hl0]; unfold yM; rfl
    try (refine stg ?_; intros)
    rw [h0]
    refine zA func69 ?_ (hs := zDE _ _ _)
    rintro v m H1 ⟨rfl, rfl, rfl⟩
    try (refine stg ?_; intros)
    rw [← hp0]
    exact q_fz zgm
   ·refine WC.rowSome (a := a9) (es := (l.map stpW).map fun x => [str x]) zhs (by rw [List.length_map, hml]; omega) ?_
    rintro p0 rfl
    try (refine stg ?_; intros)
    rw [← hml]
    refine zA func69 ?_ (hs := zIN (xs := l.map stpW) zhs (by omega) (by rw [hj]; omega))
    rintro v m H1 ⟨rfl, rfl, rfl⟩
    rw [hj]
    try (refine stg ?_; intros)
    exact q_fz zgm
end ZP
namespace Go.Eng
open Go Go.RowKit
theorem RowR.blk {w0 : World} {m : Mem} {H : SHeap} {b sz : Nat} {T : TypeId} {fz : Nat × Nat} {es : List (List Value)} {L : List Value} (hm : Item.blk b (.cells L.toArray T fz) ∈ H) (h1 : ∀ e ∈ es, e.length = sz) (hL : es.flatten = L) : RowR w0 m H sz (.some ⟨b, 0, .none⟩) es := by
 subst hL
 intro w hs
 refine ⟨h1, fun j v hj => ?_⟩
 rw [xP]
 exact Cell.blk hm (by simpa using hj) w hs
def bV (b : UInt8) : List Value := [.int .u8 (b.toNat : Int)]
def applyV (s : List UInt8) (l : List Stp) : Value := match zT l with
 | none => .tuple #[str [], .int .i64 2]
 | some (f, _) => if f ≠ s.length then .tuple #[str [], .int .i64 5] else match xL s (zG l) with
  | none => .tuple #[str [], .int .i64 270]
  | some o => .tuple #[str o, .int .i64 0]
end Go.Eng
namespace ZP
open Go Go.Eng
attribute [local irreducible] WL WC WQ QFun zJ Does Q1 zD zB Go.Addr.add
attribute [local irreducible] xL xQ zT
namespace ZE10a
theorem zal {G G' : Prop} (next : G') (h : Bx G' → G := by intro zzn; (first | (refine iF 118 rfl ?_; refine zU func118 ?_ (hs := zBR (by assumption) _ _ _ (by assumption)))); (repeat revert zzf); exact zzn.out) : G := h ⟨next⟩
end ZE10a
open ZE10a in
theorem zNe {a : Option Addr} {cap : Nat} {l : List Stp} {s : List UInt8} (hf : Fit l) (hsl : s.length ≤ 1000000000) (w0 : World) (m : Mem) (H : SHeap) (hr : RowR w0 m H 3 a (l.map Stp.cs)) :
  Does Tryz.prog 96 #[str s, .slice a l.length cap] w0 m H (Gives (applyV s l) m H) := by
 refine Does.of_body func96 rfl ntmps96 rfl ?_
 have hln : (l.map Stp.cs).length = l.length := by simp
 have hlen := hf.len
 cases hs : zT l with
 | none =>
  have e : applyV s l = .tuple #[str [], .int .i64 2] := by simp only [applyV, hs]
  have e2 : szP (zT l) = .tuple #[.int .i64 0, .int .i64 0, .int .i64 2] := by rw [hs]; rfl
  rw [e]
  try (refine stg ?_; intros)
  rw [e2]
  try (refine stg ?_; intros)
  exact q_fz zgm
 | some ft =>
  obtain ⟨f, t⟩ := ft
  have e2 : szP (zT l) = .tuple #[.int .i64 f, .int .i64 t, .int .i64 0] := by rw [hs]; rfl
  obtain ⟨hok, hal, hpl, hfr, _, g1, g2, _, _⟩ := sized hs
  by_cases hfs : f = s.length
  ·try (refine stg ?_; intros)
   rw [e2]
   try (refine stg ?_; intros)
   refine WC.newRow (T := 5) (sz := 1) ?_
   refine lpz (fun j r ds m' H' => ∃ i S a9 c9 n9 O, j = l.length - i ∧ r = [(29, .int .i64 (i : Int)), (28, .int .i64 (l.length : Int)), (27, .slice a l.length cap), (0, str S), (9, .slice a9 n9 c9)] ∧ ds = [] ∧ m = m' ∧ H' = .row a9 c9 5 1 (O.map bV) :: H ∧ (i ≤ l.length) ∧ (n9 = O.length) ∧ (O.length ≤ (zG (l.take i)).length + s.length - S.length) ∧ (S.length ≤ s.length) ∧ (yO (zG (l.drop i)) = S.length) ∧ ((xL S (zG (l.drop i))).map (O ++ ·) = xL s (zG l))) (l.length - (0)) ⟨0, s, none, 0, 0, ([] : List UInt8), rfl, rfl, rfl, rfl, rfl, by omega, rfl, by simp, by omega, by rw [List.drop_zero]; omega, by simp⟩ ?_
   rintro j r ds m' H' ⟨i, S, a9, c9, n9, O, rfl, rfl, rfl, rfl, rfl, hi, hn9, hO, hSl, hSf, hR⟩
   have hOl : (O.map bV).length = O.length := by simp
   have htl : (zG (l.take i)).length ≤ (zG l).length := by
    have e : zG l = zG (l.take i) ++ zG (l.drop i) := by rw [← zV, List.take_append_drop]
    rw [e]; simp
   subst hn9
   by_cases hlt : i < l.length
   ·obtain ⟨x, hx, hget, htk, hmem, hdr⟩ := zBj (f := Stp.cs) hlt
    have hxl : (zG (l.take (i + 1))).length = (zG (l.take i)).length + x.atoms.length := by rw [htk, zV, jH, List.length_append]
    have hxm : (zG (l.take (i + 1))).length ≤ (zG l).length := by
     have e : zG l = zG (l.take (i + 1)) ++ zG (l.drop (i + 1)) := by rw [← zV, List.take_append_drop]
     rw [e, List.length_append]; omega
    rw [zBH] at hxl
    rw [hdr, w7] at hR hSf
    rw [yD, zBF] at hSf
    have hr1 := hr.more (i := .row a9 c9 5 1 (O.map bV))
    have hxok := hok x hmem
    refine WC.rSome hr1 (by omega) ?_
    rintro a0 rfl
    rcases hxok with ⟨h1, h2, h3⟩ | ⟨h1, h2, h3⟩ | ⟨h1, h2, h3⟩
    ·have h2' : x.d.length = 0 := by rw [h2]; rfl
     have h3' : x.p.length = 0 := by rw [h3]; rfl
     have ea : x.atoms = List.replicate x.k.toNat .k := by simp [Stp.atoms, h2, h3]
     rw [ea, zL6 x.k.toNat S _ (by omega), Option.map_map] at hR
     have hmin : (S.take x.k.toNat).length = x.k.toNat := by simp; omega
     have hed : (S.drop x.k.toNat).length = S.length - x.k.toNat := by simp
     refine stg ?_; intros; rename_i bx a8 c8
     rw [hOl, hmin]
     have em : O.map bV ++ (S.take x.k.toNat).map (fun b => [Value.int .u8 (b.toNat : Int)]) = (O ++ S.take x.k.toNat).map bV := by rw [List.map_append]; rfl
     rw [em]
     refine nxz (l.length - (i + 1)) ⟨i + 1, S.drop x.k.toNat, a8, c8, O.length + x.k.toNat, O ++ S.take x.k.toNat, rfl, rfl, rfl, rfl, rfl, ?_, ?_, ?_, ?_, ?_, ?_⟩
     ·omega
     ·rw [List.length_append, hmin]
     ·rw [List.length_append, hmin]; omega
     ·omega
     ·omega
     ·rw [← hR]; congr 1; funext q; simp
    ·have h3' : x.p.length = 0 := by rw [h3]; rfl
     have ea : x.atoms = x.d.map .d := by simp [Stp.atoms, h1, h3]
     rw [ea, zL5 x.d S _ (by omega)] at hR
     have hed : (S.drop x.d.length).length = S.length - x.d.length := by simp
     by_cases h4 : S.take x.d.length = x.d
     ·rw [if_pos h4] at hR
      try (refine stg ?_; intros)
      refine nxz (l.length - (i + 1)) ⟨i + 1, S.drop x.d.length, a9, c9, O.length, O, rfl, rfl, rfl, rfl, rfl, ?_, ?_, ?_, ?_, ?_, ?_⟩
      ·omega
      ·rfl
      ·omega
      ·omega
      ·omega
      ·exact hR
     ·rw [if_neg h4] at hR
      have e : applyV s l = .tuple #[str [], .int .i64 270] := by simp only [applyV, hs, hfs, ne_eq, not_true, if_false, ← hR, Option.map_none]
      rw [e]
      try (refine stg ?_; intros)
      exact q_fz zgm
    ·have h2' : x.d.length = 0 := by rw [h2]; rfl
     have ea : x.atoms = x.p.map .p := by simp [Stp.atoms, h1, h2]
     rw [ea, zL7 S x.p, Option.map_map] at hR
     refine stg ?_; intros; rename_i bx a8 c8
     rw [hOl]
     have em : O.map bV ++ x.p.map (fun b => [Value.int .u8 (b.toNat : Int)]) = (O ++ x.p).map bV := by rw [List.map_append]; rfl
     rw [em]
     refine nxz (l.length - (i + 1)) ⟨i + 1, S, a8, c8, O.length + x.p.length, O ++ x.p, rfl, rfl, rfl, rfl, rfl, ?_, ?_, ?_, ?_, ?_, ?_⟩
     ·omega
     ·rw [List.length_append]
     ·rw [List.length_append]; omega
     ·omega
     ·omega
     ·rw [← hR]; congr 1; funext q; simp
   ·obtain rfl : i = l.length := by omega
    rw [List.drop_length] at hR
    have e : applyV s l = .tuple #[str O, .int .i64 0] := by
     have : some O = xL s (zG l) := by rw [← hR, show zG [] = [] from rfl, zCB]; simp
     simp only [applyV, hs, hfs, ne_eq, not_true, if_false, ← this]
    rw [e]
    try (refine stg ?_; intros)
    refine WL.rowStr (s := O) rfl rfl zhs rfl rfl rfl rfl rfl ?_
    try (refine stg ?_; intros)
    exact q_fz zgm
  ·have e : applyV s l = .tuple #[str [], .int .i64 5] := by simp [applyV, hs, hfs]
   rw [e]
   try (refine stg ?_; intros)
   rw [e2]
   try (refine stg ?_; intros)
   exact q_fz zgm
end ZP
namespace Go.Eng
open Go
theorem zEd {l : List Stp} {s : Stp} (h : s ∈ l) : s.atoms.length ≤ (zG l).length := by
 obtain ⟨x, y, rfl⟩ := List.append_of_mem h
 rw [zV, w7, List.length_append, List.length_append]; omega
theorem zI4 {L : List Atm} (h1 : yO L ≤ 65536) (h2 : toA L ≤ 65536) : Fit (listOf L) := by
 obtain ⟨e1, e2⟩ := zGH L
 have hok := (zIq L).1
 have ha := qW (zG (listOf L))
 have hl := zA6 (listOf L) hok
 refine ⟨by omega, fun s hs => ?_, fun s hs => ?_, fun s hs => ?_⟩
 all_goals
  have := zEd hs
  have hb := zCj (hok s hs)
  omega
def okV (t : List UInt8) : Value := .tuple #[str t, .int .i64 0]
end Go.Eng
namespace Go.Eng
open Go
theorem zG2 {l : List Stp} {f t : Int} (hs : zT l = some (f, t)) : Fit (z7 l) := by
 obtain ⟨hok, _, _, h1, h2, _, h4, _, h6⟩ := sized hs
 obtain ⟨n1, n2⟩ := kY l hok
 rw [zCp]
 exact zI4 (by omega) (by omega)
def overP (hand h : Int) (x c : List Stp) : Int ⊕ List Stp := if h ≤ hand then (match carP x c with | .inl e => .inl e | .inr (_, v) => .inr v) else (match carP c x with | .inl e => .inl e | .inr (u, _) => .inr u)
def carriedP (hand : Int) : List (Int × List Stp) → List Stp → Int ⊕ List Stp
 | [], c => .inr c
 | x :: K, c => match overP hand x.1 x.2 c with | .inl e => .inl e | .inr v => carriedP hand K v
end Go.Eng
namespace Go.Eng
open Go
theorem kN : ∀ (l : List Stp) (f t a b : Int), xQ l f t = some (a, b) →
  ((yM l).length : Int) ≤ 12 * ((a - f) + (b - t)) + 11 * l.length ∧ (l.length : Int) ≤ (a - f) + (b - t) ∧ f ≤ a ∧ t ≤ b ∧ ∀ x ∈ l, yL x ∧ x.k ≤ 65536 ∧ (x.d.length : Int) ≤ a - f ∧ (x.p.length : Int) ≤ b - t
 | [], f, t, a, b, h => by
  simp only [xQ, Option.some.injEq, Prod.mk.injEq] at h
  obtain ⟨rfl, rfl⟩ := h
  simp [yM]
 | x :: l, f, t, a, b, h => by
  by_cases h1 : yL x ∧ x.k ≤ 65536 ∧ f + x.k + x.d.length ≤ 65536 ∧ t + x.k + x.p.length ≤ 65536
  ·obtain ⟨g1, g2, g3, g4⟩ := h1
   rw [wI g1 g2 g3 g4] at h
   obtain ⟨q1, q2, q3, q4, q5⟩ := kN l _ _ a b h
   have hw := zKh g1 g2
   have hk : 0 ≤ x.k ∧ 0 < x.k + x.d.length + x.p.length := by
    rcases g1 with ⟨q, _⟩ | ⟨q, h3, _⟩ | ⟨q, _, h3⟩
    ·omega
    ·have := List.length_pos_iff.2 h3; omega
    ·have := List.length_pos_iff.2 h3; omega
   have hp : (yM (x :: l)).length ≤ (stpW x).length + 1 + (yM l).length := by
    cases l with
    | nil => show (stpW x).length ≤ _; omega
    | cons y l => rw [yM, List.length_append, List.length_append]; simp only [List.length_singleton]; omega
   refine ⟨?_, ?_, by omega, by omega, ?_⟩
   ·rw [List.length_cons]; omega
   ·rw [List.length_cons]; omega
   ·intro y hy
    rcases List.mem_cons.1 hy with rfl | hy
    ·exact ⟨g1, g2, by omega, by omega⟩
    ·have := q5 y hy
     exact ⟨this.1, this.2.1, by omega, by omega⟩
  ·rw [zW h1] at h; cases h
def wX (L : List Dr) (k : Nat) : List UInt8 :=
 if k = 0 then (if txOf L 0 = [] then [] else yM [⟨0, [], txOf L 0⟩]) else yM (z7 (chL (txOf L ((parsOf L k).headD 0)) (txOf L k)))
theorem SameD.said {L M : List Dr} (h : SameD L M) (k : Nat) : wX L k = wX M k := by
 unfold wX
 rw [h.tx, h.tx, h.tx, h.pars]
theorem zK3 {s t : List UInt8} (hs : s.length ≤ 65536) (ht : t.length ≤ 65536) : zT (z7 (chL s t)) = some ((s.length : Int), (t.length : Int)) ∧ (yM (z7 (chL s t))).length ≤ 4194304 ∧ (z7 (chL s t)).length ≤ 131072 ∧
  ∀ x ∈ z7 (chL s t), yL x ∧ x.k ≤ 65536 ∧ x.d.length ≤ 65536 ∧ x.p.length ≤ 65536 := by
 have h := zE9 (zAh hs ht)
 obtain ⟨q1, q2, _, _, q5⟩ := kN _ 0 0 _ _ h
 refine ⟨h, by omega, by omega, fun x hx => ?_⟩
 have := q5 x hx
 exact ⟨this.1, this.2.1, by omega, by omega⟩
theorem kM {t : List UInt8} (ht : t.length ≤ 65536) (h0 : t ≠ []) : zT [⟨0, [], t⟩] = some (0, (t.length : Int)) ∧ yL ⟨0, [], t⟩ ∧ (yM [⟨0, [], t⟩]).length ≤ 4194304 := by
 have hok : yL ⟨0, [], t⟩ := .inr (.inr ⟨rfl, rfl, h0⟩)
 have h : zT [⟨0, [], t⟩] = some (0, (t.length : Int)) := by
  unfold zT
  rw [wI hok (by show (0 : Int) ≤ 65536; omega) (by show (0 : Int) + 0 + ([] : List UInt8).length ≤ 65536; simp) (by show (0 : Int) + 0 + t.length ≤ 65536; omega)]
  simp [xQ]
 obtain ⟨q1, _⟩ := kN _ 0 0 _ _ h
 exact ⟨h, hok, by simp only [List.length_singleton] at q1; omega⟩
theorem zBK {L : List Dr} {k : Nat} (h : ∀ i, (txOf L i).length ≤ 65536) : (wX L k).length ≤ 4194304 := by
 unfold wX
 split
 ·split
  ·simp
  ·rename_i h0
   exact (kM (h 0) h0).2.2
 ·exact (zK3 (h _) (h _)).2.1
end Go.Eng
namespace Go.Eng
open Go
def draftW : List UInt8 := [100, 114, 97, 102, 116, 32]
def branchW : List UInt8 := [98, 114, 97, 110, 99, 104, 32]
def numsT (l : List Nat) : List UInt8 := l.flatMap fun p => 32 :: decL p
def headT (d : Dr) : List UInt8 := draftW ++ decL d.h ++ numsT d.ps
def tailT (L : List Dr) (k : Nat) : List UInt8 := [58] ++ (if wX L k = [] then [] else 32 :: wX L k) ++ [10]
def wT (L : List Dr) : Nat → List UInt8
 | 0 => []
 | n + 1 => wT L n ++ (((L[n]?).elim [] headT) ++ tailT L n)
def brT (x : List UInt8 × Nat) : List UInt8 := branchW ++ x.1 ++ [32] ++ decL x.2 ++ [10]
def histT (L : List Dr) (B : Br) : List UInt8 := wT L L.length ++ (brL B).flatMap brT
theorem zGM (l : List Nat) (p : Nat) : numsT (l ++ [p]) = numsT l ++ (32 :: decL p) := by unfold numsT; simp
theorem zCq {l : List Nat} {i p : Nat} (h : l[i]? = some p) : numsT (l.take (i + 1)) = numsT (l.take i) ++ (32 :: decL p) := by
 rw [List.take_add_one, h, Option.toList_some, zGM]
theorem SameD.lines {L M : List Dr} (h : SameD L M) : ∀ n, wT L n = wT M n
 | 0 => rfl
 | n + 1 => by
  have hg := h.get n
  have hh : (L[n]?).elim [] headT = (M[n]?).elim [] headT := by
   cases h1 : L[n]? with
   | none => rw [h1] at hg; cases h2 : M[n]? with
    | none => rfl
    | some e => rw [h2] at hg; cases hg
   | some d => rw [h1] at hg; cases h2 : M[n]? with
    | none => rw [h2] at hg; cases hg
    | some e =>
     rw [h2] at hg
     simp only [Option.map_some, Option.some.injEq, Prod.mk.injEq] at hg
     show headT d = headT e
     unfold headT
     rw [hg.1, hg.2.1]
  rw [wT, wT, SameD.lines h n, hh]
  unfold tailT
  rw [h.said]
theorem SameD.hist {L M : List Dr} (h : SameD L M) (B : Br) : histT L B = histT M B := by unfold histT; rw [h.lines, h.length]
theorem zBA {l : List Nat} (h : ∀ p ∈ l, p < 256) : (numsT l).length ≤ 8 * l.length := by
 induction l with
 | nil => simp [numsT]
 | cons p l ih =>
  have h1 := ih fun q hq => h q (List.mem_cons_of_mem _ hq)
  have h2 := yN 4 p (by have := h p List.mem_cons_self; omega)
  have e : numsT (p :: l) = (32 :: decL p) ++ numsT l := by unfold numsT; simp
  rw [e, List.length_append, List.length_cons, List.length_cons]; omega
theorem zEt {d : Dr} (hh : d.h ≤ 999999999999999999) (hp : ∀ p ∈ d.ps, p < 256) (h2 : d.ps.length ≤ 2) : (headT d).length ≤ 100 := by
 have h1 := yN 17 d.h (by omega)
 have h3 := zBA hp
 unfold headT draftW
 simp only [List.length_append, List.length_cons, List.length_nil]; omega
theorem zIj {L : List Dr} {k : Nat} (h : ∀ i, (txOf L i).length ≤ 65536) : (tailT L k).length ≤ 4194310 := by
 have := zBK (k := k) h
 unfold tailT
 split
 ·simp
 ·simp only [List.length_append, List.length_cons, List.length_nil]; omega
theorem zAD {L : List Dr} (h : ∀ i, (txOf L i).length ≤ 65536) (hd : ∀ (i : Nat) (d : Dr), L[i]? = some d → (headT d).length ≤ 100) : ∀ n, (wT L n).length ≤ 4194500 * n
 | 0 => by simp [wT]
 | n + 1 => by
  have h1 := zAD h hd n
  have h2 := zIj (k := n) h
  have h3 : ((L[n]?).elim [] headT).length ≤ 100 := by
   cases hn : L[n]? with
   | none => simp
   | some d => exact hd n d hn
  rw [wT, List.length_append, List.length_append]; omega
end Go.Eng
namespace Go.Eng
open Go
def spl (c : UInt8) : List UInt8 → List (List UInt8)
 | [] => [[]]
 | b :: l => if b = c then [] :: spl c l else match spl c l with
  | [] => [[b]]
  | x :: xs => (b :: x) :: xs
theorem zLu {c : UInt8} : ∀ {s : List UInt8}, c ∉ s → spl c s = [s]
 | [], _ => rfl
 | b :: l, h => by
  have h1 : b ≠ c := fun e => h (by subst e; exact List.mem_cons_self)
  have h2 := zLu (s := l) fun e => h (List.mem_cons_of_mem _ e)
  rw [spl, if_neg h1, h2]
theorem zLm {c : UInt8} : ∀ {x y : List UInt8}, c ∉ x → spl c (x ++ c :: y) = x :: spl c y
 | [], y, _ => by rw [List.nil_append, spl, if_pos rfl]
 | b :: l, y, h => by
  have h1 : b ≠ c := fun e => h (by subst e; exact List.mem_cons_self)
  have h2 := zLm (x := l) (y := y) fun e => h (List.mem_cons_of_mem _ e)
  rw [List.cons_append, spl, if_neg h1, h2]
def pre (c : UInt8) : List UInt8 → List UInt8
 | [] => []
 | b :: l => if b = c then [] else b :: pre c l
theorem zL2 (c : UInt8) : ∀ s, c ∉ pre c s
 | [] => by simp [pre]
 | b :: l => by
  unfold pre
  split
  ·simp
  ·rename_i h
   intro e
   rcases List.mem_cons.1 e with e | e
   ·exact h e.symm
   ·exact zL2 c l e
theorem zLD (c : UInt8) : ∀ {s : List UInt8}, c ∈ s → s = pre c s ++ c :: s.drop ((pre c s).length + 1)
 | [], h => by cases h
 | b :: l, h => by
  unfold pre
  split
  ·rename_i e
   subst e
   simp
  ·rename_i e
   have h2 : c ∈ l := by
    rcases List.mem_cons.1 h with h | h
    ·exact absurd h.symm e
    ·exact h
   rw [List.length_cons, List.drop_succ_cons, List.cons_append, ← zLD c h2]
theorem zMM {c : UInt8} : ∀ {s : List UInt8}, c ∉ s → pre c s = s
 | [], _ => rfl
 | b :: l, h => by
  have h1 : b ≠ c := fun e => h (by subst e; exact List.mem_cons_self)
  rw [pre, if_neg h1, zMM fun e => h (List.mem_cons_of_mem _ e)]
theorem zLC {c : UInt8} : ∀ {x y : List UInt8}, c ∉ x → pre c (x ++ c :: y) = x
 | [], y, _ => by rw [List.nil_append, pre, if_pos rfl]
 | b :: l, y, h => by
  have h1 : b ≠ c := fun e => h (by subst e; exact List.mem_cons_self)
  rw [List.cons_append, pre, if_neg h1, zLC fun e => h (List.mem_cons_of_mem _ e)]
theorem zML (c : UInt8) : ∀ s, (pre c s).length ≤ s.length
 | [] => Nat.le_refl _
 | b :: l => by
  unfold pre
  split
  ·simp
  ·have := zML c l
   simp only [List.length_cons]; omega
theorem zK5 (c : UInt8) : ∀ s : List UInt8, Lib.index s [c] = if c ∈ s then ((pre c s).length : Int) else -1
 | [] => rfl
 | b :: l => by
  have ih := zK5 c l
  unfold Lib.index pre
  by_cases h : b = c
  ·subst h
   simp
  ·have h0 : ([c].isPrefixOf (b :: l)) = false := by
    have : (c == b) = false := by rw [beq_eq_false_iff_ne]; exact fun e => h e.symm
    simp [List.isPrefixOf, this]
   rw [h0, ih, if_neg h]
   have hm : c ∈ b :: l ↔ c ∈ l := ⟨fun e => by rcases List.mem_cons.1 e with e | e; exact absurd e.symm h; exact e, fun e => List.mem_cons_of_mem _ e⟩
   by_cases hc : c ∈ l
   ·rw [if_pos hc, if_pos (hm.2 hc)]
    have : (((pre c l).length : Int) == -1) = false := by rw [beq_eq_false_iff_ne]; omega
    simp [this]
   ·rw [if_neg hc, if_neg (fun e => hc (hm.1 e))]
    try rfl
theorem zNS (c : UInt8) (s : List UInt8) : Lib.cut s [c] = (pre c s, s.drop ((pre c s).length + 1), decide (c ∈ s)) := by
 unfold Lib.cut
 rw [zK5]
 by_cases h : c ∈ s
 ·rw [if_pos h, if_pos (by omega)]
  have e : s.take (pre c s).length = pre c s := by
   have := zLD c h
   rw [this, zLC (zL2 c s), List.take_left]
  simp [h, e]
 ·rw [if_neg h, if_neg (by omega), zMM h]
  simp [h]
theorem zMQ (c : UInt8) : ∀ (n f : Nat) (s : List UInt8), s.length ≤ n → s.length < f → Lib.splitK [c] 0 (Lib.countFrom [c] f s) s = spl c s ∧ (spl c s).length = Lib.countFrom [c] f s + 1
 | _, 0, s, _, h => absurd h (Nat.not_lt_zero _)
 | 0, f + 1, s, hn, hf => by
  obtain rfl : s = [] := List.length_eq_zero_iff.1 (by omega)
  exact ⟨rfl, rfl⟩
 | n + 1, f + 1, s, hn, hf => by
  rw [Lib.countFrom, zK5]
  by_cases h : c ∈ s
  ·rw [if_pos h]
   have hb : (((pre c s).length : Int) == -1) = false := by rw [beq_eq_false_iff_ne]; omega
   have hs := zLD c h
   have hl := congrArg List.length hs
   simp only [List.length_append, List.length_cons] at hl
   obtain ⟨i1, i2⟩ := zMQ c n f (s.drop ((pre c s).length + 1)) (by omega) (by omega)
   have e1 : spl c s = pre c s :: spl c (s.drop ((pre c s).length + 1)) := by
    conv => lhs; rw [hs]
    exact zLm (zL2 c s)
   have e2 : s.take (pre c s).length = pre c s := by
    conv => lhs; rw [hs]
    exact List.take_left' (by rw [zLC (zL2 c s)])
   rw [e1]
   simp only [hb, Bool.false_eq_true, if_false, Int.toNat_natCast, List.length_singleton]
   rw [Nat.add_comm 1, Lib.splitK, zK5, if_pos h]
   simp only [hb, Bool.false_eq_true, if_false, Int.toNat_natCast, List.length_singleton, Nat.add_zero, e2]
   exact ⟨by rw [i1], by rw [List.length_cons, i2]⟩
  ·rw [if_neg h, zLu h]
   exact ⟨rfl, rfl⟩
theorem zMm (c : UInt8) (s : List UInt8) : Lib.split s [c] = spl c s ∧ (spl c s).length = Lib.count s [c] + 1 := by
 unfold Lib.split Lib.count
 exact zMQ c s.length (s.length + 1) s (Nat.le_refl _) (Nat.lt_succ_self _)
theorem zN0 (c : UInt8) (s : List UInt8) : 1 ≤ (spl c s).length := by rw [(zMm c s).2]; omega
theorem zMA (c : UInt8) : ∀ s : List UInt8, (∀ x ∈ spl c s, x.length ≤ s.length) ∧ (spl c s).length ≤ s.length + 1
 | [] => ⟨fun x hx => by rw [spl, List.mem_singleton] at hx; subst hx; simp, by simp [spl]⟩
 | b :: l => by
  obtain ⟨i1, i2⟩ := zMA c l
  rw [spl]
  split
  ·refine ⟨fun x hx => ?_, by simp only [List.length_cons]; omega⟩
   rcases List.mem_cons.1 hx with rfl | hx
   ·simp
   ·have := i1 x hx
    simp only [List.length_cons]; omega
  ·split
   ·refine ⟨fun x hx => ?_, by simp⟩
    rw [List.mem_singleton] at hx
    subst hx
    simp
   ·rename_i x xs h
    rw [h] at i1 i2
    refine ⟨fun y hy => ?_, by simp only [List.length_cons] at i2 ⊢; omega⟩
    rcases List.mem_cons.1 hy with rfl | hy
    ·have := i1 x List.mem_cons_self
     simp only [List.length_cons]; omega
    ·have := i1 y (List.mem_cons_of_mem _ hy)
     simp only [List.length_cons]; omega
theorem zLd {c : UInt8} {s x : List UInt8} (h : x ∈ spl c s) : x.length ≤ s.length := (zMA c s).1 x h
theorem zLi (c : UInt8) (s : List UInt8) : (spl c s).length ≤ s.length + 1 := (zMA c s).2
def numV (s : List UInt8) : Option Nat := if s.length ≤ 18 ∧ decL (decV s) = s then some (decV s) else none
theorem zNl : ∀ (l : List UInt8) (n : Nat), (∀ c ∈ l, 48 ≤ c.toNat ∧ c.toNat ≤ 57) → l.foldl (fun n c => 10 * n + (c.toNat - 48)) n < (n + 1) * 10 ^ l.length
 | [], n, _ => by simp
 | c :: l, n, h => by
  have h1 := h c List.mem_cons_self
  have h2 := zNl l (10 * n + (c.toNat - 48)) fun x hx => h x (List.mem_cons_of_mem _ hx)
  rw [List.foldl_cons, List.length_cons, Nat.pow_succ]
  have h3 : (10 * n + (c.toNat - 48) + 1) * 10 ^ l.length ≤ (10 * (n + 1)) * 10 ^ l.length := Nat.mul_le_mul_right _ (by omega)
  have h4 : (10 * (n + 1)) * 10 ^ l.length = (n + 1) * (10 ^ l.length * 10) := by rw [Nat.mul_comm 10 (n + 1), Nat.mul_assoc, Nat.mul_comm 10]
  omega
theorem zNT (l : List UInt8) (h : ∀ c ∈ l, 48 ≤ c.toNat ∧ c.toNat ≤ 57) : decV l < 10 ^ l.length := by
 have := zNl l 0 h
 rw [Nat.zero_add, Nat.one_mul] at this
 exact this
theorem zMg {s : List UInt8} {n : Nat} (h : numV s = some n) : s = decL n ∧ s.length ≤ 18 ∧ n = decV s ∧ n ≤ 999999999999999999 := by
 unfold numV at h
 split at h
 ·rename_i h1
  injection h with h
  subst h
  refine ⟨h1.2.symm, h1.1, rfl, ?_⟩
  have hd := (zK4 (decV s)).1
  rw [h1.2] at hd
  have := zNT _ hd
  have h3 : 10 ^ s.length ≤ 10 ^ 18 := Nat.pow_le_pow_right (by decide) h1.1
  have h4 : (10 : Nat) ^ 18 = 1000000000000000000 := by decide
  omega
 ·cases h
theorem zLz {n : Nat} (h : n ≤ 999999999999999999) : numV (decL n) = some n := by
 have h1 := (zK4 n).2.1
 have h2 := yN 17 n (by omega)
 unfold numV
 rw [h1, if_pos ⟨by omega, rfl⟩]
def draftS : List UInt8 := [100, 114, 97, 102, 116]
def branchS : List UInt8 := [98, 114, 97, 110, 99, 104]
def u1 (n : Nat) : List (List UInt8) → Option (List Nat)
 | [] => some []
 | w :: ws => match numV w with
  | none => none
  | some p => if p < n then (u1 n ws).map (p :: ·) else none
theorem zK7 {n : Nat} : ∀ {ws : List (List UInt8)} {l : List Nat}, u1 n ws = some l → l.length = ws.length ∧ (∀ p ∈ l, p < n)
 | [], l, h => by injection h with h; subst h; exact ⟨rfl, fun p hp => by cases hp⟩
 | w :: ws, l, h => by
  rw [u1] at h
  cases hn : numV w with
  | none => rw [hn] at h; cases h
  | some p =>
   rw [hn] at h
   simp only at h
   split at h
   ·rename_i hp
    cases hw : u1 n ws with
    | none => rw [hw] at h; cases h
    | some l2 =>
     rw [hw] at h
     injection h with h
     subst h
     obtain ⟨i1, i2⟩ := zK7 hw
     refine ⟨by simp [i1], fun q hq => ?_⟩
     rcases List.mem_cons.1 hq with rfl | hq
     ·exact hp
     ·exact i2 q hq
   ·cases h
def headF (n : Nat) : List (List UInt8) → Option (Nat × List Nat)
 | w0 :: w1 :: ps => if w0 = draftS ∧ ps.length ≤ 2 ∧ (n = 0 ↔ ps = []) then match numV w1 with
  | none => none
  | some h => (u1 n ps).map (h, ·) else none
 | _ => none
def applyO (s : List UInt8) (l : List Stp) : Option (List UInt8) := match zT l with
 | none => none
 | some (f, _) => if f = s.length then xL s (zG l) else none
theorem zL8 (s : List UInt8) (l : List Stp) : (applyO s l = none ∧ ∃ e : Int, e ≠ 0 ∧ applyV s l = .tuple #[str [], .int .i64 e]) ∨ (∃ t, applyO s l = some t ∧ t.length ≤ 65536 ∧ applyV s l = .tuple #[str t, .int .i64 0]) := by
 unfold applyV applyO
 cases hs : zT l with
 | none => exact .inl ⟨rfl, 2, by decide, rfl⟩
 | some ft =>
  obtain ⟨f, tt⟩ := ft
  simp only
  by_cases hf : f = s.length
  ·rw [if_pos hf, if_neg (by simp [hf])]
   cases ha : xL s (zG l) with
   | none => exact .inl ⟨rfl, 270, by decide, rfl⟩
   | some t =>
    refine .inr ⟨t, rfl, ?_, rfl⟩
    have h1 := zAk _ _ _ ha
    have h2 := uR hs
    have h3 : maxT = 65536 := rfl
    omega
  ·rw [if_neg hf, if_pos (by simpa using hf)]
   exact .inl ⟨rfl, 5, by decide, rfl⟩
inductive Ln (α : Type) where
 | no (e k : Nat)
 | yes (x : α)
def mkD (h : Nat) (ps : List Nat) (t : List UInt8) : Dr := ⟨h, ps, .slice none 0 0, t⟩
def lineF (P : List Dr) (nb : Bool) (line : List UInt8) : Ln Dr :=
 if 58 ∉ line ∨ nb = true ∨ (line.drop ((pre 58 line).length + 1) ≠ [] ∧ (line.drop ((pre 58 line).length + 1)).head? ≠ some 32) then .no 281 0
 else match headF P.length (spl 32 (pre 58 line)) with
  | none => .no 281 0
  | some (h, ps) =>
   if P.length = 256 then .no 3 0
   else if line.drop ((pre 58 line).length + 1) = [32] then .no 281 0
   else match readF (line.drop ((pre 58 line).length + 2)) ((line.drop ((pre 58 line).length + 2)).length + 1) 0 0 0 [] with
    | .no w => .no 271 ((pre 58 line).length + 2 + w)
    | .yes _ l => match applyO (ps.head?.elim [] (txOf P)) l with
     | none => .no 281 0
     | some t => if wX (P ++ [mkD h ps t]) P.length = line.drop ((pre 58 line).length + 2) then .yes (mkD h ps t) else .no 281 0
def branF (n : Nat) (B : Br) (line : List UInt8) : Ln (List UInt8 × Nat) := match spl 32 line with
 | [w0, w1, w2] => if w0 = branchS ∧ x6 w1 then match numV w2 with
  | none => .no 281 0
  | some k => if k < n ∧ yP B w1 = none then (if B.length = 32 then .no 3 0 else .yes (w1, k)) else .no 281 0
  else .no 281 0
 | _ => .no 281 0
end Go.Eng
namespace Go.Eng
open Go
structure RdOk (m : Mem) (L : List Dr) (B : Br) (c : Nat) : Prop where
 few : L.length ≤ 256
 par : ∀ i d, L[i]? = some d → (∀ p ∈ d.ps, p < i) ∧ (0 < i → d.ps ≠ []) ∧ d.ps.length ≤ 2 ∧ d.t.length ≤ 65536 ∧ d.h ≤ 999999999999999999
 at_ : ∀ d ∈ L, PsAt m d
 heads : ∀ e ∈ B, e.2.2 < L.length
 names : (B.map (·.2.1)).Nodup
 borns : (B.map (·.1)).Nodup
 old : ∀ e ∈ B, e.1 < c
 most : B.length ≤ 32
theorem RdOk.le {m m' : Mem} {L : List Dr} {B : Br} {c : Nat} (h : RdOk m L B c) (hm : m.le m') : RdOk m' L B c := { h with at_ := fun d hd => (h.at_ d hd).le hm }
theorem RdOk.hs {m : Mem} {L : List Dr} {B : Br} {c : Nat} (h : RdOk m L B c) (h0 : 0 < L.length) : HsOk m L B c := { h with some_ := h0 }
theorem HsOk.rd {m : Mem} {L : List Dr} {B : Br} {c : Nat} (h : HsOk m L B c) : RdOk m L B c := { h with }
theorem RdOk.nil {m : Mem} : RdOk m [] [] 0 where
 few := by simp
 par := fun i d h => by simp at h
 at_ := fun d hd => by cases hd
 heads := fun e he => by cases he
 names := by simp
 borns := by simp
 old := fun e he => by cases he
 most := by simp
theorem RdOk.more {m : Mem} {L : List Dr} {B : Br} {c : Nat} (h : RdOk m L B c) {d : Dr} (hl : L.length < 256) (hp : ∀ p ∈ d.ps, p < L.length) (h0 : 0 < L.length → d.ps ≠ []) (h2 : d.ps.length ≤ 2) (ht : d.t.length ≤ 65536) (hh : d.h ≤ 999999999999999999) (hd : PsAt m d) : RdOk m (L ++ [d]) B c := by
 refine { h with few := by simp; omega, par := fun i x hx => ?_, at_ := fun x hx => ?_, heads := fun e he => ?_ }
 ·by_cases hi : i < L.length
  ·rw [List.getElem?_append_left hi] at hx
   exact h.par i x hx
  ·have hi2 : i = L.length := by
    have := (List.getElem?_eq_some_iff.1 hx).1
    simp at this; omega
   subst hi2
   simp at hx
   subst hx
   exact ⟨hp, h0, h2, ht, hh⟩
 ·rcases List.mem_append.1 hx with hx | hx
  ·exact h.at_ x hx
  ·rw [List.mem_singleton] at hx; subst hx; exact hd
 ·have := h.heads e he
  rw [List.length_append]; omega
theorem RdOk.put {m : Mem} {L : List Dr} {B : Br} {c : Nat} (h : RdOk m L B c) {s : List UInt8} {k : Nat} (hk : k < L.length) (hb : B.length < 32) : RdOk m L (putB B c s k) (clkB B c s) :=
 ((h.hs (by omega)).put hk (.inr hb)).rd
theorem zLA (n : Nat) (w : List UInt8) : ∀ a : List (List UInt8), u1 n (a ++ [w]) = match u1 n a with
  | none => none
  | some l => match numV w with
   | none => none
   | some p => if p < n then some (l ++ [p]) else none
 | [] => by
  rw [List.nil_append, u1]
  simp only [u1]
  cases numV w with
  | none => rfl
  | some p =>
   simp only
   by_cases hp : p < n
   ·rw [if_pos hp, if_pos hp]; try rfl
   ·rw [if_neg hp, if_neg hp]
 | x :: a => by
  rw [List.cons_append, u1, u1, zLA n w a]
  cases numV x with
  | none => rfl
  | some q =>
   simp only
   by_cases hq : q < n
   ·rw [if_pos hq, if_pos hq]
    cases u1 n a with
    | none => rfl
    | some l =>
     simp only [Option.map_some]
     cases numV w with
     | none => rfl
     | some p =>
      simp only
      split <;> rfl
   ·rw [if_neg hq, if_neg hq]
theorem zMh {n : Nat} {b : List (List UInt8)} : ∀ {a : List (List UInt8)}, u1 n a = none → u1 n (a ++ b) = none
 | [], h => by cases h
 | x :: a, h => by
  rw [u1] at h
  rw [List.cons_append, u1]
  cases hx : numV x with
  | none => rfl
  | some q =>
   rw [hx] at h
   simp only at h ⊢
   by_cases hq : q < n
   ·rw [if_pos hq] at h ⊢
    have h2 : u1 n a = none := by
     cases ha : u1 n a with
     | none => rfl
     | some l => rw [ha] at h; cases h
    rw [zMh h2]; try rfl
   ·rw [if_neg hq]
theorem zLT {n i : Nat} {ps : List (List UInt8)} {w : List UInt8} (hw : ps[i]? = some w) : ps.take (i + 1) = ps.take i ++ [w] := by
 rw [List.take_add_one, hw]; try rfl
theorem zLU {n i : Nat} {ps : List (List UInt8)} {w : List UInt8} {qs : List Nat} (hw : ps[i]? = some w) (hq : u1 n (ps.take i) = some qs) (hb : ∀ p, numV w = some p → ¬ p < n) : u1 n ps = none := by
 have h1 : u1 n (ps.take (i + 1)) = none := by
  rw [zLT (n := n) hw, zLA, hq]
  cases hv : numV w with
  | none => rfl
  | some p => simp only; rw [if_neg (hb p hv)]
 have h2 := zMh (b := ps.drop (i + 1)) h1
 rwa [List.take_append_drop] at h2
theorem zM2 {n i p : Nat} {ps : List (List UInt8)} {w : List UInt8} {qs : List Nat} (hw : ps[i]? = some w) (hq : u1 n (ps.take i) = some qs) (hv : numV w = some p) (hp : p < n) : u1 n (ps.take (i + 1)) = some (qs ++ [p]) := by
 rw [zLT (n := n) hw, zLA, hq, hv]
 simp only
 rw [if_pos hp]
theorem zNm {n : Nat} {w0 w1 : List UInt8} {ps : List (List UInt8)} (h : ∀ x l, numV w1 = some x → u1 n ps ≠ some l) : headF n (w0 :: w1 :: ps) = none := by
 by_cases hs : w0 = draftS ∧ ps.length ≤ 2 ∧ (n = 0 ↔ ps = [])
 ·show (if w0 = draftS ∧ ps.length ≤ 2 ∧ (n = 0 ↔ ps = []) then _ else none) = none
  rw [if_pos hs]
  cases hv : numV w1 with
  | none => rfl
  | some x =>
   simp only
   cases hp : u1 n ps with
   | none => rfl
   | some l => exact absurd hp (h x l hv)
 ·show (if w0 = draftS ∧ ps.length ≤ 2 ∧ (n = 0 ↔ ps = []) then _ else none) = none
  rw [if_neg hs]
theorem zLa {n : Nat} {w0 w1 : List UInt8} {ps : List (List UInt8)} (h : ¬ (w0 = draftS ∧ ps.length ≤ 2 ∧ (n = 0 ↔ ps = []))) : headF n (w0 :: w1 :: ps) = none := by
 show (if w0 = draftS ∧ ps.length ≤ 2 ∧ (n = 0 ↔ ps = []) then _ else none) = none
 rw [if_neg h]
theorem zMr {n : Nat} {W : List (List UInt8)} (h : W.length < 2) : headF n W = none := by
 match W, h with
 | [], _ => rfl
 | [_], _ => rfl
theorem zMV {n : Nat} {W : List (List UInt8)} (h : 4 < W.length) : headF n W = none := by
 match W, h with
 | w0 :: w1 :: ps, h =>
  refine zLa fun h1 => ?_
  simp only [List.length_cons] at h
  omega
theorem zME {n x : Nat} {w0 w1 : List UInt8} {ps : List (List UInt8)} {l : List Nat} (h : w0 = draftS ∧ ps.length ≤ 2 ∧ (n = 0 ↔ ps = [])) (h1 : numV w1 = some x) (h2 : u1 n ps = some l) : headF n (w0 :: w1 :: ps) = some (x, l) := by
 show (if w0 = draftS ∧ ps.length ≤ 2 ∧ (n = 0 ↔ ps = []) then _ else none) = _
 rw [if_pos h, h1, h2]; try rfl
theorem zLV (s : List UInt8) : ∀ (f a fr to : Nat) (l : List Stp) (e : Nat) (l2 : List Stp), readF s f a fr to l = .yes e l2 → fr ≤ 65536 → to ≤ 65536 → (∀ x ∈ l, 0 ≤ x.k ∧ x.k ≤ 65536 ∧ x.d.length ≤ 65536 ∧ x.p.length ≤ 65536) →
  l2.length ≤ l.length + f ∧ ∀ x ∈ l2, 0 ≤ x.k ∧ x.k ≤ 65536 ∧ x.d.length ≤ 65536 ∧ x.p.length ≤ 65536
 | 0, a, fr, to, l, e, l2, h, _, _, _ => by cases h
 | f + 1, a, fr, to, l, e, l2, h, h1, h2, h3 => by
  rw [readF] at h
  split at h
  ·split at h
   ·cases h
   ·cases hs : stepF s (if l = [] then a else a + 1) fr to with
    | no w => rw [hs] at h; cases h
    | yes e1 x =>
     rw [hs] at h
     simp only at h
     have q := zLj hs h1 h2
     have r := zLV s f _ _ _ _ _ _ h q.2.2.2.1 q.2.2.2.2 (fun y hy => by
      rcases List.mem_append.1 hy with hy | hy
      ·exact h3 y hy
      ·rw [List.mem_singleton] at hy
       subst hy
       omega)
     rw [List.length_append, List.length_singleton] at r
     exact ⟨by omega, r.2⟩
  ·cases h
   exact ⟨by omega, h3⟩
theorem zNw {s : List UInt8} {e : Nat} {l : List Stp} (hs : s.length ≤ 1048575) (h : readF s (s.length + 1) 0 0 0 [] = .yes e l) : Fit l := by
 obtain ⟨h1, h2⟩ := zLV s _ 0 0 0 [] e l h (by omega) (by omega) (fun x hx => by cases hx)
 simp only [List.length_nil] at h1
 exact ⟨by omega, fun x hx => by have := h2 x hx; omega, fun x hx => by have := h2 x hx; omega, fun x hx => by have := h2 x hx; omega⟩
theorem zMy (s : List UInt8) : ∀ (f a : Nat) (o : List UInt8) (w : Nat), quoF s f a o = .no w → a ≤ s.length → w ≤ s.length
 | 0, a, o, w, h, ha => by cases h; exact ha
 | f + 1, a, o, w, h, ha => by
  rw [quoF] at h
  split at h
  ·cases h
  ·split at h
   ·next h1 =>
    cases hp : partF s (a + 1) with
    | no v => rw [hp] at h; cases h; exact zNK hp h1.1
    | yes e1 t1 => rw [hp] at h; exact zMy s f _ _ _ h (zLB hp).2.1
   ·split at h
    ·next h1 => exact zMy s f _ _ _ h h1.1
    ·cases h; exact ha
theorem zNL {s : List UInt8} {a w : Nat} (h : quotF s a = .no w) (ha : a ≤ s.length) : w ≤ s.length := by
 unfold quotF at h
 split at h
 ·next h1 => exact zMy s _ _ _ _ h h1.1
 ·cases h; exact ha
theorem zNu {s : List UInt8} {a room w : Nat} (h : qokF s a room = .no w) (ha : a ≤ s.length) : w ≤ s.length := by
 unfold qokF at h
 cases hq : quotF s a with
 | no v => rw [hq] at h; cases h; exact zNL hq ha
 | yes e t =>
  rw [hq] at h
  simp only at h
  split at h
  ·cases h; exact ha
  ·cases h
theorem zNY {s : List UInt8} {a fr to w : Nat} (h : numF s a fr to = .no w) (ha : a ≤ s.length) : w ≤ s.length := by
 unfold numF at h
 split at h
 ·split at h
  ·cases h; exact ha
  ·cases h
 ·cases h; exact ha
theorem zNO {s : List UInt8} {a fr to w : Nat} (h : stepF s a fr to = .no w) (ha : a ≤ s.length) : w ≤ s.length := by
 unfold stepF at h
 split at h
 ·next h1 =>
  cases hq : numF s (a + 1) fr to with
  | no v => rw [hq] at h; cases h; exact zNY hq h1.1
  | yes e n => rw [hq] at h; cases h
 ·split at h
  ·next h1 =>
   cases hq : qokF s (a + 1) (65536 - fr) with
   | no v => rw [hq] at h; cases h; exact zNu hq h1.1
   | yes e n => rw [hq] at h; cases h
  ·split at h
   ·next h1 =>
    cases hq : qokF s (a + 1) (65536 - to) with
    | no v => rw [hq] at h; cases h; exact zNu hq h1.1
    | yes e n => rw [hq] at h; cases h
   ·cases h; exact ha
theorem zMj (s : List UInt8) : ∀ (f a fr to : Nat) (l : List Stp) (w : Nat), readF s f a fr to l = .no w → a ≤ s.length → fr ≤ 65536 → to ≤ 65536 → w ≤ s.length
 | 0, a, fr, to, l, w, h, ha, _, _ => by cases h; exact ha
 | f + 1, a, fr, to, l, w, h, ha, h1, h2 => by
  rw [readF] at h
  split at h
  ·next h3 =>
   split at h
   ·cases h; exact ha
   ·have ha2 : (if l = [] then a else a + 1) ≤ s.length := by split <;> omega
    cases hs : stepF s (if l = [] then a else a + 1) fr to with
    | no v => rw [hs] at h; cases h; exact zNO hs ha2
    | yes e1 x =>
     rw [hs] at h
     have q := zLj hs h1 h2
     exact zMj s f _ _ _ _ _ h q.2.1 q.2.2.2.1 q.2.2.2.2
  ·cases h
theorem zMN {s : List UInt8} {w : Nat} (h : readF s (s.length + 1) 0 0 0 [] = .no w) : w ≤ s.length := zMj s _ 0 0 0 [] w h (Nat.zero_le _) (by omega) (by omega)
theorem zLQ {P : List Dr} {nb : Bool} {line R : List UInt8} {x : Nat} {qs : List Nat} (hR : R = line.drop ((pre 58 line).length + 1)) (hc : 58 ∈ line) (hn : nb = false) (hhd : headF P.length (spl 32 (pre 58 line)) = some (x, qs)) (hr : R = [] ∨ ∃ s, R = 32 :: s) :
  lineF P nb line = if P.length = 256 then .no 3 0 else if R = [32] then .no 281 0
   else match readF (R.drop 1) ((R.drop 1).length + 1) 0 0 0 [] with
    | .no w => .no 271 ((pre 58 line).length + 2 + w)
    | .yes _ l => match applyO (qs.head?.elim [] (txOf P)) l with
     | none => .no 281 0
     | some t => if wX (P ++ [mkD x qs t]) P.length = R.drop 1 then .yes (mkD x qs t) else .no 281 0 := by
 have e : line.drop ((pre 58 line).length + 2) = R.drop 1 := by rw [hR, List.drop_drop]
 unfold lineF
 have hno : ¬ (58 ∉ line ∨ nb = true ∨ (R ≠ [] ∧ R.head? ≠ some 32)) := by
  rintro (h | h | ⟨h, h2⟩)
  ·exact h hc
  ·rw [hn] at h; cases h
  ·rcases hr with rfl | ⟨s, rfl⟩
   ·exact h rfl
   ·exact h2 rfl
 rw [e, ← hR, if_neg hno, hhd]
 try rfl
theorem zMZ {P : List Dr} {nb : Bool} {line : List UInt8} (h : headF P.length (spl 32 (pre 58 line)) = none) : lineF P nb line = .no 281 0 := by
 unfold lineF
 split
 ·rfl
 ·rw [h]
theorem zMt {P : List Dr} {nb : Bool} {line : List UInt8} (h : 58 ∉ line ∨ nb = true ∨ (line.drop ((pre 58 line).length + 1) ≠ [] ∧ (line.drop ((pre 58 line).length + 1)).head? ≠ some 32)) : lineF P nb line = .no 281 0 := by
 unfold lineF
 rw [if_pos h]
end Go.Eng
namespace Go.Eng
open Go
def lnsG : Nat → List UInt8 → List (List UInt8)
 | 0, _ => []
 | f + 1, s => if s = [] then [] else pre 10 s :: lnsG f (s.drop ((pre 10 s).length + 1))
def lns (s : List UInt8) : List (List UInt8) := lnsG s.length s
theorem zMe : ∀ (f g : Nat) (s : List UInt8), s.length ≤ f → f ≤ g → lnsG g s = lnsG f s
 | 0, 0, s, _, _ => rfl
 | 0, g + 1, s, h, _ => by
  obtain rfl : s = [] := List.length_eq_zero_iff.1 (by omega)
  rfl
 | f + 1, 0, s, _, h => absurd h (by omega)
 | f + 1, g + 1, s, h, hg => by
  rw [lnsG, lnsG]
  by_cases hs : s = []
  ·rw [if_pos hs, if_pos hs]
  ·rw [if_neg hs, if_neg hs, zMe f g _ (by rw [List.length_drop]; have := List.length_pos_iff.2 hs; omega) (by omega)]
theorem zNX : lns [] = [] := rfl
theorem zMF {s : List UInt8} (h : s ≠ []) : lns s = pre 10 s :: lns (s.drop ((pre 10 s).length + 1)) := by
 have h0 := List.length_pos_iff.2 h
 obtain ⟨f, hf⟩ : ∃ f, s.length = f + 1 := ⟨s.length - 1, by omega⟩
 unfold lns
 rw [hf, lnsG, if_neg h]
 congr 1
 exact zMe _ _ _ (Nat.le_refl _) (by rw [List.length_drop]; omega)
structure Rs where
 L : List Dr
 B : Br
 c : Nat
def stepR (st : Rs) (line : List UInt8) : Ln Rs :=
 if Lib.hasPrefix line branchS = true then match branF st.L.length st.B line with
  | .no e _ => .no e 0
  | .yes x => .yes ⟨st.L, putB st.B st.c x.1 x.2, clkB st.B st.c x.1⟩
 else match lineF st.L (!st.B.isEmpty) line with
  | .no e k => .no e k
  | .yes d => .yes ⟨st.L ++ [d], st.B, st.c⟩
def readR : List (List UInt8) → Nat → Rs → Ln Rs
 | [], _, st => .yes st
 | l :: ls, a, st => match stepR st l with
  | .no e k => .no e (a + k)
  | .yes st' => readR ls (a + l.length + 1) st'
def readH (text : List UInt8) : Ln Rs :=
 if 1048576 < text.length then .no 3 1048576 else match readR (lns text) 0 ⟨[], [], 0⟩ with
  | .no e k => .no e k
  | .yes st => if st.L = [] then .no 281 text.length else .yes st
theorem zLR {L P : List Dr} (h : SameD L P) (nb : Bool) (line : List UInt8) : lineF L nb line = lineF P nb line := by
 unfold lineF
 rw [h.length]
 have ht : txOf L = txOf P := funext fun i => h.tx i
 rw [ht]
 have hs : ∀ x ps t, wX (L ++ [mkD x ps t]) P.length = wX (P ++ [mkD x ps t]) P.length := fun x ps t => SameD.said (SameD.snoc h rfl rfl rfl) _
 simp only [hs]
theorem zMu {P : List Dr} {nb : Bool} {line : List UInt8} {e k : Nat} (h : lineF P nb line = .no e k) : k ≤ 2 * line.length + 2 := by
 unfold lineF at h
 split at h
 ·cases h; omega
 ·split at h
  ·cases h; omega
  ·split at h
   ·cases h; omega
   ·split at h
    ·cases h; omega
    ·split at h
     ·next w hr =>
      cases h
      have h1 := zMN hr
      have h2 := zML 58 line
      rw [List.length_drop] at h1
      omega
     ·split at h
      ·cases h; omega
      ·split at h
       ·cases h
       ·cases h; omega
theorem zNG {n : Nat} {B : Br} {line : List UInt8} {e k : Nat} (h : branF n B line = .no e k) : e ≠ 0 ∧ k = 0 := by
 unfold branF at h
 split at h
 ·split at h
  ·split at h
   ·cases h; exact ⟨by decide, rfl⟩
   ·split at h
    ·split at h
     ·cases h; exact ⟨by decide, rfl⟩
     ·cases h
    ·cases h; exact ⟨by decide, rfl⟩
  ·cases h; exact ⟨by decide, rfl⟩
 ·cases h; exact ⟨by decide, rfl⟩
theorem zNf {n : Nat} {B : Br} {line : List UInt8} {x : List UInt8 × Nat} (h : branF n B line = .yes x) : x.2 < n ∧ yP B x.1 = none ∧ B.length ≠ 32 ∧ x6 x.1 := by
 unfold branF at h
 split at h
 ·split at h
  ·next h1 =>
   split at h
   ·cases h
   ·split at h
    ·next h2 =>
     split at h
     ·cases h
     ·next h3 => cases h; exact ⟨h2.1, h2.2, h3, h1.2⟩
    ·cases h
  ·cases h
 ·cases h
end Go.Eng
namespace Go.Eng
open Go
end Go.Eng
namespace ZP
open Go Go.Eng
attribute [local irreducible] WL WC WQ QFun zJ Does Q1 zD zB Go.Addr.add
namespace ZD70a
theorem zal {G G' : Prop} (next : G') (h : Bx G' → G := by intro zzn; (first | (refine WL.makeMapT rfl ?_; intro zzf)); (repeat revert zzf); exact zzn.out) : G := h ⟨next⟩
end ZD70a
end ZP
