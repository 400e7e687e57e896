/-
  Parts of a walk, joined. No condition.
-/
import Derived.Test.YtgckeelnhafgaaaGreatDoorP14
set_option linter.all false
set_option maxRecDepth 100000
set_option maxHeartbeats 4000000
open Go.Proofs Go.Proofs.YtgckeelnhafgaaaGreatDoor
open Tryz
open Go Go.Eng
variable {P : Program} {ro : Option Nat} {n : Nat} {w0 : World} {Q : Exit → Act → World → Prop} {r : Env} {ds : List Dfr} {m : Mem} {H : SHeap} {ops : Array Oper} {l : List Oper} {d : Nat} {ty : TypeId} {pos : String} {after : Array Edge}
attribute [local irreducible] WL WC WQ QFun zJ Does Q1 zD zB Go.Addr.add
namespace ZP
open Go Go.Eng
attribute [local irreducible] mapT brN brL x6 drs
def bsB (B : Br) (c : Nat) (r : Ln (List UInt8 × Nat)) : Br := match r with
 | .no _ _ => B
 | .yes x => putB B c x.1 x.2
def bsC (B : Br) (c : Nat) (r : Ln (List UInt8 × Nat)) : Nat := match r with
 | .no _ _ => c
 | .yes x => clkB B c x.1
def bsE (r : Ln (List UInt8 × Nat)) : Nat := match r with
 | .no e _ => e
 | .yes _ => 0
namespace ZD91a
theorem zal {G G' : Prop} (next : G') (h : Bx G' → G := by intro zzn; (first | (refine iF 47 rfl ?_; refine zU func47 ?_ (hs := zAY _ (by omega) _ _ _)) | (refine iF 38 rfl ?_; refine zU func38 ?_ (hs := jL _ zhs)) | (refine WL.lookT (es := brE _) (z := .int .i64 0) rfl rfl zhs rfl rfl (fun _ => rfl) rfl ?_)); (repeat revert zzf); exact zzn.out) : G := h ⟨next⟩
end ZD91a
open ZD91a in
theorem zLx {bh bm cap c : Nat} {a : Option Addr} {L : List Dr} {B : Br} (line : Tx) (hl : line.length < 4294967281) (hB : B.length ≤ 32) (hL : L.length ≤ 256) {w0 : World} {m : Mem} {H : SHeap} (hg : GRead Tryz.prog m) :
  Does Tryz.prog 62 #[.pp bh, str line] w0 m (.bl bh [.slice a L.length cap, .map (some bm)] 90 :: .row a cap 97 3 (drs L) :: .blk bm (mapT (brE B) c) :: H) (fun v m' H' => m' = m ∧ v = .int .i64 (bsE (branF L.length B line) : Int) ∧ H' = .bl bh [.slice a L.length cap, .map (some bm)] 90 :: .row a cap 97 3 (drs L) :: .blk bm (mapT (brE (bsB B c (branF L.length B line))) (bsC B c (branF L.length B line))) :: H) := by
 refine Does.of_body func62 rfl ntmps62 rfl ?_
 have hgl := hg.len
 try (refine stg ?_; intros)
 refine zA func64 ?_ (hs := zMl 32 hl hg.len)
 rintro v m H1 ⟨rfl, bw, rfl, rfl⟩
 have hbr : branF L.length B line = match spl 32 line with
  | [w0, w1, w2] => if w0 = branchS ∧ x6 w1 then match numV w2 with
   | none => .no 281 0
   | some k => if k < L.length ∧ yP B w1 = none then (if B.length = 32 then .no 3 0 else .yes (w1, k)) else .no 281 0
   else .no 281 0
  | _ => .no 281 0 := rfl
 have hsl := zLi 32 line
 generalize hW : spl 32 line = W at *
 by_cases h3 : W.length = 3
 ·obtain ⟨x0, x1, x2, rfl⟩ : ∃ x0 x1 x2, W = [x0, x1, x2] := by
   match W, h3 with
   | [x0, x1, x2], _ => exact ⟨x0, x1, x2, rfl⟩
  have hx1 : x1.length ≤ line.length := zLd (c := 32) (s := line) (by rw [hW]; simp)
  have hx2 : x2.length ≤ line.length := zLd (c := 32) (s := line) (by rw [hW]; simp)
  simp only at hbr
  have g0 : (strs [x0, x1, x2])[0]? = some [str x0] := rfl
  have g1 : (strs [x0, x1, x2])[1]? = some [str x1] := rfl
  have g2 : (strs [x0, x1, x2])[2]? = some [str x2] := rfl
  generalize strs [x0, x1, x2] = SW at *
  have hl3 : ([x0, x1, x2] : List Tx).length = 3 := rfl
  rw [hl3]
  have hbs : branchS = [98, 114, 97, 110, 99, 104] := rfl
  by_cases h0 : x0 = [98, 114, 97, 110, 99, 104]
  ·by_cases hn : x6 x1
   ·rw [if_pos ⟨h0, hn⟩] at hbr
    have hd := zE hn
    try (refine stg ?_; intros)
    refine zA func93 ?_ (hs := zLy x2 (by omega) hg)
    rintro v m H1 ⟨rfl, rfl, z, rfl, hz⟩
    cases hv : numV x2 with
    | none =>
     rw [hv] at hbr
     simp only at hbr
     rw [hbr]
     simp only [Option.isSome_none]
     try (refine stg ?_; intros)
     exact q_fz ⟨rfl, rfl, rfl⟩
    | some k =>
     rw [hv] at hbr hz
     simp only at hbr
     obtain rfl := hz k rfl
     simp only [Option.isSome_some]
     by_cases hk : k < L.length
     ·by_cases hh : yP B x1 = none
      ·rw [if_pos ⟨hk, hh⟩] at hbr
       have hs1 : (getT (brE B) x1).isSome = false := by rw [wD, hh]; try rfl
       have hp1 : putB B c x1 k = B ++ [(c, x1, k)] := by unfold putB; rw [hh]; try rfl
       by_cases h32 : B.length = 32
       ·rw [if_pos h32] at hbr
        rw [hbr]
        try (refine stg ?_; intros)
        refine WL.lenMapT (es := brE B) rfl zhs rfl rfl ?_
        rw [uF]
        try (refine stg ?_; intros)
        exact q_fz ⟨rfl, rfl, rfl⟩
       ·rw [if_neg h32] at hbr
        rw [hbr]
        try (refine stg ?_; intros)
        refine WL.lenMapT (es := brE B) rfl zhs rfl rfl ?_
        rw [uF]
        try (refine stg ?_; intros)
        refine WL.putU (es := brE B) (k := x1) rfl rfl rfl rfl rfl (by repeat (first | exact Repl.here | apply Repl.there)) ?_
        rw [zDw, zCT]
        try (refine stg ?_; intros)
        exact q_fz ⟨rfl, rfl, rfl⟩
      ·rw [if_neg (fun h => hh h.2)] at hbr
       rw [hbr]
       obtain ⟨j, hj⟩ : ∃ j, yP B x1 = some j := by
        cases hq : yP B x1 with
        | none => exact absurd hq hh
        | some j => exact ⟨j, rfl⟩
       have hs1 : (getT (brE B) x1).isSome = true := by rw [wD, hj]; try rfl
       try (refine stg ?_; intros)
       exact q_fz ⟨rfl, rfl, rfl⟩
     ·rw [if_neg (fun h => hk h.1)] at hbr
      rw [hbr]
      try (refine stg ?_; intros)
      exact q_fz ⟨rfl, rfl, rfl⟩
   ·rw [if_neg (fun h => hn h.2)] at hbr
    have hd := zH hn
    rw [hbr]
    try (refine stg ?_; intros)
    exact q_fz ⟨rfl, rfl, rfl⟩
  ·rw [if_neg (fun h => h0 h.1)] at hbr
   rw [hbr]
   try (refine stg ?_; intros)
   exact q_fz ⟨rfl, rfl, rfl⟩
 ·have hbr2 : branF L.length B line = .no 281 0 := by
   rw [hbr]
   match W, h3 with
   | [], _ => rfl
   | [_], _ => rfl
   | [_, _], _ => rfl
   | [_, _, _], h => exact absurd rfl h
   | _ :: _ :: _ :: _ :: _, _ => rfl
  rw [hbr2]
  try (refine stg ?_; intros)
  exact q_fz ⟨rfl, rfl, rfl⟩
end ZP
namespace ZP
open Go Go.Eng
theorem zNU (b : Nat) (s : List UInt8) (a : Nat) (wr fr tO : Int) (c : UInt8) (hs : s.length ≤ 1000000000) (ha : a ≤ 1000000001) (w0 : World) (m : Mem) (H : SHeap) :
  Does Tryz.prog 131 #[.pp b, .int .u8 (c.toNat : Int)] w0 m (.bl b [str s, .int .i64 (a : Int), .int .i64 wr, .int .i64 fr, .int .i64 tO] 221 :: H) (Gives (.bool (dcd (a < s.length ∧ gb s a = c.toNat))) m (.bl b [str s, .int .i64 (a : Int), .int .i64 wr, .int .i64 fr, .int .i64 tO] 221 :: H)) := by
 refine Does.of_body func131 rfl ntmps131 rfl ?_
 by_cases h1 : a < s.length
 ·by_cases h2 : gb s a = c.toNat
  ·have h3 : (gb s a : Int) = (c.toNat : Int) := by rw [h2]
   rw [zE ⟨h1, h2⟩]
   try (refine st ?_; intros)
   exact q_fz (Gives.mk (show Value.bool (dcd ((gb s a : Int) = (c.toNat : Int))) = .bool true by rw [zE h3]))
  ·have h3 : ¬ (gb s a : Int) = (c.toNat : Int) := fun h => h2 (Int.ofNat.inj h)
   rw [zH (fun h => h2 h.2)]
   try (refine st ?_; intros)
   exact q_fz (Gives.mk (show Value.bool (dcd ((gb s a : Int) = (c.toNat : Int))) = .bool false by rw [zH h3]))
 ·rw [zH (fun h => h1 h.1)]
  try (refine st ?_; intros)
  exact q_fz zgm
theorem zNV {b : Nat} {s : List UInt8} {a : Nat} {wr fr tO : Int} {c : UInt8} {w0 : World} {m : Mem} {H : SHeap} (hm : .bl b [str s, .int .i64 (a : Int), .int .i64 wr, .int .i64 fr, .int .i64 tO] 221 ∈ H) (hs : s.length ≤ 1000000000) (ha : a ≤ 1000000001) :
  Does Tryz.prog 131 #[.pp b, .int .u8 (c.toNat : Int)] w0 m H (Gives (.bool (dcd (a < s.length ∧ gb s a = c.toNat))) m H) := Does.gives_at hm fun _ => zNU b s a wr fr tO c hs ha _ _ _
theorem zLZ {b : Nat} {s : List UInt8} {a : Nat} {wr fr tO k : Int} {w0 : World} {m : Mem} {H : SHeap} (hm : .bl b [str s, .int .i64 (a : Int), .int .i64 wr, .int .i64 fr, .int .i64 tO] 221 ∈ H) (hs : s.length ≤ 1000000000) (ha : a ≤ 1000000001) (hk : 0 ≤ k ∧ k ≤ 255) :
  Does Tryz.prog 131 #[.pp b, .int .u8 k] w0 m H (Gives (.bool (dcd (a < s.length ∧ (gb s a : Int) = k))) m H) := by
 obtain ⟨c, rfl⟩ : ∃ c : UInt8, k = (c.toNat : Int) := ⟨UInt8.ofNat k.toNat, by rw [UInt8.toNat_ofNat']; omega⟩
 have := zNV (b := b) (c := c) (w0 := w0) (m := m) hm hs ha
 rw [xW (show (a < s.length ∧ gb s a = c.toNat) ↔ (a < s.length ∧ (gb s a : Int) = (c.toNat : Int)) by omega)] at this
 exact this
theorem z1 (b : Nat) (s : List UInt8) (a : Nat) (wr fr tO x : Int) (w0 : World) (m : Mem) (H : SHeap) :
  Does Tryz.prog 182 #[.pp b, .int .i64 x] w0 m (.bl b [str s, .int .i64 (a : Int), .int .i64 wr, .int .i64 fr, .int .i64 tO] 221 :: H) (fun v m' H' => v = .bool false ∧ m' = m ∧ H' = .bl b [str s, .int .i64 (a : Int), .int .i64 x, .int .i64 fr, .int .i64 tO] 221 :: H) := by
 refine Does.of_body func182 rfl ntmps182 rfl ?_
 try (refine st ?_; intros)
 exact q_fz ⟨rfl, rfl, rfl⟩
end ZP
namespace ZP
open Go Go.Eng
theorem zMK {a x : Nat} (k b : Nat) (ha : a = 2 ^ k * b) (h : x < 2 ^ k) : a ||| x = a + x := by rw [ha]; exact (Nat.two_pow_add_eq_or_of_lt h b).symm
theorem zC8 (r : Int) (h0 : 0 ≤ r ∧ r ≤ 2147483647) (w0 : World) (m : Mem) (H : SHeap) : Does Tryz.prog 245 #[.int .i32 r] w0 m H (Gives (.int .u8 (128 + r % 64)) m H) := by
 refine Does.of_body func245 rfl ntmps245 rfl ?_
 have h1 : (r % 256).toNat &&& (63 : Int).toNat = (r % 64).toNat := by
  have := Nat.and_two_pow_sub_one_eq_mod (r % 256).toNat 6
  rw [show (63 : Int).toNat = 2 ^ 6 - 1 by decide, this]; omega
 have h2 : (r % 64).toNat ||| (128 : Int).toNat = 128 + (r % 64).toNat := by
  rw [Nat.or_comm]; exact zMK 7 1 (by decide) (by omega)
 try (refine st ?_; intros)
 refine zR ?_
 refine Gives.mk (vi ?_)
 rw [h1, Int.toNat_natCast, h2]; omega
theorem zMB (r : Int) : widthS r = 0 ↔ Utf8.valid r = false := by
 have hw := zBB (rn r)
 rcases zFG r with ⟨h1, h2⟩ | ⟨h1, h2⟩
 ·unfold widthS
  rw [h2]
  by_cases h3 : r = 65533
  ·subst h3; exact absurd h1 (by decide)
  ·simp [h3, h1, zFB]
 ·have hok := zKV r
  have h4 := zH6 hok
  rw [← h2] at h4
  rw [h4, h1]; constructor
  ·intro h; omega
  ·intro h; cases h
theorem zNz (c e : Nat) (h : c ≤ 2147483647) : 0 ≤ (c : Int) / 2 ^ e ∧ (c : Int) / 2 ^ e ≤ 2147483647 := by
 have h1 := Int.ediv_le_self (a := (c : Int)) (2 ^ e) (by omega)
 have h2 : 0 ≤ (c : Int) / 2 ^ e := Int.ediv_nonneg (by omega) (Int.le_of_lt (Int.pow_pos (by decide)))
 omega
theorem zL4 (c e q : Nat) (hq : 2 ^ e = q) : (c : Int) / 2 ^ e = ((c / q : Nat) : Int) := by subst hq; push_cast; rfl
namespace ZER3a
theorem zal {G G' : Prop} (next : G') (h : Bx G' → G := by intro zzn; (first | (refine iF 245 rfl ?_; refine zU func245 ?_ (hs := zC8 _ (by first | omega | exact zNz _ _ (by omega)) _ _ _)) | (refine iF 221 rfl ?_; refine zU func221 ?_ (hs := zHk _ _ _ _))); (repeat revert zzf); exact zzn.out) : G := h ⟨next⟩
end ZER3a
open ZER3a in
theorem zMU (r : Int) (w0 : World) (m : Mem) (H : SHeap) : Does Tryz.prog 237 #[.int .i32 r] w0 m H (Gives (str (fmb (rn r))) m H) := by
 have hok := zKV r
 refine Does.of_body func237 rfl ntmps237 rfl ?_
 have hz := zMB r
 try (refine stg ?_; intros)
 refine WC.join (fun r' ds' m' H' => r' = [(0, .int .i32 (rn r : Int)), (2, str [])] ∧ ds' = [] ∧ m' = m ∧ H' = H) ?_ ?_
 ·(first | refine wG (fun h1 => ?_) (fun h1 => ?_) | refine xF (fun h1 => ?_) (fun h1 => ?_) | refine xA (fun h1 => ?_) (fun h1 => ?_) | refine yK (fun h1 => ?_) (fun h1 => ?_))
  ·rcases zFG r with ⟨hf, hr⟩ | ⟨hf, hr⟩
   ·try (refine stg ?_; intros)
    exact WQ.join ⟨rfl, rfl, rfl, rfl⟩ (Env.Sub.cons (by rw [hr]; rfl) (Env.Sub.cons rfl .nil)) (fun w h => h)
   ·rw [hz, hf] at h1; cases h1
  ·rcases zFG r with ⟨hf, hr⟩ | ⟨hf, hr⟩
   ·exact absurd (hz.2 hf) h1
   ·try (refine stg ?_; intros)
    exact WQ.join ⟨rfl, rfl, rfl, rfl⟩ (Env.Sub.cons (by rw [← hr]; rfl) (Env.Sub.cons rfl .nil)) (fun w h => h)
 rintro _ _ _ _ ⟨rfl, rfl, rfl, rfl⟩
 generalize rn r = c at hok ⊢
 have hc := qZ hok
 have fin : ∀ (L : List Nat), fm c = L → (∀ x ∈ L, x < 256) → L.map (fun x : Nat => Value.int .u8 (x : Int)) = (fmb c).map fun b => Value.int .u8 (b.toNat : Int) := by
  intro L hL hx
  unfold fmb
  rw [hL, List.map_map]
  apply List.map_congr_left
  intro x h
  have := hx x h
  simp; omega
 rcases (show c < 128 ∨ (128 ≤ c ∧ c < 2048) ∨ (2048 ≤ c ∧ c < 65536) ∨ 65536 ≤ c by omega) with h | h | h | h
 ·try (refine stg ?_; intros)
  apply WL.blkStr (s := fmb c)
  ·exact rfl
  ·(repeat (first | exact List.Mem.head _ | apply List.Mem.tail))
  ·rw [← fin [c] (by unfold fm; rw [if_pos h]) (by simp; omega)]; rfl
  ·rw [xS]; unfold wd; rw [if_pos h]
  ·exact rfl
  ·exact rfl
  ·exact rfl
  ·exact rfl
  ·exact rfl
  try (refine stg ?_; intros)
  refine zR ?_
  exact Gives.mk rfl
 ·try (refine stg ?_; intros)
  apply WL.blkStr (s := fmb c)
  ·exact rfl
  ·(repeat (first | exact List.Mem.head _ | apply List.Mem.tail))
  ·rw [← fin [0xC0 + c / 64, 0x80 + c % 64] (by unfold fm; rw [if_neg (by omega), if_pos h.2]) (by simp; omega)]
   have e3 : 192 ||| ((c : Int) / 64 % 256).toNat = 192 + c / 64 := by
    rw [show ((c : Int) / 64 % 256).toNat = c / 64 by omega]; exact zMK 5 6 (by decide) (by omega)
   simp [e3]
  ·rw [xS]; unfold wd; rw [if_neg (by omega), if_pos h.2]
  ·exact rfl
  ·exact rfl
  ·exact rfl
  ·exact rfl
  ·exact rfl
  try (refine stg ?_; intros)
  refine zR ?_
  exact Gives.mk rfl
 ·try (refine stg ?_; intros)
  apply WL.blkStr (s := fmb c)
  ·exact rfl
  ·(repeat (first | exact List.Mem.head _ | apply List.Mem.tail))
  ·rw [← fin [0xE0 + c / 4096, 0x80 + c / 64 % 64, 0x80 + c % 64] (by unfold fm; rw [if_neg (by omega), if_neg (by omega), if_pos h.2]) (by simp; omega)]
   have e1 := zL4 c 6 64 (by decide)
   have e2 := zL4 c 12 4096 (by decide)
   have e3 : 224 ||| ((c : Int) / 4096 % 256).toNat = 224 + c / 4096 := by
    rw [show ((c : Int) / 4096 % 256).toNat = c / 4096 by omega]; exact zMK 4 14 (by decide) (by omega)
   simp [e3, e1, e2]
  ·rw [xS]; unfold wd; rw [if_neg (by omega), if_neg (by omega), if_pos h.2]
  ·exact rfl
  ·exact rfl
  ·exact rfl
  ·exact rfl
  ·exact rfl
  try (refine stg ?_; intros)
  refine zR ?_
  exact Gives.mk rfl
 ·try (refine stg ?_; intros)
  apply WL.blkStr (s := fmb c)
  ·exact rfl
  ·(repeat (first | exact List.Mem.head _ | apply List.Mem.tail))
  ·rw [← fin [0xF0 + c / 262144, 0x80 + c / 4096 % 64, 0x80 + c / 64 % 64, 0x80 + c % 64] (by unfold fm; rw [if_neg (by omega), if_neg (by omega), if_neg (by omega)]) (by simp; omega)]
   have e1 := zL4 c 6 64 (by decide)
   have e2 := zL4 c 12 4096 (by decide)
   have e3 : 240 ||| ((c : Int) / 262144 % 256).toNat = 240 + c / 262144 := by
    rw [show ((c : Int) / 262144 % 256).toNat = c / 262144 by omega]; exact zMK 3 30 (by decide) (by omega)
   simp [e3, e1, e2]
  ·rw [xS]; unfold wd; rw [if_neg (by omega), if_neg (by omega), if_neg (by omega)]
  ·exact rfl
  ·exact rfl
  ·exact rfl
  ·exact rfl
  ·exact rfl
  try (refine stg ?_; intros)
  refine zR ?_
  exact Gives.mk rfl
end ZP
namespace ZP
open Go Go.Eng
attribute [local irreducible] hexV
namespace ZEQ1a
theorem zal {G G' : Prop} (next : G') (h : Bx G' → G := by intro zzn; (first | (refine iF 244 rfl ?_; refine zU func244 ?_ (hs := zL1 (zIz _ _)))); (repeat revert zzf); exact zzn.out) : G := h ⟨next⟩
end ZEQ1a
open ZEQ1a in
theorem zLl (b : Nat) (s : List UInt8) (a : Nat) (wr fr tO : Int) (hs : s.length ≤ 1000000000) (ha : a ≤ s.length) (w0 : World) (m : Mem) (H : SHeap) :
  Does Tryz.prog 236 #[.pp b] w0 m (.bl b [str s, .int .i64 (a : Int), .int .i64 wr, .int .i64 fr, .int .i64 tO] 221 :: H) (fun v m' H' => m' = m ∧ ((a < s.length ∧ 0 ≤ hexV (UInt8.ofNat (gb s a)) ∧ v = .tuple #[.int .i64 (hexV (UInt8.ofNat (gb s a))), .bool true] ∧ H' = .bl b [str s, .int .i64 ((a + 1 : Nat) : Int), .int .i64 wr, .int .i64 fr, .int .i64 tO] 221 :: H) ∨
   (¬ (a < s.length ∧ 0 ≤ hexV (UInt8.ofNat (gb s a))) ∧ v = .tuple #[.int .i64 0, .bool false] ∧ H' = .bl b [str s, .int .i64 (a : Int), .int .i64 wr, .int .i64 fr, .int .i64 tO] 221 :: H))) := by
 refine Does.of_body func236 rfl ntmps236 rfl ?_
 by_cases h1 : a < s.length
 ·have h0 : ¬ (a : Int) = (s.length : Int) := by omega
  have hv := zL0 (UInt8.ofNat (gb s a))
  have ea : (a : Int) + 1 = ((a + 1 : Nat) : Int) := by omega
  by_cases h2 : 0 ≤ hexV (UInt8.ofNat (gb s a))
  ·try (refine stg ?_; intros)
   rw [ea]
   exact q_fz ⟨rfl, .inl ⟨h1, h2, rfl, rfl⟩⟩
  ·try (refine stg ?_; intros)
   exact q_fz ⟨rfl, .inr ⟨fun h => h2 h.2, rfl, rfl⟩⟩
 ·have h0 : (a : Int) = (s.length : Int) := by omega
  try (refine stg ?_; intros)
  exact q_fz ⟨rfl, .inr ⟨fun h => h1 h.1, rfl, rfl⟩⟩
namespace ZEQ1b
theorem zal {G G' : Prop} (next : G') (h : Bx G' → G := by intro zzn; (first | (refine ZEQ1a.zal ?_; (repeat intro zzf)) | (refine iF 237 rfl ?_; refine zU func237 ?_ (hs := zMU _ _ _ _)) | (refine iF 131 rfl ?_; refine zU func131 ?_ (hs := zLZ zhs (by omega) (by omega) (by omega)))); (repeat revert zzf); exact zzn.out) : G := h ⟨next⟩
end ZEQ1b
open ZEQ1b in
theorem zNH (s : List UInt8) (a : Nat) : digF s 2 0 a = if a < s.length ∧ 0 ≤ hexV (UInt8.ofNat (gb s a)) then
  (if a + 1 < s.length ∧ 0 ≤ hexV (UInt8.ofNat (gb s (a + 1))) then (2, 16 * (hexV (UInt8.ofNat (gb s a))).toNat + (hexV (UInt8.ofNat (gb s (a + 1)))).toNat, a + 2) else (1, (hexV (UInt8.ofNat (gb s a))).toNat, a + 1)) else (0, 0, a) := by
 rw [digF]
 by_cases h : a < s.length ∧ 0 ≤ hexV (UInt8.ofNat (gb s a))
 ·rw [if_pos h, if_pos h, digF]
  by_cases h2 : a + 1 < s.length ∧ 0 ≤ hexV (UInt8.ofNat (gb s (a + 1)))
  ·rw [if_pos h2, if_pos h2, digF]; simp
  ·rw [if_neg h2, if_neg h2]; simp
 ·rw [if_neg h, if_neg h]
open ZEQ1b in
theorem zNP {s : List UInt8} {a : Nat} (h : a < s.length) : (s.take (a + 1)).drop a = [UInt8.ofNat (gb s a)] := by
 rw [List.drop_take, show a + 1 - a = 1 by omega, List.drop_eq_getElem_cons h]
 have : UInt8.ofNat (gb s a) = s[a] := by unfold gb; rw [List.getD_eq_getElem?_getD, List.getElem?_eq_getElem h]; simp
 rw [this]; rfl
open ZEQ1b in
theorem zNi (b : Nat) (s : List UInt8) (a : Nat) (wr fr tO : Int) (hs : s.length ≤ 1000000000) (ha : a ≤ s.length) (w0 : World) (m : Mem) (H : SHeap) :
  Does Tryz.prog 217 #[.pp b] w0 m (.bl b [str s, .int .i64 (a : Int), .int .i64 wr, .int .i64 fr, .int .i64 tO] 221 :: H) (fun v m' H' => m' = m ∧ ((∃ e t, partF s a = .yes e t ∧ v = .tuple #[str t, .bool true] ∧ H' = .bl b [str s, .int .i64 (e : Int), .int .i64 wr, .int .i64 fr, .int .i64 tO] 221 :: H) ∨
   (∃ (w e : Nat), partF s a = .no w ∧ v = .tuple #[str [], .bool false] ∧ H' = .bl b [str s, .int .i64 (e : Int), .int .i64 (w : Int), .int .i64 fr, .int .i64 tO] 221 :: H))) := by
 refine Does.of_body func217 rfl ntmps217 rfl ?_
 have ea : (a : Int) + 1 = ((a + 1 : Nat) : Int) := by omega
 have ea2 : ((a + 1 : Nat) : Int) - 1 = (a : Int) := by omega
 by_cases h1 : a < s.length ∧ (gb s a = 34 ∨ gb s a = 92)
 ·have hp : partF s a = .yes (a + 1) [UInt8.ofNat (gb s a)] := by unfold partF; rw [if_pos h1]
  obtain ⟨hlt, h34⟩ := h1
  have et : (s.take (a + 1)).drop (((a + 1 : Nat) : Int) - 1).toNat = [UInt8.ofNat (gb s a)] := by rw [ea2, Int.toNat_natCast]; exact zNP hlt
  rcases h34 with h34 | h34
  all_goals
   try (refine stg ?_; intros)
   rw [ea]
   try (refine stg ?_; intros)
   rw [et]
   exact q_fz ⟨rfl, .inl ⟨a + 1, _, hp, rfl, rfl⟩⟩
 ·by_cases h2 : a < s.length ∧ gb s a = 120
  ·have hp : partF s a = if (digF s 2 0 (a + 1)).1 < 2 then .no (digF s 2 0 (a + 1)).2.2 else .yes (digF s 2 0 (a + 1)).2.2 [UInt8.ofNat (digF s 2 0 (a + 1)).2.1] := by unfold partF; rw [if_neg h1, if_pos h2]
   have hD := zNH s (a + 1)
   obtain ⟨hlt, h120⟩ := h2
   try (refine stg ?_; intros)
   rw [ea]
   refine zA func236 ?_ (hs := zLl b s (a + 1) wr fr tO hs hlt _ _ _)
   rintro v m H1 ⟨rfl, (⟨g1, g2, rfl, rfl⟩ | ⟨g1, rfl, rfl⟩)⟩
   ·rw [if_pos ⟨g1, g2⟩] at hD
    try (refine stg ?_; intros)
    refine zA func236 ?_ (hs := zLl b s (a + 1 + 1) wr fr tO hs g1 _ _ _)
    rintro v m H1 ⟨rfl, (⟨g3, g4, rfl, rfl⟩ | ⟨g3, rfl, rfl⟩)⟩
    ·rw [if_pos ⟨g3, g4⟩] at hD
     rw [hD, if_neg (show ¬ 2 < 2 from Nat.lt_irrefl 2)] at hp
     simp only at hp
     clear hD
     have v1 := zL0 (UInt8.ofNat (gb s (a + 1)))
     have v2 := zL0 (UInt8.ofNat (gb s (a + 1 + 1)))
     generalize hexV (UInt8.ofNat (gb s (a + 1))) = x at *
     generalize hexV (UInt8.ofNat (gb s (a + 1 + 1))) = y at *
     have eb : (16 * x + y) = ((UInt8.ofNat (16 * x.toNat + y.toNat)).toNat : Int) := by rw [UInt8.toNat_ofNat']; omega
     refine stg ?_; intros; rename_i q
     rw [eb]
     refine WL.blkStr (s := [UInt8.ofNat (16 * x.toNat + y.toNat)]) rfl zhs rfl rfl rfl rfl rfl rfl rfl ?_
     try (refine stg ?_; intros)
     exact q_fz ⟨rfl, .inl ⟨a + 1 + 1 + 1, _, hp, rfl, rfl⟩⟩
    ·rw [if_neg g3] at hD
     rw [hD, if_pos (show 1 < 2 from by decide)] at hp
     try (refine stg ?_; intros)
     refine zA func182 ?_ (hs := z1 b s (a + 1 + 1) wr fr tO ((a + 1 + 1 : Nat) : Int) _ _ _)
     rintro v m H1 ⟨rfl, rfl, rfl⟩
     try (refine stg ?_; intros)
     exact q_fz ⟨rfl, .inr ⟨a + 1 + 1, a + 1 + 1, hp, rfl, rfl⟩⟩
   ·rw [if_neg g1] at hD
    rw [hD, if_pos (show 0 < 2 from by decide)] at hp
    try (refine stg ?_; intros)
    refine zA func182 ?_ (hs := z1 b s (a + 1) wr fr tO ((a + 1 : Nat) : Int) _ _ _)
    rintro v m H1 ⟨rfl, rfl, rfl⟩
    try (refine stg ?_; intros)
    exact q_fz ⟨rfl, .inr ⟨a + 1, a + 1, hp, rfl, rfl⟩⟩
  ·by_cases h3 : a < s.length ∧ gb s a = 123
   ·have hp : partF s a = if (digF s 6 0 (a + 1)).1 = 0 ∨ ¬ ((digF s 6 0 (a + 1)).2.2 < s.length ∧ gb s (digF s 6 0 (a + 1)).2.2 = 125) then .no (digF s 6 0 (a + 1)).2.2 else .yes ((digF s 6 0 (a + 1)).2.2 + 1) (fmb (rn ((digF s 6 0 (a + 1)).2.1 : Int))) := by
     unfold partF; rw [if_neg h1, if_neg h2, if_pos h3]
    obtain ⟨hlt, h123⟩ := h3
    generalize hD0 : digF s 6 0 (a + 1) = D at hp
    try (refine stg ?_; intros)
    rw [ea]
    refine lpz (fun j r ds m' H' => ∃ (k : Nat) (n : Nat) (e : Nat), j = 6 - k ∧ r = [(8, .int .i64 (n : Int)), (9, .int .i64 (k : Int)), (0, .pp b)] ∧ ds = [] ∧ m = m' ∧ H' = .bl b [str s, .int .i64 (e : Int), .int .i64 wr, .int .i64 fr, .int .i64 tO] 221 :: H ∧ (k ≤ 6) ∧ (e ≤ s.length) ∧ (n + 1 ≤ 16 ^ k) ∧ (D = ((digF s (6 - k) n e).1 + k, (digF s (6 - k) n e).2))) (6 - (0)) ⟨0, 0, a + 1, rfl, rfl, rfl, rfl, rfl, Nat.zero_le _, hlt, by decide, by rw [← hD0]; rfl⟩ ?_
    rintro j r ds m' H' ⟨k, n, e, rfl, rfl, rfl, rfl, rfl, hk, hes, hnb, hD⟩
    have hp16 : 16 ^ k ≤ 16777216 := Nat.le_trans (Nat.pow_le_pow_right (by decide) hk) (by decide)
    have ee : (e : Int) + 1 = ((e + 1 : Nat) : Int) := by omega
    by_cases g0 : k < 6
    ·obtain ⟨f, hf⟩ : ∃ f, 6 - k = f + 1 := ⟨6 - k - 1, by omega⟩
     rw [hf, digF] at hD
     have hp5 : 16 ^ k ≤ 1048576 := Nat.le_trans (Nat.pow_le_pow_right (by decide) (show k ≤ 5 by omega)) (by decide)
     have hv := zL0 (UInt8.ofNat (gb s e))
     try (refine stg ?_; intros)
     refine zA func236 ?_ (hs := zLl b s e wr fr tO hs hes _ _ _)
     rintro v m H1 ⟨rfl, (⟨g1, g2, rfl, rfl⟩ | ⟨g1, rfl, rfl⟩)⟩
     ·rw [if_pos ⟨g1, g2⟩] at hD
      have e7 : 16 * (n : Int) + hexV (UInt8.ofNat (gb s e)) = ((16 * n + (hexV (UInt8.ofNat (gb s e))).toNat : Nat) : Int) := by omega
      try (refine stg ?_; intros)
      rw [e7]
      refine nxz (6 - (k + 1)) ⟨k + 1, 16 * n + (hexV (UInt8.ofNat (gb s e))).toNat, e + 1, rfl, rfl, rfl, rfl, rfl, ?_, ?_, ?_, ?_⟩
      ·omega
      ·omega
      ·rw [Nat.pow_succ]; omega
      ·rw [show 6 - (k + 1) = f by omega, hD]; simp; omega
     ·rw [if_neg g1] at hD
      simp only [Nat.zero_add] at hD
      subst hD
      simp only at hp
      by_cases g2 : k = 0
      ·rw [if_pos (.inl g2)] at hp
       try (refine stg ?_; intros)
       refine zA func182 ?_ (hs := z1 b s e wr fr tO (e : Int) _ _ _)
       rintro v m H1 ⟨rfl, rfl, rfl⟩
       try (refine stg ?_; intros)
       exact q_fz ⟨rfl, .inr ⟨e, e, hp, rfl, rfl⟩⟩
      ·by_cases g3 : e < s.length ∧ gb s e = 125
       ·rw [if_neg (fun h => h.elim g2 (fun h => h g3))] at hp
        have hn2 : (n : Int) ≤ 16777215 := by omega
        try (refine stg ?_; intros)
        rw [ee]
        exact q_fz ⟨rfl, .inl ⟨e + 1, _, hp, rfl, rfl⟩⟩
       ·rw [if_pos (.inr g3)] at hp
        try (refine stg ?_; intros)
        refine zA func182 ?_ (hs := z1 b s e wr fr tO (e : Int) _ _ _)
        rintro v m H1 ⟨rfl, rfl, rfl⟩
        try (refine stg ?_; intros)
        exact q_fz ⟨rfl, .inr ⟨e, e, hp, rfl, rfl⟩⟩
    ·obtain rfl : k = 6 := by omega
     rw [Nat.sub_self, digF] at hD
     simp only [Nat.zero_add] at hD
     subst hD
     simp only at hp
     by_cases g3 : e < s.length ∧ gb s e = 125
     ·rw [if_neg (fun h => h.elim (by decide) (fun h => h g3))] at hp
      have hn2 : (n : Int) ≤ 16777215 := by omega
      try (refine stg ?_; intros)
      rw [ee]
      exact q_fz ⟨rfl, .inl ⟨e + 1, _, hp, rfl, rfl⟩⟩
     ·rw [if_pos (.inr g3)] at hp
      try (refine stg ?_; intros)
      refine zA func182 ?_ (hs := z1 b s e wr fr tO (e : Int) _ _ _)
      rintro v m H1 ⟨rfl, rfl, rfl⟩
      try (refine stg ?_; intros)
      exact q_fz ⟨rfl, .inr ⟨e, e, hp, rfl, rfl⟩⟩
   ·have hp : partF s a = .no a := by unfold partF; rw [if_neg h1, if_neg h2, if_neg h3]
    have g1 : ¬ (a < s.length ∧ gb s a = 34) := fun h => h1 ⟨h.1, .inl h.2⟩
    have g2 : ¬ (a < s.length ∧ gb s a = 92) := fun h => h1 ⟨h.1, .inr h.2⟩
    try (refine stg ?_; intros)
    refine zA func182 ?_ (hs := z1 b s a wr fr tO (a : Int) _ _ _)
    rintro v m H1 ⟨rfl, rfl, rfl⟩
    try (refine stg ?_; intros)
    exact q_fz ⟨rfl, .inr ⟨a, a, hp, rfl, rfl⟩⟩
end ZP
