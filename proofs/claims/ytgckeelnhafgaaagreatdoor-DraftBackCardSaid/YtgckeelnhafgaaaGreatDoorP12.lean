/-
  Parts of a walk, joined. No condition.
-/
import Derived.Test.YtgckeelnhafgaaaGreatDoorP11
set_option linter.all false
set_option maxRecDepth 100000
set_option maxHeartbeats 4000000
open Go.Proofs Go.Proofs.YtgckeelnhafgaaaGreatDoor
open Tryz
open Go Go.Eng
variable {P : Program} {ro : Option Nat} {n : Nat} {w0 : World} {Q : Exit → Act → World → Prop} {r : Env} {ds : List Dfr} {m : Mem} {H : SHeap} {ops : Array Oper} {l : List Oper} {d : Nat} {ty : TypeId} {pos : String} {after : Array Edge}
namespace ZP
open Go Go.Eng
attribute [local irreducible] WL WC WQ QFun zJ Does Q1 zD zB Go.Addr.add
attribute [local irreducible] orgK toks orgZ gOf ogs
end ZP
namespace Go.Eng
open Go
theorem WC.rNil {P : Program} {ro : Option Nat} {n : Nat} {w0 : World} {Q : Exit → Act → World → Prop} {r : Env} {ds : List Dfr} {m : Mem} {H : SHeap} {c : Code} {sz : Nat} {es : List (List Value)} (hr : RowR w0 m H sz none es) (h : es = [] → WC P ro n w0 c Q r ds m H) : WC P ro n w0 c Q r ds m H :=
 fun tmps w ho hs => h (hr w hs).2 tmps w ho hs
theorem zKr (l : List Nat) : ∀ q ∈ nums l, q.all okCell = true := by
 intro q hq
 obtain ⟨p, _, rfl⟩ := List.mem_map.1 hq
 rfl
theorem zHl (l : List Nat) : ∀ q ∈ nums l, q.length = 1 := by
 intro q hq
 obtain ⟨p, _, rfl⟩ := List.mem_map.1 hq
 rfl
end Go.Eng
namespace ZP
open Go Go.Eng
attribute [local irreducible] WL WC WQ QFun zJ Does Q1 zD zB Go.Addr.add
theorem zIC {ps : List Nat} {sa : Option Addr} {sc : Nat} {w0 : World} {m : Mem} {H : SHeap} (hps : ps.length ≤ 1000) (hr : ∀ H, RowR w0 m H 1 sa (nums ps)) :
  Does Tryz.prog 44 #[.slice sa ps.length sc] w0 m H (fun v m' H' => m' = m ∧ ∃ a c, v = .slice a ps.length c ∧ H' = .row a c 3 1 (nums ps) :: H) := by
 refine Does.of_body func44 rfl ntmps44 rfl ?_
 have hnl := zQ ps
 cases sa with
 | none =>
  refine WC.rNil (hr H) ?_
  intro hnil
  have hp0 : ps = [] := by
   rw [hnil] at hnl
   exact List.length_eq_zero_iff.1 hnl.symm
  subst hp0
  refine WC.newRow (T := 3) (sz := 1) ?_
  try (refine st ?_; intros)
  exact q_fz ⟨rfl, none, 0, rfl, rfl⟩
 | some sa =>
  try (refine st ?_; intros)
  refine WL.appendR (es := []) (es' := nums ps) (by' := 8) rfl rfl rfl rfl (by (repeat (first | exact Out.here | apply Out.there))) (hr _) (zKr ps) (zHl ps) rfl rfl rfl rfl rfl hnl.symm (by rw [List.length_nil, hnl]; omega) (by omega) rfl ?_
  intro a2 c2
  rw [List.nil_append, List.length_nil, Nat.zero_add, hnl]
  try (refine st ?_; intros)
  exact q_fz ⟨rfl, a2, c2, rfl, rfl⟩
theorem zE3 {bh bm cap : Nat} {a : Option Addr} {L : List Dr} {k : Nat} {d : Dr} (hk : L[k]? = some d) (hdp : d.ps.length ≤ 2) (w0 : World) (m : Mem) (H : SHeap) (hat : PsAt m d) :
  Does Tryz.prog 12 #[.pp bh, .int .i64 (k : Int)] w0 m (.bl bh [.slice a L.length cap, .map (some bm)] 90 :: .row a cap 97 3 (drs L) :: H) (fun v m' H' => m' = m ∧ ∃ al cl, v = .tuple #[.agg #[.int .i64 (d.h : Int), .slice al d.ps.length cl], .int .i64 0] ∧ H' = .row al cl 3 1 (nums d.ps) :: .bl bh [.slice a L.length cap, .map (some bm)] 90 :: .row a cap 97 3 (drs L) :: H) := by
 refine Does.of_body func12 rfl ntmps12 rfl ?_
 obtain ⟨va, vc, hv, hr⟩ := hat
 refine st ?_; intros; rename_i b4
 refine zN func43 ?_ (hs := zDh hk hv _ _ _)
 rintro v m H1 ⟨rfl, rfl, rfl⟩
 unfold drE
 rw [hv]
 refine st ?_; intros; rename_i b6
 refine wdw 11 ([.bl b6 [.int .i64 (d.h : Int), .slice va d.ps.length vc, str d.t] 97]) ?_
 refine cm0 ?_
 refine wa1 6 ?_
 refine zA func44 ?_ (hs := zIC (by omega) (fun H => hr w0 H))
 rintro v m1 H1 ⟨rfl, al, cl, rfl, rfl⟩
 try (refine st ?_; intros)
 refine waz [] zml ?_
 refine cm0 ?_
 refine wa0 9 ?_
 try (refine st ?_; intros)
 refine wsz [] zml ?_
 refine cm0 ?_
 refine wdz ?_
 try (refine st ?_; intros)
 exact q_fz ⟨rfl, al, cl, rfl, rfl⟩
theorem zGg {bh bm cap : Nat} {a : Option Addr} {L : List Dr} {p q : Nat} (hp : p < L.length) (hq : q < L.length) (hL : L.length ≤ 256) (hp0 : 0 ∈ lineK L p) (hq0 : 0 ∈ lineK L q) (w0 : World) (m : Mem) (H : SHeap) (hat : ∀ d ∈ L, PsAt m d) (hps : ∀ (i : Nat) (d : Dr), L[i]? = some d → d.ps.length ≤ 2) :
  Does Tryz.prog 15 #[.pp bh, .int .i64 (p : Int), .int .i64 (q : Int)] w0 m (.bl bh [.slice a L.length cap, .map (some bm)] 90 :: .row a cap 97 3 (drs L) :: H) (Gives (.tuple #[.int .i64 (baseK L p q : Int), .int .i64 0]) m (.bl bh [.slice a L.length cap, .map (some bm)] 90 :: .row a cap 97 3 (drs L) :: H)) := by
 refine Does.of_body func15 rfl ntmps15 rfl ?_
 try (refine st ?_; intros)
 refine zA func38 ?_ (hs := jL (p : Int) zhs)
 rintro v m H1 ⟨rfl, rfl, rfl⟩
 rw [zE (show 0 ≤ (p : Int) ∧ (p : Int) < (L.length : Int) from by omega)]
 try (refine st ?_; intros)
 refine zA func38 ?_ (hs := jL (q : Int) zhs)
 rintro v m H1 ⟨rfl, rfl, rfl⟩
 rw [zE (show 0 ≤ (q : Int) ∧ (q : Int) < (L.length : Int) from by omega)]
 try (refine st ?_; intros)
 refine zA func42 ?_ (hs := zFw hp hq hL hp0 hq0 _ _ _ hat hps)
 rintro v m H1 ⟨rfl, rfl, rfl⟩
 try (refine st ?_; intros)
 exact q_fz zgm
end ZP
namespace Go.Eng
open Go
structure WOk (m : Mem) (L M : List Dr) (B : Br) (c : Nat) : Prop where
 ok : HsOk m L B c
 same : SameD L M
 atM : ∀ d ∈ M, PsAt m d
theorem WOk.le {m m' : Mem} {L M : List Dr} {B : Br} {c : Nat} (h : WOk m L M B c) (hm : m.le m') : WOk m' L M B c := ⟨h.ok.le hm, h.same, fun d hd => (h.atM d hd).le hm⟩
theorem WOk.few {m : Mem} {L M : List Dr} {B : Br} {c : Nat} (h : WOk m L M B c) : M.length ≤ 256 := by have := h.ok.few; rw [← h.same.length]; exact this
theorem WOk.falls {m : Mem} {L M : List Dr} {B : Br} {c : Nat} (h : WOk m L M B c) : Falls M := by
 intro i p hp
 rw [← h.same.pars] at hp
 exact h.ok.falls i p hp
end Go.Eng
namespace ZP
open Go Go.Eng
attribute [local irreducible] WL WC WQ QFun zJ Does Q1 zD zB Go.Addr.add
end ZP
namespace Go.Eng
open Go
def wiped (E : List (List Value)) (i : Nat) : List (List Value) := List.replicate i [.int .i64 0, .int .i64 0, .int .i64 0] ++ E.drop i
end Go.Eng
namespace ZP
open Go Go.Eng
attribute [local irreducible] WL WC WQ QFun zJ Does Q1 zD zB Go.Addr.add
theorem zKA (a z d : Int) : eqB Tryz.prog 8 107 (.agg #[.int .i64 a, .int .i64 z, .int .i64 d]) (.agg #[.int .i64 a, .int .i64 z, .int .i64 d]) = some true := by
 have h : eqB Tryz.prog 8 107 (.agg #[.int .i64 a, .int .i64 z, .int .i64 d]) (.agg #[.int .i64 a, .int .i64 z, .int .i64 d]) = some (((a == a) && ((z == z) && true)) && ((d == d) && true)) := by kernel_rfl
 rw [h]
 simp
attribute [local irreducible] logK orgG ogs wiped
namespace ZD78a
theorem zal {G G' : Prop} (next : G') (h : Bx G' → G := by intro zzn; (first | (refine zJY rfl ?_; refine zJ2 ?_ (he := zKA _ _ _)) | (refine zJ3 rfl ?_; refine zJW ?_ (he := zKA _ _ _))); (repeat revert zzf); exact zzn.out) : G := h ⟨next⟩
end ZD78a
end ZP
namespace Go.Eng
open Go
def noSuch : List UInt8 := [110, 111, 32, 115, 117, 99, 104]
theorem NamesOk.no {B : Br} (h : NamesOk B) : yP B noSuch = none := by
 cases hh : yP B noSuch with
 | none => rfl
 | some k =>
  obtain ⟨e, he, h1, _⟩ := jC hh
  have := h e he
  rw [h1] at this
  exact absurd this (by decide)
end Go.Eng
namespace ZP
open Go Go.Eng
attribute [local irreducible] WL WC WQ QFun zJ Does Q1 zD zB Go.Addr.add
attribute [local irreducible] mapT brN brL x6 strs
end ZP
namespace Go.Eng
open Go
theorem zLr : ∀ (l : List Stp) (f t a b : Int), xQ l f t = some (a, b) → f + (frS l : Int) = a ∧ t + (toS l : Int) = b
 | [], f, t, a, b, h => by
  simp only [xQ, Option.some.injEq, Prod.mk.injEq] at h
  simp [frS, toS, h.1, h.2]
 | x :: l, f, t, a, b, h => by
  by_cases h1 : yL x ∧ x.k ≤ 65536 ∧ f + x.k + x.d.length ≤ 65536 ∧ t + x.k + x.p.length ≤ 65536
  ·obtain ⟨g1, g2, g3, g4⟩ := h1
   rw [wI g1 g2 g3 g4] at h
   have := zLr l _ _ a b h
   have hk : 0 ≤ x.k := by rcases g1 with ⟨q, _⟩ | ⟨q, _⟩ | ⟨q, _⟩ <;> omega
   simp only [frS, toS, List.map_cons, List.sum_cons] at this ⊢
   omega
  ·rw [zW h1] at h; cases h
theorem zMz {l : List Stp} {f t : Int} (hs : zT l = some (f, t)) : frS l ≤ 65536 ∧ toS l ≤ 65536 := by
 obtain ⟨_, _, _, h4, h5⟩ := uR hs
 have hm : (maxT : Int) = 65536 := rfl
 have := zLr l 0 0 f t hs
 omega
theorem zMG {x y : List UInt8} (hx : (10 : UInt8) ∉ x) : lns (x ++ 10 :: y) = x :: lns y := by
 rw [zMF (by simp), zLC hx]
 congr 1
 rw [show x.length + 1 = (x ++ [10]).length by simp, show x ++ 10 :: y = (x ++ [10]) ++ y by simp, List.drop_left]
theorem zLG : ∀ (xs ys : List (List UInt8)) (a : Nat) (st st2 : Rs), readR xs a st = .yes st2 → readR (xs ++ ys) a st = readR ys (a + (xs.map fun x => x.length + 1).sum) st2
 | [], ys, a, st, st2, h => by
  rw [readR] at h
  cases h
  rfl
 | x :: xs, ys, a, st, st2, h => by
  rw [readR] at h
  rw [List.cons_append, readR]
  cases hs : stepR st x with
  | no e k => rw [hs] at h; cases h
  | yes s2 =>
   rw [hs] at h
   simp only at h ⊢
   rw [zLG xs ys _ s2 st2 h, List.map_cons, List.sum_cons]
   congr 1
   omega
theorem zM5 {xs : List (List UInt8)} {x : List UInt8} {a : Nat} {st st2 st3 : Rs} (h : readR xs a st = .yes st2) (h2 : stepR st2 x = .yes st3) : readR (xs ++ [x]) a st = .yes st3 := by
 rw [zLG xs [x] a st st2 h, readR, h2]
 try rfl
def Sees (l : List UInt8) : Prop := ∀ c ∈ l, 32 ≤ c.toNat
theorem Sees.app {a b : List UInt8} (h1 : Sees a) (h2 : Sees b) : Sees (a ++ b) := fun c hc => (List.mem_append.1 hc).elim (h1 c) (h2 c)
theorem Sees.cons {c : UInt8} {l : List UInt8} (h : 32 ≤ c.toNat) (h2 : Sees l) : Sees (c :: l) := fun x hx => by
 rcases List.mem_cons.1 hx with rfl | hx
 ·exact h
 ·exact h2 x hx
theorem Sees.nil : Sees [] := fun c hc => by cases hc
theorem Sees.flat {α : Type} {l : List α} {f : α → List UInt8} (h : ∀ x ∈ l, Sees (f x)) : Sees (l.flatMap f) := fun c hc => by
 obtain ⟨x, hx, hc⟩ := List.mem_flatMap.1 hc
 exact h x hx c hc
theorem zLf (n : Nat) : Sees (decL n) := fun c hc => by have := (zK4 n).1 c hc; omega
theorem zMc {d : Nat} (h : d < 16) : 32 ≤ (hexB d).toNat := by
 have all : ∀ i : Fin 16, 32 ≤ (hexB i.1).toNat := by decide
 exact all ⟨d, h⟩
theorem zNn (n : Nat) : Sees (hexL n) := fun c hc => by
 have h := (zE4 n).1 c hc
 unfold hexV at h
 split at h
 ·omega
 ·split at h
  ·omega
  ·omega
theorem zMw (s : List UInt8) (p : Pc) : Sees (zL s p) := by
 have hg := zIz s p.at_
 unfold zL
 split
 ·exact Sees.cons (by decide) (Sees.cons (by decide) (Sees.cons (zMc (by omega)) (Sees.cons (zMc (by omega)) Sees.nil)))
 ·split
  ·rename_i h
   refine Sees.cons (by decide) (Sees.cons ?_ Sees.nil)
   rcases h with h | h <;> rw [h] <;> decide
  ·split
   ·rename_i h
    refine Sees.cons ?_ Sees.nil
    rw [UInt8.toNat_ofNat']
    omega
   ·exact Sees.app (Sees.cons (by decide) (Sees.cons (by decide) Sees.nil)) (zNn _) |>.app (Sees.cons (by decide) Sees.nil)
theorem zLq (s : List UInt8) : Sees (yG s) := by
 unfold yG xX
 exact ((Sees.cons (by decide) Sees.nil).app (Sees.flat fun p _ => zMw s p)).app (Sees.cons (by decide) Sees.nil)
theorem zNA (x : Stp) : Sees (stpW x) := by
 unfold stpW
 split
 ·exact Sees.cons (by decide) (zLf _)
 ·split
  ·exact Sees.cons (by decide) (zLq _)
  ·exact Sees.cons (by decide) (zLq _)
theorem zLb : ∀ l : List Stp, Sees (yM l)
 | [] => Sees.nil
 | x :: l => by
  rw [zK2]
  refine (zNA x).app ?_
  split
  ·exact Sees.nil
  ·exact Sees.cons (by decide) (zLb l)
theorem zM7 (L : List Dr) (k : Nat) : Sees (wX L k) := by
 unfold wX
 split
 ·split
  ·exact Sees.nil
  ·exact zLb _
 ·exact zLb _
theorem Sees.not10 {l : List UInt8} (h : Sees l) : (10 : UInt8) ∉ l := fun hc => by have := h _ hc; revert this; decide
def restT (L : List Dr) (k : Nat) : List UInt8 := if wX L k = [] then [] else 32 :: wX L k
def rowT (L : List Dr) (k : Nat) (d : Dr) : List UInt8 := headT d ++ 58 :: restT L k
theorem zM6 (L : List Dr) (k : Nat) : Sees (restT L k) := by
 unfold restT
 split
 ·exact Sees.nil
 ·exact Sees.cons (by decide) (zM7 L k)
theorem zM1 (l : List Nat) : Sees (numsT l) := Sees.flat fun p _ => Sees.cons (by decide) (zLf p)
theorem draftW_sees : Sees draftW := by
 have : ∀ c ∈ draftW, 32 ≤ c.toNat := by decide
 exact this
theorem branchW_sees : Sees branchW := by
 have : ∀ c ∈ branchW, 32 ≤ c.toNat := by decide
 exact this
theorem zMX (d : Dr) : Sees (headT d) := (draftW_sees.app (zLf _)).app (zM1 _)
theorem zNy (L : List Dr) (k : Nat) (d : Dr) : Sees (rowT L k d) := (zMX d).app (Sees.cons (by decide) (zM6 L k))
theorem zLw {n : Nat} {c : UInt8} (h : c.toNat < 48 ∨ 57 < c.toNat) : c ∉ decL n := fun hc => by have := (zK4 n).1 c hc; omega
theorem zMW (d : Dr) : (58 : UInt8) ∉ headT d := by
 intro h
 unfold headT at h
 rcases List.mem_append.1 h with h | h
 ·rcases List.mem_append.1 h with h | h
  ·revert h; decide
  ·exact zLw (.inr (by decide)) h
 ·unfold numsT at h
  obtain ⟨p, _, h⟩ := List.mem_flatMap.1 h
  rcases List.mem_cons.1 h with h | h
  ·revert h; decide
  ·exact zLw (.inr (by decide)) h
theorem zMP : ∀ (x : List UInt8) (l : List Nat), (32 : UInt8) ∉ x → spl 32 (x ++ numsT l) = x :: l.map decL
 | x, [], h => by rw [show x ++ numsT [] = x by simp [numsT], zLu h]; try rfl
 | x, p :: l, h => by
  rw [show x ++ numsT (p :: l) = x ++ 32 :: (decL p ++ numsT l) by simp [numsT], zLm h, zMP (decL p) l (zLw (.inl (by decide)))]
  try rfl
theorem zNM (d : Dr) : spl 32 (headT d) = draftS :: decL d.h :: d.ps.map decL := by
 have e : headT d = draftS ++ 32 :: (decL d.h ++ numsT d.ps) := by unfold headT draftW draftS; simp
 rw [e, zLm (by decide), zMP _ _ (zLw (.inl (by decide)))]
theorem zLS {n : Nat} (hn : n ≤ 999999999999999999) : ∀ l : List Nat, (∀ p ∈ l, p < n) → u1 n (l.map decL) = some l
 | [], _ => rfl
 | p :: l, h => by
  have h1 := h p List.mem_cons_self
  rw [List.map_cons, u1, zLz (by omega)]
  simp only
  rw [if_pos h1, zLS hn l fun q hq => h q (List.mem_cons_of_mem _ hq)]
  try rfl
theorem zLk {L : List Dr} {n i : Nat} (h : i < n) : txOf (L.take n) i = txOf L i := by
 unfold txOf
 rw [List.getElem?_take, if_pos h]
theorem zMv {L : List Dr} {n i : Nat} (h : i < n) : parsOf (L.take n) i = parsOf L i := by
 unfold parsOf
 rw [List.getElem?_take, if_pos h]
def bareD (d : Dr) : Dr := mkD d.h d.ps d.t
theorem SameD.bare (L : List Dr) : SameD L (L.map bareD) := by
 unfold SameD
 rw [List.map_map]
 try rfl
theorem zNp {L : List Dr} {k : Nat} {d : Dr} (hL : L.length ≤ 256) (hd : L[k]? = some d) (hp : ∀ p ∈ d.ps, p < k) (h0 : 0 < k → d.ps ≠ []) (h2 : d.ps.length ≤ 2) (hh : d.h ≤ 999999999999999999) (ht : ∀ i, (txOf L i).length ≤ 65536) :
  lineF ((L.take k).map bareD) false (rowT L k d) = .yes (bareD d) := by
 have hk := (List.getElem?_eq_some_iff.1 hd).1
 have hlen : ((L.take k).map bareD).length = k := by rw [List.length_map, List.length_take]; omega
 have hpre : pre 58 (rowT L k d) = headT d := zLC (zMW d)
 have hR : restT L k = (rowT L k d).drop ((pre 58 (rowT L k d)).length + 1) := by
  rw [hpre]
  unfold rowT
  rw [show (headT d).length + 1 = (headT d ++ [58]).length by simp, show headT d ++ 58 :: restT L k = (headT d ++ [58]) ++ restT L k by simp, List.drop_left]
 have hhd : headF ((L.take k).map bareD).length (spl 32 (pre 58 (rowT L k d))) = some (d.h, d.ps) := by
  rw [hpre, zNM, hlen]
  refine zME ⟨rfl, by rw [List.length_map]; exact h2, ⟨fun h => ?_, fun h => ?_⟩⟩ (zLz hh) (zLS (by omega) _ hp)
  ·subst h
   cases hps : d.ps with
   | nil => rfl
   | cons p l => rw [hps] at hp; exact absurd (hp p List.mem_cons_self) (Nat.not_lt_zero _)
  ·rcases Nat.eq_zero_or_pos k with h3 | h3
   ·exact h3
   ·exact absurd (List.map_eq_nil_iff.1 h) (h0 h3)
 have hr : restT L k = [] ∨ ∃ s, restT L k = 32 :: s := by
  unfold restT
  split
  ·exact .inl rfl
  ·exact .inr ⟨_, rfl⟩
 have hS : (restT L k).drop 1 = wX L k := by
  unfold restT
  split
  ·rename_i h; rw [h]; try rfl
  ·rfl
 rw [zLQ hR (by unfold rowT; simp) rfl hhd hr, hlen, if_neg (by omega), hS]
 rw [if_neg (by
  unfold restT
  split
  ·simp
  ·rename_i h
   intro h3
   injection h3 with _ h3
   exact h h3)]
 have htx : txOf L k = d.t := xU hd
 have hpo : parsOf L k = d.ps := vH hd
 -- the change that is said, and what it makes
 have key : ∃ c, readF (wX L k) ((wX L k).length + 1) 0 0 0 [] = .yes (wX L k).length c ∧ applyO (d.ps.head?.elim [] (txOf ((L.take k).map bareD))) c = some d.t := by
  have goal : ∀ (c : List Stp) (s : List UInt8) (f : Int), wX L k = yM c → (∀ x ∈ c, yL x) → zT c = some (f, (d.t.length : Int)) → f = s.length → xL s (zG c) = some d.t → c.length ≤ (yM c).length →
    readF (wX L k) ((wX L k).length + 1) 0 0 0 [] = .yes (wX L k).length c ∧ applyO s c = some d.t := by
   intro c s f e1 e2 e3 e4 e5 e6
   obtain ⟨s1, s2⟩ := zMz e3
   refine ⟨?_, ?_⟩
   ·have := zLF (s := wX L k) c [] ((wX L k).length + 1) 0 0 0 e2 (by rw [e1]; omega) (by omega) (by omega) (Nat.zero_le _) (by rw [if_pos (.inl rfl), List.drop_zero, e1]; try rfl)
    rw [List.nil_append] at this
    exact this
   ·unfold applyO
    rw [e3]
    simp only
    rw [if_pos e4, e5]
  have hpl : ∀ c : List Stp, c.length ≤ (yM c).length := by
   intro c
   induction c with
   | nil => simp
   | cons x c ih =>
    rw [zK2, List.length_append, List.length_cons]
    have := zMR x
    split
    ·rename_i h; subst h; simp; omega
    ·rw [List.length_cons]; omega
  by_cases hk0 : k = 0
  ·subst hk0
   have hps : d.ps = [] := by
    cases hps : d.ps with
    | nil => rfl
    | cons p l => rw [hps] at hp; exact absurd (hp p List.mem_cons_self) (Nat.not_lt_zero _)
   rw [hps]
   by_cases ht0 : d.t = []
   ·refine ⟨[], goal [] [] 0 (by unfold wX; rw [if_pos rfl, htx, if_pos ht0]; rfl) (fun x hx => by cases hx) (by rw [ht0]; rfl) rfl (by rw [ht0]; try rfl) (Nat.le_refl _)⟩
   ·have h3 := kM (t := d.t) (by have := ht 0; rw [htx] at this; exact this) ht0
    refine ⟨[⟨0, [], d.t⟩], goal _ [] 0 (by unfold wX; rw [if_pos rfl, htx, if_neg ht0]) (fun x hx => by rw [List.mem_singleton] at hx; subst hx; exact h3.2.1) h3.1 rfl ?_ (hpl _)⟩
    have := zAv [] [] d.t
    rw [List.append_nil] at this
    have e : zG [⟨0, [], d.t⟩] = d.t.map .p := by
     have := j9 d.t
     unfold putT at this
     rw [if_neg ht0] at this
     exact this
    rw [e, this]
    simp [xL]
  ·have hne := h0 (by omega)
   obtain ⟨p, l, hps⟩ : ∃ p l, d.ps = p :: l := by
    cases h : d.ps with
    | nil => exact absurd h hne
    | cons p l => exact ⟨p, l, rfl⟩
   have hpk := hp p (by rw [hps]; exact List.mem_cons_self)
   have hold : d.ps.head?.elim [] (txOf ((L.take k).map bareD)) = txOf L p := by
    rw [hps]
    show txOf ((L.take k).map bareD) p = _
    rw [← (SameD.bare (L.take k)).tx p, zLk hpk]
   rw [hold]
   have hsd : wX L k = yM (z7 (chL (txOf L p) d.t)) := by
    unfold wX
    rw [if_neg hk0, htx, hpo, hps]; try rfl
   have hdt : d.t.length ≤ 65536 := by have := ht k; rw [htx] at this; exact this
   obtain ⟨q1, _, _, q4⟩ := zK3 (ht p) hdt
   refine ⟨_, goal _ (txOf L p) _ hsd (fun x hx => (q4 x hx).1) q1 rfl ?_ (hpl _)⟩
   rw [zMx _ (zKE _ _), zIs]
 obtain ⟨c, hc1, hc2⟩ := key
 rw [hc1]
 simp only
 rw [hc2]
 simp only
 have hsm : wX ((L.take k).map bareD ++ [mkD d.h d.ps d.t]) k = wX L k := by
  have e1 : (L.take k).map bareD ++ [mkD d.h d.ps d.t] = (L.take (k + 1)).map bareD := by
   rw [List.take_add_one, hd, List.map_append]; try rfl
  rw [e1, ← (SameD.bare (L.take (k + 1))).said k]
  unfold wX
  by_cases hk0 : k = 0
  ·rw [if_pos hk0, if_pos hk0, zLk (by omega)]
  ·rw [if_neg hk0, if_neg hk0, zLk (Nat.lt_succ_self k), zMv (Nat.lt_succ_self k), hpo]
   have hne := h0 (by omega)
   cases hps : d.ps with
   | nil => exact absurd hps hne
   | cons p l =>
    have := hp p (by rw [hps]; exact List.mem_cons_self)
    rw [List.headD_cons, zLk (by omega)]
 rw [hsm, if_pos rfl]
 try rfl
def rowsT (L : List Dr) : Nat → List (List UInt8)
 | 0 => []
 | n + 1 => rowsT L n ++ [(L[n]?).elim [] (rowT L n)]
theorem zMH (L : List Dr) : ∀ n, n ≤ L.length → ∀ y : List UInt8, lns (wT L n ++ y) = rowsT L n ++ lns y
 | 0, _, y => by rw [wT, rowsT]; try rfl
 | n + 1, h, y => by
  obtain ⟨d, hd⟩ : ∃ d, L[n]? = some d := ⟨_, List.getElem?_eq_getElem (by omega)⟩
  have e : wT L (n + 1) ++ y = wT L n ++ (rowT L n d ++ 10 :: y) := by
   rw [wT, hd]
   show (wT L n ++ (headT d ++ tailT L n)) ++ y = _
   unfold tailT rowT restT
   simp
  rw [e, zMH L n (by omega), zMG (zNy L n d).not10, rowsT, hd]
  simp
theorem zMk {L : List Dr} (hL : L.length ≤ 256) (hpar : ∀ i d, L[i]? = some d → (∀ p ∈ d.ps, p < i) ∧ (0 < i → d.ps ≠ []) ∧ d.ps.length ≤ 2 ∧ d.t.length ≤ 65536 ∧ d.h ≤ 999999999999999999) (a : Nat) :
  ∀ n, n ≤ L.length → readR (rowsT L n) a ⟨[], [], 0⟩ = .yes ⟨(L.take n).map bareD, [], 0⟩
 | 0, _ => by rw [List.take_zero]; try rfl
 | n + 1, h => by
  obtain ⟨d, hd⟩ : ∃ d, L[n]? = some d := ⟨_, List.getElem?_eq_getElem (by omega)⟩
  obtain ⟨p1, p2, p3, p4, p5⟩ := hpar n d hd
  have hts : ∀ i, (txOf L i).length ≤ 65536 := by
   intro i
   cases hi : L[i]? with
   | none => unfold txOf; rw [hi]; simp
   | some d => rw [xU hi]; exact (hpar i d hi).2.2.2.1
  rw [rowsT, hd]
  refine zM5 (zMk hL hpar a n (by omega)) ?_
  show stepR ⟨(L.take n).map bareD, [], 0⟩ (rowT L n d) = _
  unfold stepR
  have hpf : Lib.hasPrefix (rowT L n d) branchS = false := by
   have e : rowT L n d = 100 :: (([114, 97, 102, 116, 32] : List UInt8) ++ decL d.h ++ numsT d.ps ++ 58 :: restT L n) := by unfold rowT headT draftW; simp
   rw [e]
   try rfl
  rw [hpf, if_neg (by simp)]
  have hb : (!([] : Br).isEmpty) = false := rfl
  simp only
  rw [hb, zNp hL hd p1 p2 p3 p5 hts]
  simp only
  rw [List.take_add_one, hd, List.map_append]
  try rfl
def rowB (x : List UInt8 × Nat) : List UInt8 := branchW ++ x.1 ++ [32] ++ decL x.2
theorem zNr {s : List UInt8} (h : x6 s) : Sees s := fun c hc => by
 have := h.2.2.2 c hc
 unfold NmB at this
 omega
theorem zNx {x : List UInt8 × Nat} (h : x6 x.1) : Sees (rowB x) := ((branchW_sees.app (zNr h)).app (Sees.cons (by decide) Sees.nil)).app (zLf _)
theorem zNq : ∀ l : List (List UInt8 × Nat), (∀ x ∈ l, x6 x.1) → lns (l.flatMap brT) = l.map rowB
 | [], _ => rfl
 | x :: l, h => by
  have e : (x :: l).flatMap brT = rowB x ++ 10 :: l.flatMap brT := by
   rw [List.flatMap_cons]
   unfold brT rowB
   simp
  rw [e, zMG (zNx (h x List.mem_cons_self)).not10, zNq l fun y hy => h y (List.mem_cons_of_mem _ hy)]
  try rfl
theorem zNN {x : List UInt8 × Nat} (h : x6 x.1) : spl 32 (rowB x) = [branchS, x.1, decL x.2] := by
 have e : rowB x = branchS ++ 32 :: (x.1 ++ 32 :: decL x.2) := by unfold rowB branchW branchS; simp
 have hn : (32 : UInt8) ∉ x.1 := fun hc => by
  have := h.2.2.2 _ hc
  revert this
  decide
 rw [e, zLm (by decide), zLm hn, zLu (zLw (.inl (by decide)))]
theorem zMb {s : List UInt8} : ∀ {B : Br}, (∀ e ∈ B, e.2.1 ≠ s) → yP B s = none
 | [], _ => rfl
 | e :: B, h => by
  rw [yP, if_neg (fun h2 => h e List.mem_cons_self h2.symm)]
  exact zMb fun x hx => h x (List.mem_cons_of_mem _ hx)
theorem zMO {P : List Dr} (hP : P.length ≤ 256) : ∀ (l : List (List UInt8 × Nat)) (B : Br) (a c : Nat), (∀ x ∈ l, x6 x.1 ∧ x.2 < P.length) → ((B.map (·.2.1)) ++ l.map (·.1)).Nodup → B.length + l.length ≤ 32 →
  ∃ B2 c2, readR (l.map rowB) a ⟨P, B, c⟩ = .yes ⟨P, B2, c2⟩ ∧ B2.map (·.2) = B.map (·.2) ++ l
 | [], B, a, c, _, _, _ => ⟨B, c, rfl, by simp⟩
 | x :: l, B, a, c, h, hn, hl => by
  obtain ⟨h1, h2⟩ := h x List.mem_cons_self
  have hh : yP B x.1 = none := by
   refine zMb fun e he h3 => ?_
   rw [List.map_cons, List.nodup_append] at hn
   exact hn.2.2 e.2.1 (List.mem_map.2 ⟨e, he, rfl⟩) x.1 List.mem_cons_self h3
  have hst : stepR ⟨P, B, c⟩ (rowB x) = .yes ⟨P, B ++ [(c, x.1, x.2)], c + 1⟩ := by
   unfold stepR
   have hpf : Lib.hasPrefix (rowB x) branchS = true := by
    unfold rowB branchW branchS Lib.hasPrefix
    rfl
   rw [hpf, if_pos rfl]
   unfold branF
   rw [zNN h1]
   simp only
   rw [if_pos ⟨trivial, h1⟩, zLz (by omega)]
   simp only
   rw [if_pos ⟨h2, hh⟩, if_neg (by rw [List.length_cons] at hl; omega)]
   simp only
   unfold putB clkB
   rw [hh]
   try rfl
  obtain ⟨B2, c2, e1, e2⟩ := zMO hP l (B ++ [(c, x.1, x.2)]) (a + (rowB x).length + 1) (c + 1) (fun y hy => h y (List.mem_cons_of_mem _ hy)) (by simpa using hn) (by rw [List.length_cons] at hl; rw [List.length_append, List.length_singleton]; omega)
  refine ⟨B2, c2, ?_, ?_⟩
  ·rw [List.map_cons, readR, hst]
   exact e1
  ·rw [e2]; simp
theorem zLP {s : List UInt8} {k : Nat} : ∀ {B : Br}, (B.map (·.2.1)).Nodup → (s, k) ∈ B.map (·.2) → yP B s = some k
 | e :: B, hn, h => by
  rw [List.map_cons, List.nodup_cons] at hn
  rw [List.map_cons] at h
  rcases List.mem_cons.1 h with h | h
  ·rw [yP, ← h, if_pos rfl]
  ·rw [yP, if_neg]
   ·exact zLP hn.2 h
   ·intro h2
    obtain ⟨x, hx, h3⟩ := List.mem_map.1 h
    refine hn.1 (List.mem_map.2 ⟨x, hx, ?_⟩)
    rw [h3]
    exact h2
theorem zNF {B B2 : Br} (hn : (B.map (·.2.1)).Nodup) (h : B2.map (·.2) = brL B) : brL B2 = brL B := by
 have h1 : B2.map (·.2.1) = brN B := by
  have : B2.map (·.2.1) = (B2.map (·.2)).map (·.1) := by rw [List.map_map]; try rfl
  rw [this, h, zEp]
 have h2 : brN B2 = brN B := by
  unfold brN
  rw [h1]
  exact zCb (List.mergeSort_perm _ _)
 have hn2 : (B2.map (·.2.1)).Nodup := by rw [h1]; exact zG7 hn
 unfold brL
 rw [h2]
 refine List.map_congr_left fun s hs => ?_
 have hm : (s, (yP B s).getD 0) ∈ brL B := List.mem_map.2 ⟨s, hs, rfl⟩
 rw [← h] at hm
 rw [zLP hn2 hm]
 try rfl
theorem zM4 {m : Mem} {L : List Dr} {B : Br} {c : Nat} (h : HsOk m L B c) (hn : NamesOk B) (hl : (histT L B).length ≤ 1048576) : ∃ P B2 c2, readH (histT L B) = .yes ⟨P, B2, c2⟩ ∧ SameD L P ∧ brL B2 = brL B := by
 have hnm : ∀ x ∈ brL B, x6 x.1 ∧ x.2 < L.length := by
  intro x hx
  obtain ⟨i, hi⟩ := List.getElem?_of_mem hx
  have h1 := (zAT h.names hi).1
  obtain ⟨e, he, e1, e2⟩ := jC h1
  exact ⟨by rw [← e1]; exact hn e he, by rw [← e2]; exact h.heads e he⟩
 have hlb := j5 B
 have hmo := h.most
 have hnd : ((([] : Br).map (·.2.1)) ++ (brL B).map (·.1)).Nodup := by
  rw [zEp]
  exact zG7 h.names
 have hP : ((L.take L.length).map bareD).length = L.length := by rw [List.length_map, List.take_length]
 obtain ⟨B2, c2, e1, e2⟩ := zMO (P := (L.take L.length).map bareD) (by rw [hP]; exact h.few) (brL B) [] (0 + ((rowsT L L.length).map fun x => x.length + 1).sum) 0 (by rw [hP]; exact hnm) hnd (by rw [List.length_nil]; omega)
 refine ⟨(L.take L.length).map bareD, B2, c2, ?_, by rw [List.take_length]; exact SameD.bare L, zNF h.names (by rw [e2]; try rfl)⟩
 unfold readH
 rw [if_neg (by omega)]
 have hll : lns (histT L B) = rowsT L L.length ++ (brL B).map rowB := by
  unfold histT
  rw [zMH L L.length (Nat.le_refl _), zNq _ fun x hx => (hnm x hx).1]
 rw [hll, zLG _ _ 0 _ _ (zMk h.few h.par 0 L.length (Nat.le_refl _)), e1]
 simp only
 rw [if_neg]
 intro h3
 have := congrArg List.length h3
 rw [hP, List.length_nil] at this
 have := h.some_
 omega
theorem zMY {L P : List Dr} {B B2 : Br} (h : SameD L P) (hb : brL B2 = brL B) : histT P B2 = histT L B := by
 rw [← h.hist]
 unfold histT
 rw [hb]
end Go.Eng
namespace Go.Eng
open Go
def struck (E : List (List Value)) (i : Nat) : List (List Value) := List.replicate i [.int .i64 (-7)] ++ E.drop i
end Go.Eng
namespace ZP
open Go Go.Eng
attribute [local irreducible] WL WC WQ QFun zJ Does Q1 zD zB Go.Addr.add
attribute [local irreducible] struck
namespace ZD80a
theorem zal {G G' : Prop} (next : G') (h : Bx G' → G := by intro zzn; (first | (refine iF 19 rfl ?_; refine zU func19 ?_ (hs := zF2 zhs))); (repeat revert zzf); exact zzn.out) : G := h ⟨next⟩
end ZD80a
end ZP
namespace Go.Eng
open Go
theorem WOk.add {m : Mem} {L M : List Dr} {B : Br} {c k : Nat} (h : WOk m L M B c) {s : List UInt8} {d e : Dr} (hl : L.length < 256) (hp : ∀ p ∈ d.ps, p < L.length) (h0 : d.ps ≠ []) (h2 : d.ps.length ≤ 2) (ht : d.t.length ≤ 65536) (hh : d.h ≤ 999999999999999999) (hd : PsAt m d)
  (hk : yP B s = some k) (he : PsAt m e) (h3 : d.h = e.h) (h4 : d.ps = e.ps) (h5 : d.t = e.t) : WOk m (L ++ [d]) (M ++ [e]) (putB B c s L.length) (clkB B c s) where
 ok := h.ok.add hl hp h0 h2 ht hh hd hk
 same := h.same.snoc h3 h4 h5
 atM := fun x hx => by
  rcases List.mem_append.1 hx with hx | hx
  ·exact h.atM x hx
  ·rw [List.mem_singleton] at hx
   subst hx; exact he
end Go.Eng
namespace ZP
open Go Go.Eng
attribute [local irreducible] WL WC WQ QFun zJ Does Q1 zD zB Go.Addr.add
def Turned (bh bm br rm : Nat) (B0 : Br) (m : Mem) (H : SHeap) (v : Value) (m' : Mem) (H' : SHeap) : Prop :=
 v = .bool true ∧ m.le m' ∧ ∃ (a ra : Option Addr) (cap rc c : Nat) (L M : List Dr) (B : Br), WOk m' L M B c ∧ (NamesOk B0 → NamesOk B) ∧ H' = .bl bh [.slice a L.length cap, .map (some bm)] 90 :: .row a cap 97 3 (drs L) :: .blk bm (mapT (brE B) c) :: .bl br [.slice ra M.length rc, .map (some rm)] 69 :: .row ra rc 118 3 (rdrs M) :: .blk rm (mapT (brE B) c) :: H
namespace ZD81a
theorem zal {G G' : Prop} (next : G') (h : Bx G' → G := by intro zzn; (first | (refine WL.lookT (es := brE _) (z := .int .i64 0) rfl rfl zhs rfl rfl (fun _ => rfl) rfl ?_)); (repeat revert zzf); exact zzn.out) : G := h ⟨next⟩
end ZD81a
end ZP
namespace ZP
open Go Go.Eng
attribute [local irreducible] WL WC WQ QFun zJ Does Q1 zD zB Go.Addr.add
attribute [local irreducible] kv mapO cfs
namespace ZD30a
theorem zal {G G' : Prop} (next : G') (h : Bx G' → G := by intro zzn; (first | (refine WL.append1 (by':=64) rfl rfl rfl rfl (by (repeat (first | exact Out.here | apply Out.there))) zhs (by exact rfl) (by exact rfl) (by exact rfl) (by exact rfl) (by exact rfl) (by exact rfl) (by first | exact rfl | omega) (by first | omega | (simp; omega)) (by decide) (by exact rfl) ?_; intro zzf zzf) | (refine WL.indexAddrA rfl rfl (by exact znz) rfl rfl (by omega) rfl rfl ?_)); (repeat revert zzf); exact zzn.out) : G := h ⟨next⟩
end ZD30a
end ZP
namespace ZP
open Go Go.Eng
attribute [local irreducible] WL WC WQ QFun zJ Does Q1 zD zB Go.Addr.add
attribute [local irreducible] kv mapO jn strs cfs sideT sideC
end ZP
namespace ZP
open Go Go.Eng
attribute [local irreducible] WL WC WQ QFun zJ Does Q1 zD zB Go.Addr.add
attribute [local irreducible] kv mapO jn strs sideT sideC weaveL wvGo yE toks
namespace ZD32a
theorem zal {G G' : Prop} (next : G') (h : Bx G' → G := by intro zzn; (first | (refine WL.makeMap .i64 rfl ?_; intro zzf)); (repeat revert zzf); exact zzn.out) : G := h ⟨next⟩
end ZD32a
end ZP
namespace Go.Eng
open Go
def MS (X Y : List Tx) (M : List (Nat × Nat)) (i k : Nat) : Prop := ∃ l2, PrOk X Y i k l2 X.length Y.length ∧ ∀ j, i ≤ j → M.lookup j = l2.lookup j
theorem MS.start {X Y : List Tx} : MS X Y (yE X Y) 0 0 := ⟨_, wL X Y, fun _ _ => rfl⟩
theorem MS.le {X Y : List Tx} {M : List (Nat × Nat)} {i k : Nat} (h : MS X Y M i k) : k ≤ Y.length := by
 obtain ⟨l2, h1, _⟩ := h
 exact h1.le.2
theorem MS.next {X Y : List Tx} {M : List (Nat × Nat)} {i k : Nat} (h : MS X Y M i k) (hi : i < X.length) :
  MS X Y M (i + 1) k ∧ ∀ p, M.lookup i = some p → k ≤ p ∧ p < Y.length ∧ (∃ x, X[i]? = some x ∧ Y[p]? = some x) ∧ MS X Y M (i + 1) (p + 1) := by
 obtain ⟨l2, h1, h2⟩ := h
 rcases h1.next hi with ⟨g1, g2⟩ | ⟨p, l3, g1, g2, g3, g4, g5, g6⟩
 ·refine ⟨⟨l2, g2, fun j hj => h2 j (by omega)⟩, fun p hp => ?_⟩
  rw [h2 i (Nat.le_refl _), g1] at hp; cases hp
 ·have e : ∀ j, i + 1 ≤ j → M.lookup j = l3.lookup j := fun j hj => by rw [h2 j (by omega)]; exact g6 j (by omega)
  refine ⟨⟨l3, g5.low (Nat.le_refl _) (by omega), e⟩, fun p' hp => ?_⟩
  rw [h2 i (Nat.le_refl _), g1] at hp
  cases hp
  exact ⟨g2, g3, g4, l3, g5, e⟩
end Go.Eng
namespace Go.Eng
open Go
def SwOk : List Cf → List Cf → Prop
 | [], [] => True
 | c :: l, d :: k => (c.b = d.b ∧ c.i = d.f ∧ c.f = d.i ∧ c.i ≠ c.f) ∧ SwOk l k
 | _, _ => False
theorem SwOk.app : ∀ {l k l2 k2 : List Cf}, SwOk l k → SwOk l2 k2 → SwOk (l ++ l2) (k ++ k2)
 | [], [], _, _, _, h => h
 | [], _ :: _, _, _, h, _ => h.elim
 | _ :: _, [], _, _, h, _ => h.elim
 | _ :: l, _ :: k, _, _, ⟨h1, h2⟩, h => ⟨h1, SwOk.app h2 h⟩
theorem SwOk.length : ∀ {l k : List Cf}, SwOk l k → l.length = k.length
 | [], [], _ => rfl
 | [], _ :: _, h => h.elim
 | _ :: _, [], h => h.elim
 | _ :: l, _ :: k, ⟨_, h2⟩ => by rw [List.length_cons, List.length_cons, SwOk.length h2]
theorem SwOk.get : ∀ {l k : List Cf} {i : Nat} {c d : Cf}, SwOk l k → l[i]? = some c → k[i]? = some d → c.b = d.b ∧ c.i = d.f ∧ c.f = d.i ∧ c.i ≠ c.f
 | [], _, i, c, d, _, h, _ => by simp at h
 | _ :: _, [], i, c, d, h, _, _ => h.elim
 | a :: l, b :: k, 0, c, d, ⟨h1, _⟩, hc, hd => by cases hc; cases hd; exact h1
 | a :: l, b :: k, i + 1, c, d, ⟨_, h2⟩, hc, hd => SwOk.get h2 (by simpa using hc) (by simpa using hd)
theorem zGj (o o' : Nat) (old a c : Tx) : SwOk (sideC o old a c) (sideC o' old c a) := by
 unfold sideC
 by_cases h : c ≠ old ∧ a ≠ old ∧ a ≠ c
 ·rw [if_pos h, if_pos ⟨h.2.1, h.1, fun g => h.2.2 g.symm⟩]
  exact ⟨⟨rfl, rfl, rfl, h.2.2⟩, trivial⟩
 ·rw [if_neg h, if_neg (fun g => h ⟨g.2.1, g.1, fun e => g.2.2 e.symm⟩)]
  trivial
theorem zGu {o : Nat} {old a c : Tx} (h : sideC o old a c = []) : sideT old a c = sideT old c a := by
 unfold sideC at h
 unfold sideT
 by_cases h1 : c = old
 ·by_cases h2 : a = old
  ·rw [if_neg (fun g => g.1 h1), if_neg (fun g => g.1 h2), h1, h2]
  ·rw [if_neg (fun g => g.1 h1), if_pos ⟨h2, h1⟩]
 ·by_cases h2 : a = old
  ·rw [if_pos ⟨h1, h2⟩, if_neg (fun g => g.1 h2)]
  ·by_cases h3 : a = c
   ·rw [if_neg (fun g => h2 g.2), if_neg (fun g => h1 g.2), h3]
   ·rw [if_pos ⟨h1, h2, h3⟩] at h; cases h
def WR (w w' : Wv) : Prop := w.p = w'.p ∧ w.q = w'.r ∧ w.r = w'.q ∧ SwOk w.l w'.l ∧ (w.l = [] → w.out = w'.out)
theorem WR.side {X Y Z : List Tx} {w w' : Wv} {n k1 k2 : Nat} (h : WR w w') : WR (w.side X Y Z n k1 k2) (w'.side X Z Y n k2 k1) := by
 obtain ⟨h1, h2, h3, h4, h5⟩ := h
 refine ⟨rfl, rfl, rfl, ?_, ?_⟩
 ·show SwOk (w.l ++ sideC w.out.length (jn X w.p n) (jn Y w.q k1) (jn Z w.r k2)) (w'.l ++ sideC w'.out.length (jn X w'.p n) (jn Z w'.q k2) (jn Y w'.r k1))
  rw [h1, h2, h3]
  exact h4.app (zGj _ _ _ _ _)
 ·intro he
  have he2 : w.l ++ sideC w.out.length (jn X w.p n) (jn Y w.q k1) (jn Z w.r k2) = [] := he
  obtain ⟨g1, g2⟩ := List.append_eq_nil_iff.1 he2
  show w.out ++ sideT (jn X w.p n) (jn Y w.q k1) (jn Z w.r k2) = w'.out ++ sideT (jn X w'.p n) (jn Z w'.q k2) (jn Y w'.r k1)
  rw [h5 g1, zGu g2, h1, h2, h3]
theorem WR.add {w w' : Wv} {t : Tx} (h : WR w w') : WR (w.add t) (w'.add t) := by
 obtain ⟨h1, h2, h3, h4, h5⟩ := h
 exact ⟨h1, h2, h3, h4, fun he => by show w.out ++ t = w'.out ++ t; rw [h5 he]⟩
theorem WR.go {X Y Z : List Tx} {M N : List (Nat × Nat)} : ∀ (ts : List Tx) (i : Nat) (w w' : Wv), WR w w' → WR (wvGo X Y Z M N ts i w) (wvGo X Z Y N M ts i w')
 | [], _, w, w', h => h.side
 | t :: ts, i, w, w', h => by
  rw [wvGo, wvGo]
  cases hm : M.lookup i with
  | none => cases hn : N.lookup i <;> simpa using WR.go ts (i + 1) w w' h
  | some p =>
   cases hn : N.lookup i with
   | none => simpa using WR.go ts (i + 1) w w' h
   | some q => exact WR.go ts (i + 1) _ _ h.side.add
def SpOk (out : Tx) : Nat → List Cf → Prop
 | at_, [] => at_ ≤ out.length
 | at_, c :: l => at_ ≤ c.a ∧ c.a ≤ c.z ∧ c.z ≤ out.length ∧ (out.take c.z).drop c.a = c.i ∧ SpOk out c.z l
theorem SpOk.grow {out x : Tx} : ∀ {l : List Cf} {k : Nat}, SpOk out k l → SpOk (out ++ x) k l
 | [], k, h => by show k ≤ (out ++ x).length; rw [List.length_append]; exact Nat.le_trans h (Nat.le_add_right _ _)
 | c :: l, k, ⟨h1, h2, h3, h4, h5⟩ => ⟨h1, h2, by rw [List.length_append]; omega, by rw [List.take_append_of_le_length h3]; exact h4, h5.grow⟩
theorem SpOk.snoc {out a b f : Tx} : ∀ {l : List Cf} {k : Nat}, SpOk out k l → SpOk (out ++ a) k (l ++ [⟨out.length, out.length + a.length, b, a, f⟩])
 | [], k, h => by
  refine ⟨h, Nat.le_add_right _ _, by rw [List.length_append]; exact Nat.le_refl _, ?_, by show _ ≤ (out ++ a).length; rw [List.length_append]; exact Nat.le_refl _⟩
  show ((out ++ a).take (out.length + a.length)).drop out.length = a
  rw [List.take_of_length_le (by rw [List.length_append]; exact Nat.le_refl _), List.drop_left]
 | c :: l, k, ⟨h1, h2, h3, h4, h5⟩ => ⟨h1, h2, by rw [List.length_append]; omega, by rw [List.take_append_of_le_length h3]; exact h4, h5.snoc⟩
theorem SpOk.side {out old a c : Tx} {l : List Cf} {k : Nat} (h : SpOk out k l) : SpOk (out ++ sideT old a c) k (l ++ sideC out.length old a c) := by
 unfold sideC
 split
 ·next g =>
  rw [show sideT old a c = a from if_neg (fun e => g.2.1 e.2)]
  exact h.snoc
 ·rw [List.append_nil]; exact h.grow
end Go.Eng
namespace Go.Eng
open Go
end Go.Eng
namespace ZP
open Go Go.Eng
attribute [local irreducible] WL WC WQ QFun zJ Does Q1 zD zB Go.Addr.add
attribute [local irreducible] weaveL cfs
namespace ZD20a
theorem zal {G G' : Prop} (next : G') (h : Bx G' → G := by intro zzn; (first | (refine iF 7 rfl ?_; refine zU func7 ?_ (hs := zAc _ _ _))); (repeat revert zzf); exact zzn.out) : G := h ⟨next⟩
end ZD20a
end ZP
namespace ZP
open Go Go.Eng
attribute [local irreducible] WL WC WQ QFun zJ Does Q1 zD zB Go.Addr.add
end ZP
namespace Go.Eng
theorem zGz (x : ByteArray) : (x == x) = true := by
 obtain ⟨d⟩ := x
 show (d == d) = true
 simp
end Go.Eng
namespace ZP
open Go Go.Eng
attribute [local irreducible] WL WC WQ QFun zJ Does Q1 zD zB Go.Addr.add
theorem zKO (c : Cf) : eqB Tryz.prog 8 138 (.agg #[.int .i64 (c.a : Int), .int .i64 (c.z : Int), str c.b, str c.i, str c.f]) (.agg #[.int .i64 (c.a : Int), .int .i64 (c.z : Int), str c.b, str c.i, str c.f]) = some true := by
 obtain ⟨a, z, b, i, f⟩ := c
 have h : ∀ (a z : Int) (b i f : ByteArray), eqB Tryz.prog 8 138 (.agg #[.int .i64 a, .int .i64 z, .string b, .string i, .string f]) (.agg #[.int .i64 a, .int .i64 z, .string b, .string i, .string f]) = some ((a == a && (z == z && true)) && (b == b && (i == i && (f == f && true)))) := fun a z b i f => by kernel_rfl
 rw [h]
 simp [zGz]
attribute [local irreducible] cfs
namespace ZD33a
theorem zal {G G' : Prop} (next : G') (h : Bx G' → G := by intro zzn; (first | (refine zJY rfl ?_; refine zJ2 ?_ (he := zKO _)) | (refine zJ3 rfl ?_; refine zJW ?_ (he := zKO _))); (repeat revert zzf); exact zzn.out) : G := h ⟨next⟩
end ZD33a
end ZP
