/-
  Parts of a walk, joined. No condition.
-/
import Derived.Test.YtgckeelnhafgaaaGreatDoorP14
import Derived.Deep.Strs
import Derived.Test.YtgckeelnhafgaaaGreatDoorRows
import Derived.Lib.LaidU8
import Derived.LaidLaws
set_option linter.all false
set_option maxRecDepth 100000
set_option maxHeartbeats 4000000
open Go.Proofs Go.Proofs.YtgckeelnhafgaaaGreatDoor
open Tryz
open Go Go.Eng
variable {P : Program} {ro : Option Nat} {n : Nat} {w0 : World} {Q : Exit → Act → World → Prop} {r : Env} {ds : List Dfr} {m : Mem} {H : SHeap} {ops : Array Oper} {l : List Oper} {d : Nat} {ty : TypeId} {pos : String} {after : Array Edge}
namespace ZP
open Go Go.Eng
attribute [local irreducible] WL WC WQ QFun zJ Does Q1 zD zB Go.Addr.add
attribute [local irreducible] mapT brN brL x6 histT
namespace ZD89Ca
theorem zal {G G' : Prop} (next : G') (h : Bx G' → G := by intro zzn; (first | (refine WL.indexAddrA rfl rfl (by exact znz) rfl rfl (by omega) rfl rfl ?_)); (repeat revert zzf); exact zzn.out) : G := h ⟨next⟩
end ZD89Ca
open ZD89Ca in
theorem zGU {bh bm br rm bh1 bm1 br1 rm1 b7 : Nat} {L M L1 M1 : List Dr} {B B1 : Br} {c c1 cap rc cap1 rc1 : Nat} {a ra a1 ra1 : Option Addr} {w0 : World} {m : Mem} {H : SHeap} {Q : Exit → Act → World → Prop}
  (hw : WOk m L M B c) (hw1 : WOk m L1 M1 B1 c1) (hn : NamesOk B) (hn1 : NamesOk B1) (hg : GTabs Tryz.prog m)
  (hK : ∀ m', m.le m' → WQ 156 w0 Q (.exit 4) [(7, .pp b7)] [] m' (.bl b7 [.pp bh, .pp br, .pp bh1, .pp br1] 60 :: .bl bh [.slice a L.length cap, .map (some bm)] 90 :: .row a cap 97 3 (drs L) :: .blk bm (mapT (brE B) c) :: .bl br [.slice ra M.length rc, .map (some rm)] 69 :: .row ra rc 118 3 (rdrs M) :: .blk rm (mapT (brE B) c) :: .bl bh1 [.slice a1 L1.length cap1, .map (some bm1)] 90 :: .row a1 cap1 97 3 (drs L1) :: .blk bm1 (mapT (brE B1) c1) :: .bl br1 [.slice ra1 M1.length rc1, .map (some rm1)] 69 :: .row ra1 rc1 118 3 (rdrs M1) :: .blk rm1 (mapT (brE B1) c1) :: H)) :
  WC Tryz.prog none 156 w0 ((yF (Tryz.f4.body.getD .skip)).getD 2 .skip) Q [(94, .int .i64 0), (7, .pp b7)] [] m (.bl b7 [.pp bh, .pp br, .pp bh1, .pp br1] 60 :: .bl bh [.slice a L.length cap, .map (some bm)] 90 :: .row a cap 97 3 (drs L) :: .blk bm (mapT (brE B) c) :: .bl br [.slice ra M.length rc, .map (some rm)] 69 :: .row ra rc 118 3 (rdrs M) :: .blk rm (mapT (brE B) c) :: .bl bh1 [.slice a1 L1.length cap1, .map (some bm1)] 90 :: .row a1 cap1 97 3 (drs L1) :: .blk bm1 (mapT (brE B1) c1) :: .bl br1 [.slice ra1 M1.length rc1, .map (some rm1)] 69 :: .row ra1 rc1 118 3 (rdrs M1) :: .blk rm1 (mapT (brE B1) c1) :: H) := by
 refine lpz (fun j r ds m' H' => ∃ (i : Nat) (mm : Mem), j = 2 - i ∧ r = [(94, .int .i64 (i : Int)), (7, .pp b7)] ∧ ds = [] ∧ mm = m' ∧ H' = .bl b7 [.pp bh, .pp br, .pp bh1, .pp br1] 60 :: .bl bh [.slice a L.length cap, .map (some bm)] 90 :: .row a cap 97 3 (drs L) :: .blk bm (mapT (brE B) c) :: .bl br [.slice ra M.length rc, .map (some rm)] 69 :: .row ra rc 118 3 (rdrs M) :: .blk rm (mapT (brE B) c) :: .bl bh1 [.slice a1 L1.length cap1, .map (some bm1)] 90 :: .row a1 cap1 97 3 (drs L1) :: .blk bm1 (mapT (brE B1) c1) :: .bl br1 [.slice ra1 M1.length rc1, .map (some rm1)] 69 :: .row ra1 rc1 118 3 (rdrs M1) :: .blk rm1 (mapT (brE B1) c1) :: H ∧ (i ≤ 2) ∧ (m.le mm)) (2 - (0)) ⟨0, m, rfl, rfl, rfl, rfl, rfl, by omega, Mem.le.refl _⟩ ?_
 rintro j r ds m' H' ⟨i, mm, rfl, rfl, rfl, rfl, rfl, hi, hle⟩
 have hwm := hw.le hle
 have hwm1 := hw1.le hle
 have hgm := hg.le hle
 obtain rfl | rfl | rfl : i = 0 ∨ i = 1 ∨ i = 2 := by omega
 ·try (refine stg ?_; intros)
  refine WC.weak zsb zpk (zIO hwm hn hgm ?_)
  intro m2 hle2
  try (refine stg ?_; intros)
  refine nxz (2 - (1)) ⟨1, m2, rfl, rfl, rfl, rfl, rfl, ?_, ?_⟩
  ·omega
  ·exact hle.trans hle2
 ·try (refine stg ?_; intros)
  refine WC.weak zsb zpk (zIQ hwm1 hn1 hgm ?_)
  intro m2 hle2
  try (refine stg ?_; intros)
  refine nxz (2 - (2)) ⟨2, m2, rfl, rfl, rfl, rfl, rfl, ?_, ?_⟩
  ·omega
  ·exact hle.trans hle2
 ·try (refine stg ?_; intros)
  exact WQ.weak zsb zpk (hK mm hle)
end ZP
namespace ZP
open Go Go.Eng
attribute [local irreducible] WL WC WQ QFun zJ Does Q1 zD zB Go.Addr.add
attribute [local irreducible] mapT brN brL x6 histT
namespace ZD89a
theorem zal {G G' : Prop} (next : G') (h : Bx G' → G := by intro zzn; (first | (refine WL.indexAddrA rfl rfl (by exact znz) rfl rfl (by omega) rfl rfl ?_)); (repeat revert zzf); exact zzn.out) : G := h ⟨next⟩
end ZD89a
open ZD89a in
theorem zCN (s : Tx) {S : List Hop} {sa : Option Addr} {sc : Nat} (hs : s.length ≤ 9223372036854775807) (hx : ∀ x ∈ S, x.Ok) (w0 : World) (m : Mem) (H : SHeap) (hr : ∀ w1 H1, RowR w1 m H1 6 sa (S.map Hop.cs)) (hg : GTabs Tryz.prog m) :
  Does Tryz.prog 4 #[str s, .slice sa S.length sc] w0 m H (fun v m' _ => v = .bool true ∧ m.le m') := by
 refine Does.of_body func4 rfl ntmps4 rfl ?_
 try (refine stg ?_; intros)
 refine zA func7 ?_ (hs := zAc _ _ _)
 rintro v m1 H ⟨hle1, rfl, rfl⟩
 by_cases hlong : 65536 < s.length
 ·try (refine stg ?_; intros)
  refine zA func21 ?_ (hs := zDF s hlong hs _ _ _)
  rintro v m2 H ⟨rfl, rfl, rfl⟩
  try (refine stg ?_; intros)
  refine zA func7 ?_ (hs := zAc _ _ _)
  rintro v m3 H ⟨hle3, rfl, rfl⟩
  try (refine stg ?_; intros)
  exact q_fz (H0 := H) ⟨rfl, hle1.trans hle3⟩
 ·have hm6 : (s.take (min (s.length : Int) 600).toNat).length ≤ 65536 := by rw [List.length_take]; omega
  refine stg ?_; intros; rename_i b7
  generalize s.take (min (s.length : Int) 600).toNat = t at *
  refine lpz (fun j r ds m' H' => ∃ (i : Nat) (C : List Value) (G : SHeap), j = 2 - i ∧ r = [(39, .int .i64 (i : Int)), (0, str t), (1, .slice sa S.length sc), (7, .pp b7)] ∧ ds = [] ∧ m1 = m' ∧ H' = .blk b7 (.cells C.toArray 60 (0, 0)) :: (G ++ H) ∧ ((i = 0 ∧ C = [.pointer none, .pointer none, .pointer none, .pointer none] ∧ G = []) ∨ (i = 1 ∧ ∃ bh bm bd br rm rd, C = [.pp bh, .pp br, .pointer none, .pointer none] ∧ G = .bl bh [.slice (some ⟨bd, 0, none⟩) 1 1, .map (some bm)] 90 :: .row (some ⟨bd, 0, none⟩) 1 97 3 (drs [⟨0, [], .slice none 0 0, t⟩]) :: .blk bm (mapT (brE [(0, mainN, 0)]) 1) :: .bl br [.slice (some ⟨rd, 0, none⟩) 1 1, .map (some rm)] 69 :: .row (some ⟨rd, 0, none⟩) 1 118 3 (rdrs [⟨0, [], .slice none 0 0, t⟩]) :: .blk rm (mapT (brE [(0, mainN, 0)]) 1) :: []) ∨ (i = 2 ∧ ∃ bh bm bd br rm rd bh1 bm1 bd1 br1 rm1 rd1, C = [.pp bh, .pp br, .pp bh1, .pp br1] ∧ G = .bl bh [.slice (some ⟨bd, 0, none⟩) 1 1, .map (some bm)] 90 :: .row (some ⟨bd, 0, none⟩) 1 97 3 (drs [⟨0, [], .slice none 0 0, t⟩]) :: .blk bm (mapT (brE [(0, mainN, 0)]) 1) :: .bl br [.slice (some ⟨rd, 0, none⟩) 1 1, .map (some rm)] 69 :: .row (some ⟨rd, 0, none⟩) 1 118 3 (rdrs [⟨0, [], .slice none 0 0, t⟩]) :: .blk rm (mapT (brE [(0, mainN, 0)]) 1) :: .bl bh1 [.slice (some ⟨bd1, 0, none⟩) 1 1, .map (some bm1)] 90 :: .row (some ⟨bd1, 0, none⟩) 1 97 3 (drs [⟨0, [], .slice none 0 0, t⟩]) :: .blk bm1 (mapT (brE [(0, mainN, 0)]) 1) :: .bl br1 [.slice (some ⟨rd1, 0, none⟩) 1 1, .map (some rm1)] 69 :: .row (some ⟨rd1, 0, none⟩) 1 118 3 (rdrs [⟨0, [], .slice none 0 0, t⟩]) :: .blk rm1 (mapT (brE [(0, mainN, 0)]) 1) :: []))) (2 - (0)) ⟨0, [.pointer none, .pointer none, .pointer none, .pointer none], [], rfl, rfl, rfl, rfl, rfl, .inl ⟨rfl, rfl, rfl⟩⟩ ?_
  rintro j r ds m' H' ⟨i, C, G, rfl, rfl, rfl, rfl, rfl, hG⟩
  rcases hG with ⟨rfl, rfl, rfl⟩ | ⟨rfl, bh, bm, bd, br, rm, rd, rfl, rfl⟩ | ⟨rfl, bh, bm, bd, br, rm, rd, bh1, bm1, bd1, br1, rm1, rd1, rfl, rfl⟩
  ·simp only [List.nil_append]
   try (refine stg ?_; intros)
   refine zA func21 ?_ (hs := zFD t hm6 _ _ _)
   rintro v m2 H2 ⟨rfl, bh, bm, bd, rfl, rfl⟩
   try (refine stg ?_; intros)
   refine zA func22 ?_ (hs := zFJ t _ _ _)
   rintro v m3 H3 ⟨rfl, br, rm, rd, rfl, rfl⟩
   try (refine stg ?_; intros)
   refine nxz (2 - (1)) ⟨1, [.pp bh, .pp br, .pointer none, .pointer none], .bl bh [.slice (some ⟨bd, 0, none⟩) 1 1, .map (some bm)] 90 :: .row (some ⟨bd, 0, none⟩) 1 97 3 (drs [⟨0, [], .slice none 0 0, t⟩]) :: .blk bm (mapT (brE [(0, mainN, 0)]) 1) :: .bl br [.slice (some ⟨rd, 0, none⟩) 1 1, .map (some rm)] 69 :: .row (some ⟨rd, 0, none⟩) 1 118 3 (rdrs [⟨0, [], .slice none 0 0, t⟩]) :: .blk rm (mapT (brE [(0, mainN, 0)]) 1) :: [], rfl, rfl, rfl, rfl, rfl, ?_⟩
   ·exact .inr (.inl ⟨rfl, bh, bm, bd, br, rm, rd, rfl, rfl⟩)
  ·simp only [List.cons_append, List.nil_append]
   try (refine stg ?_; intros)
   refine zA func21 ?_ (hs := zFD t hm6 _ _ _)
   rintro v m2 H2 ⟨rfl, bh1, bm1, bd1, rfl, rfl⟩
   try (refine stg ?_; intros)
   refine zA func22 ?_ (hs := zFJ t _ _ _)
   rintro v m3 H3 ⟨rfl, br1, rm1, rd1, rfl, rfl⟩
   try (refine stg ?_; intros)
   refine nxz (2 - (2)) ⟨2, [.pp bh, .pp br, .pp bh1, .pp br1], .bl bh [.slice (some ⟨bd, 0, none⟩) 1 1, .map (some bm)] 90 :: .row (some ⟨bd, 0, none⟩) 1 97 3 (drs [⟨0, [], .slice none 0 0, t⟩]) :: .blk bm (mapT (brE [(0, mainN, 0)]) 1) :: .bl br [.slice (some ⟨rd, 0, none⟩) 1 1, .map (some rm)] 69 :: .row (some ⟨rd, 0, none⟩) 1 118 3 (rdrs [⟨0, [], .slice none 0 0, t⟩]) :: .blk rm (mapT (brE [(0, mainN, 0)]) 1) :: .bl bh1 [.slice (some ⟨bd1, 0, none⟩) 1 1, .map (some bm1)] 90 :: .row (some ⟨bd1, 0, none⟩) 1 97 3 (drs [⟨0, [], .slice none 0 0, t⟩]) :: .blk bm1 (mapT (brE [(0, mainN, 0)]) 1) :: .bl br1 [.slice (some ⟨rd1, 0, none⟩) 1 1, .map (some rm1)] 69 :: .row (some ⟨rd1, 0, none⟩) 1 118 3 (rdrs [⟨0, [], .slice none 0 0, t⟩]) :: .blk rm1 (mapT (brE [(0, mainN, 0)]) 1) :: [], rfl, rfl, rfl, rfl, rfl, ?_⟩
   ·exact .inr (.inr ⟨rfl, bh, bm, bd, br, rm, rd, bh1, bm1, bd1, br1, rm1, rd1, rfl, rfl⟩)
  ·simp only [List.cons_append, List.nil_append]
   try (refine stg ?_; intros)
   refine zA func23 ?_ (hs := zGd hx _ _ _ (fun w1 H1 => (hr w1 H1).le hle1))
   rintro v m2 H2 ⟨rfl, a2, c2, rfl, rfl⟩
   have hscl : (scr S).length ≤ 40 := by unfold scr; rw [List.length_map, List.length_take]; omega
   have hzo : ∀ x ∈ scr S, x.Ok := by
    intro x hxm
    unfold scr at hxm
    obtain ⟨y, hy, rfl⟩ := List.mem_map.1 hxm
    have hyo := hx y (List.mem_of_mem_take hy)
    unfold cutO
    split
    ·unfold Hop.Ok at hyo ⊢
     refine ⟨hyo.1, hyo.2.1, hyo.2.2.1, hyo.2.2.2.1, hyo.2.2.2.2.1, ?_⟩
     rw [List.length_take]; omega
    ·exact hyo
   try (refine stg ?_; intros)
   refine WC.weak zsb zpk (zH1 (bh := bh) (bm := bm) (br := br) (rm := rm) (bh1 := bh1) (bm1 := bm1) (br1 := br1) (rm1 := rm1) (b7 := b7) (WOk.fresh hm6) (WOk.fresh hm6) NamesOk.fresh NamesOk.fresh hzo hscl ?_)
   intro m3 a ra a1 ra1 cap rc c cap1 rc1 c1 L M L1 M1 B B1 hle3 hw hw1 hn hn1
   try (refine stg ?_; intros)
   refine WC.weak zsb zpk (zGU (b7 := b7) (bh := bh) (bm := bm) (br := br) (rm := rm) (bh1 := bh1) (bm1 := bm1) (br1 := br1) (rm1 := rm1) hw hw1 hn hn1 (hg.le (hle1.trans hle3)) ?_)
   intro m4 hle4
   try (refine stg ?_; intros)
   refine zA func7 ?_ (hs := zAc _ _ _)
   rintro v m5 H ⟨hle5, rfl, rfl⟩
   try (refine stg ?_; intros)
   exact q_fz (H0 := H) ⟨rfl, hle1.trans (hle3.trans (hle4.trans hle5))⟩
end ZP
namespace Go.Eng
open Go Go.RowKit Go.ChangeShapes Go.WideShapes Go.ChangeMaps
section
variable {H : Type} {enc : TypeId × Value → H}
theorem zIp {sz : Nat} : ∀ {es : List (List Value)}, (∀ e ∈ es, e.length = sz) → ∀ {j : Nat} {v : Value}, es.flatten[j]? = some v → ∃ i c e, es[i]? = some e ∧ c < sz ∧ j = i * sz + c ∧ e[c]? = some v
 | [], _, j, v, h => by simp at h
 | e :: es, he, j, v, h => by
  have hl : e.length = sz := he e List.mem_cons_self
  rw [List.flatten_cons] at h
  by_cases hj : j < sz
  ·rw [List.getElem?_append_left (by omega)] at h
   exact ⟨0, j, e, rfl, hj, by simp, h⟩
  ·rw [List.getElem?_append_right (by omega), hl] at h
   obtain ⟨i, c, e', h1, h2, h3, h4⟩ := zIp (fun x hx => he x (List.mem_cons_of_mem _ hx)) h
   exact ⟨i + 1, c, e', by simpa using h1, h2, by rw [Nat.add_mul, Nat.one_mul]; omega, h4⟩
theorem zHN {α : Type} [Inhabited α] (sz : Nat) (val : α → List Value) (dat : α → DataW H) (ok : α → Prop) (hsz : ∀ x, (val x).length = sz) {W : World} {r : Go.Reach} {b0 : Nat} {t e : TypeId} {v : Value} {d : DataW H} {ps : List MemPlace} (ht : P.underlying t = some (.slice e)) (hc : P.cellsOf e = sz)
  (hone : ∀ (n : Nat) (u : List Value) (y : DataW H × List MemPlace), DataW.trod enc P W 0 (fun _ => true) true n e u = some y → ∃ x, u = val x ∧ y.1 = dat x ∧ ok x)
  (hval : Value.okWide P W r b0 t v) (h : DataW.Trod enc P W 0 (fun _ => true) true t v d ps) : ∃ (a : Option Addr) (cap : Nat) (ns : List α) (spare : List (DataW H)), v = .slice a ns.length cap ∧ ns.length ≤ cap ∧ (∀ x ∈ ns, ok x) ∧
   (d = .nil ∧ ns = [] ∨ d = .slice (ns.map dat) spare) ∧ ∀ w0 Hp, RowR w0 (memOf W) Hp sz a (ns.map val) := by
 obtain ⟨a, len, cap, rfl⟩ := okWide_slice ht hval
 obtain ⟨n, hn⟩ := h
 rcases Deep.open_slice ht hn with ⟨h1, h2⟩ | ⟨a', len', cap', m, n', D, Pl, h1, _, hle, _, hm, h2, hx⟩
 ·simp [Value.cells] at h1
  obtain ⟨rfl, rfl, rfl⟩ := h1
  exact ⟨none, 0, [], [], rfl, Nat.le_refl _, (by simp), .inl ⟨congrArg Prod.fst h2, rfl⟩, fun _ _ => RowR.nil⟩
 ·simp [Value.cells] at h1
  obtain ⟨rfl, rfl, rfl⟩ := h1
  simp only [if_true] at hm
  subst hm
  rw [hc] at hx
  obtain ⟨X, hX⟩ := Deep.choose_lt (α := α) (n := m) (p := fun i x => W.cells? 0 (a'.add (i * sz)) sz = some (val x) ∧ D i = dat x ∧ ok x) (fun i hi => by
   obtain ⟨u, g1, g2⟩ := hx i hi
   obtain ⟨x, rfl, e2, e3⟩ := hone _ _ _ g2
   exact ⟨x, g1, e2, e3⟩)
  refine ⟨some a', m, (List.range len).map X, (List.range (m - len)).map fun j => D (len + j), by simp, by simpa using hle, ?_, .inr ?_, fun w0 Hp => ?_⟩
  ·intro x hxm
   obtain ⟨i, hi, rfl⟩ := List.mem_map.1 hxm
   exact (hX i (by have := List.mem_range.1 hi; omega)).2.2
  ·have := congrArg Prod.fst h2
   simp only at this
   rw [this, List.map_map]
   congr 1
   exact List.map_congr_left fun i hi => (hX i (by have := List.mem_range.1 hi; omega)).2.1
  ·have hall : ∀ e ∈ ((List.range len).map X).map val, e.length = sz := by
    intro e he
    obtain ⟨x, _, rfl⟩ := List.mem_map.1 he
    exact hsz x
   refine RowR.came hall ?_
   intro j v hj
   obtain ⟨i, c, e, h1, h2, rfl, h4⟩ := zIp hall hj
   rw [List.getElem?_map, List.getElem?_map] at h1
   obtain ⟨x, hx1, rfl⟩ := Option.map_eq_some_iff.1 h1
   obtain ⟨i', hi, rfl⟩ := Option.map_eq_some_iff.1 hx1
   obtain ⟨hjl, rfl⟩ := List.getElem?_eq_some_iff.1 hi
   rw [List.getElem_range] at h4
   have hjl' : i < len := by simpa using hjl
   have g := (World.cells?_some (hX i (by omega)).1).2.2 c h2
   rw [h4] at g
   rw [← g, Go.Addr.add_add]
end
end Go.Eng
namespace Go.Eng
open Go Go.RowKit Go.ChangeShapes Go.WideShapes Go.ChangeMaps
def Hop.dat {H : Type} (x : Hop) : DataW H := .agg [.lit (.int .i64 x.kind), .lit (.string x.br), .lit (.string x.fr), .lit (.int .i64 x.hand), .lit (.int .i64 x.at_), .lit (.string x.text)]
theorem zHh {H : Type} {enc : TypeId × Value → H} {P : Program} {f0 f1 f2 f3 f4 f5 : Field} {W : World} {r : Go.Reach} {b0 : Nat} {t e : TypeId} {v : Value} {d : DataW H} {ps : List MemPlace} (ht : P.underlying t = some (.slice e)) (he : P.underlying e = some (.struct #[f0, f1, f2, f3, f4, f5])) (hc : P.cellsOf e = 6)
  (h0 : f0.offset = 0 ∧ P.underlying f0.type = some (.int .i64) ∧ P.cellsOf f0.type = 1) (h1 : f1.offset = 1 ∧ P.underlying f1.type = some .string ∧ P.cellsOf f1.type = 1) (h2 : f2.offset = 2 ∧ P.underlying f2.type = some .string ∧ P.cellsOf f2.type = 1)
  (h3 : f3.offset = 3 ∧ P.underlying f3.type = some (.int .i64) ∧ P.cellsOf f3.type = 1) (h4 : f4.offset = 4 ∧ P.underlying f4.type = some (.int .i64) ∧ P.cellsOf f4.type = 1) (h5 : f5.offset = 5 ∧ P.underlying f5.type = some .string ∧ P.cellsOf f5.type = 1)
  (hval : Value.okWide P W r b0 t v) (h : DataW.Trod enc P W 0 (fun _ => true) true t v d ps) : ∃ (a : Option Addr) (cap : Nat) (S : List Hop), v = .slice a S.length cap ∧ S.length ≤ cap ∧ (∀ x ∈ S, x.Ok) ∧
   (∃ spare : List (DataW H), d = .nil ∧ S = [] ∨ d = .slice (S.map Hop.dat) spare) ∧ ∀ w0 Hp, RowR w0 (memOf W) Hp 6 a (S.map Hop.cs) := by
 obtain ⟨a, cap, ns, sp, e1, e2, e3, e4, e5⟩ := zHN 6 Hop.cs Hop.dat Hop.Ok (fun _ => rfl) ht hc (fun n u y hy => by
  obtain ⟨xs, n', _, hx, hl, hlen, hf⟩ := DataW.trod_struct he hy
  rw [hc] at hl
  obtain ⟨c0, c1, c2, c3, c4, c5, rfl⟩ : ∃ c0 c1 c2 c3 c4 c5, u = [c0, c1, c2, c3, c4, c5] := by
   match u, hl with
   | [c0, c1, c2, c3, c4, c5], _ => exact ⟨c0, c1, c2, c3, c4, c5, rfl⟩
  match xs, hlen with
  | [y0, y1, y2, y3, y4, y5], _ =>
   have q0 := hf 0 f0 rfl
   have q1 := hf 1 f1 rfl
   have q2 := hf 2 f2 rfl
   have q3 := hf 3 f3 rfl
   have q4 := hf 4 f4 rfl
   have q5 := hf 5 f5 rfl
   rw [h0.1, h0.2.2] at q0
   rw [h1.1, h1.2.2] at q1
   rw [h2.1, h2.2.2] at q2
   rw [h3.1, h3.2.2] at q3
   rw [h4.1, h4.2.2] at q4
   rw [h5.1, h5.2.2] at q5
   obtain ⟨x0, b0, d0, w0⟩ := DataW.trod_int h0.2.1 q0
   obtain ⟨x1, b1, d1, w1⟩ := DataW.trod_string h1.2.1 q1
   obtain ⟨x2, b2, d2, w2⟩ := DataW.trod_string h2.2.1 q2
   obtain ⟨x3, b3, d3, w3⟩ := DataW.trod_int h3.2.1 q3
   obtain ⟨x4, b4, d4, w4⟩ := DataW.trod_int h4.2.1 q4
   obtain ⟨x5, b5, d5, w5⟩ := DataW.trod_string h5.2.1 q5
   simp at b0 b1 b2 b3 b4 b5
   have hmax : maxLen ≤ 9223372036854775807 := by decide
   simp only [Lit.wf, Bool.and_eq_true, decide_eq_true_eq] at w0 w3 w4
   refine ⟨⟨x0, x1.data.toList, x2.data.toList, x3, x4, x5.data.toList⟩, ?_, ?_, w0, w3, w4, ?_, ?_, ?_⟩
   ·rw [b0, b1, b2, b3, b4, b5]; rfl
   ·have := congrArg Prod.fst hx
    simp only at this
    rw [this]
    simp [Hop.dat, d0, d1, d2, d3, d4, d5]
   ·exact Nat.le_trans (Nat.le_of_eq Array.length_toList) (Nat.le_trans w1 hmax)
   ·exact Nat.le_trans (Nat.le_of_eq Array.length_toList) (Nat.le_trans w2 hmax)
   ·exact Nat.le_trans (Nat.le_of_eq Array.length_toList) (Nat.le_trans w5 hmax)) hval h
 exact ⟨a, cap, ns, e1, e2, e3, ⟨sp, e4⟩, e5⟩
end Go.Eng
namespace ZP
open Go Go.Eng
theorem zG3 {W : World} (h : laidMet Tryz.prog Rows.draftDoesRow.laid W) : GTabs Tryz.prog (memOf W) := by
 obtain ⟨g1, t1, cs1, f1, p1, a1, b1, c1, d1⟩ := Lib.laidMet.reads h (n := "internal/strconv.uint64pow10") (d := Rows.laid_internal_strconv_uint64pow10) (.tail _ (.tail _ (.head _)))
 obtain ⟨g2, t2, cs2, f2, p2, a2, b2, c2, d2⟩ := Lib.laidMet.reads h (n := "math/bits.deBruijn64tab") (d := Rows.laid_math_bits_deBruijn64tab) (.tail _ (.head _))
 obtain rfl := Option.some.inj ((show Tryz.prog.globalNamed "internal/strconv.uint64pow10" = some 1 by kernel_rfl).symm.trans a1)
 obtain rfl := Option.some.inj ((show Tryz.prog.globalNamed "math/bits.deBruijn64tab" = some 7 by kernel_rfl).symm.trans a2)
 obtain rfl := Option.some.inj ((show (Tryz.prog.globals[1]?).map (·.type) = some 298 by kernel_rfl).symm.trans b1)
 obtain rfl := Option.some.inj ((show (Tryz.prog.globals[7]?).map (·.type) = some 336 by kernel_rfl).symm.trans b2)
 have e1 : cs1.toList = Lib.pow10Tab.map fun z => Value.int .u64 z := Lib.cells_of_tab (k := .u64) (zs := Lib.pow10Tab) underlying298 underlying243 (by kernel_rfl) (by kernel_rfl) d1
 have e2 := Lib.cells_of_tab (k := .u8) (zs := [0, 1, 56, 2, 57, 49, 28, 3, 61, 58, 42, 50, 38, 29, 17, 4, 62, 47, 59, 36, 45, 43, 51, 22, 53, 39, 33, 30, 24, 18, 12, 5, 63, 55, 48, 27, 60, 41, 37, 16, 46, 35, 44, 21, 52, 32, 23, 11, 54, 26, 40, 15, 34, 20, 31, 10, 25, 14, 19, 9, 13, 8, 7, 6]) underlying336 underlying5 (by kernel_rfl) (by kernel_rfl) d2
 refine ⟨GV.of ?_, GV.of ?_⟩
 ·rw [c1, ← e1]
 ·rw [c2, ← e2]
end ZP
